/- Texts of this claim, one behind the other. -/
import Derived.Test.YtboeddfdbpjnjaaGreatM6
import Derived.Test.YtboeddfdbpjnjaaGreatM8
import Derived.Test.YtboeddfdbpjnjaaGreatM9
import Derived.Laws.StructEq
set_option linter.unusedSimpArgs false
set_option linter.unusedVariables false
namespace Go.Pw
open Go Go.Proofs
section
variable {h:PH} {R:AEnd->PH->Prop}
set_option maxRecDepth 100000 in
theorem rec_neq {K:Value->Prop} (a b c d:ByteArray):vBin Tryz.prog .neq 42 (.agg #[.string a,.string b]) (.agg #[.string c,.string d]) K↔K (.bool (!(decide (a=c)&&decide (b=d)))):=by
 refine vBin_run λx y w=>?_
 have u9:=Tryz.underlying9
 have a9:=Tryz.isAgg9
 have z9:=Tryz.sizeOf9
 have hS:Tryz.prog.underlying 42=some (.struct (Tryz.prog.fieldsOf 42)):=by kernel_rfl
 have hp:Tryz.prog.stoodInHeld 42=false:=by kernel_rfl
 have hg:=run_eqGuard_agg (P:=Tryz.prog) w .neq 42 x y #[.string a,.string b] #[.string c,.string d] (by kernel_rfl)
 have he:(Op.equalIn 10000 42 (.agg #[.string a,.string b]) (.agg #[.string c,.string d])).run Tryz.prog w = .ok (decide (a=c)&&decide (b=d)) w:=by
  rw[show (10000:Nat)=9999+1 from rfl,run_equalIn_agg w 9999 42 _ _ hS hp]
  simp only[Program.fieldsOf,Tryz.underlying42]
  go_simp
  have tl:∀x y:ByteArray,(x.toList=y.toList)=(x=y):=λx y=>propext ⟨λh=>by have:=str_eq x y;rw[h]at this;simpa using this,λh=>by rw[h]⟩
  simp only[tl]
  by_cases h1:a=c <;> by_cases h2:b=d <;> simp[h1,h2]
 rw[Sem.run_bind,hg]
 show (binOp .neq 42 _ _).run Tryz.prog w=_
 rw[run_neq_struct,he]
 rfl
end
end Go.Pw
set_option linter.unusedSimpArgs false
set_option linter.unusedVariables false
namespace Go.Pw
open Go Go.Proofs
def sameC (L M:Led) (i:Nat):Prop:=(∀j,M.f i j=L.f i j)/\M.r i=L.r i
theorem payB_same {L M:Led} {i:Nat} (h:sameC L M i) (hg:M.goods=L.goods):payB M i=payB L i:=by
 unfold payB numsOf
 rw[hg,h.2]
 simp only[h.1]
section
variable {h h0 g:PH} {e:TypeId} {esz n:Nat} {l:List Value} {s:Value}
theorem OB.base (hw:OB e esz h0 n l h s) (hs:Sub g h0):OB e esz g n l h s:=
 ⟨hs.trans hw.sub,hw.len,by
  rcases hw.buf with a | ⟨b,c,cap,a1,a2,a3,a4⟩
  ·exact .inl a
  ·exact .inr ⟨b,c,cap,a1,a2,hs.fresh a3,a4⟩⟩
end
end Go.Pw
set_option linter.unusedSimpArgs false
set_option linter.unusedVariables false
namespace Go.Pw
open Go Go.Proofs
section
variable {h h0 g G hb:PH} {R:AEnd->PH->Prop} {l l':List Ord} {s:Value} {t:Bool}
abbrev OF (h0:PH) (l:List Fil) (h:PH) (s:Value):Prop:=OB 218 3 h0 l.length (filsC l) h s
theorem takes_ok {F:Value×Value×Value×Value×Value×Value×Value×Value} {n:Int} {out:List Fil} {so:Value} {Kp:List PanicEntry->PH->Prop} {x4:(Value×Value×Value×Value×Value×Value×Value)->PH->Prop} {r:List Ord}
  (ob:OF h0 out g so) (hs:OrdsAt h0 s r) (hz:r.length<=64) (hout:out.length<=64) (hn:0<=n/\n<=1099511627776) (hright:∀o∈r,rightO o=true) (e1:F.2.2.2.2.2.2.1=s) (e2:F.2.2.2.2.2.2.2 = .int .i64 r.length)
  (hX:∀g s',OF h0 (runF r n out) g s'->x4 (F.1,F.2.1,F.2.2.1,s',F.2.2.2.1,F.2.2.2.2.1,F.2.2.2.2.2.1) g) :
  lf (b171_16 Kp x4) F (so,.int .i64 n,.int .i64 0) g:=by
 refine lf_intro (λq s' g=>∃(i:Nat) (sv:Value),s'=(sv,.int .i64 ((r.take i).foldl stF (n,out)).1,.int .i64 i)/\q=r.length-i/\i<=r.length/\OF h0 ((r.take i).foldl stF (n,out)).2 g sv) r.length
  ⟨0,so,rfl,rfl,by omega,ob⟩ ?_
 rintro q s' g ⟨i,sv,rfl,rfl,hi,ob⟩
 by_cases hin:i<r.length
 ·obtain⟨o,ho⟩:=at_some (l:=r) (k:=i) hin
  have hstep:(r.take (i+1)).foldl stF (n,out)=stF ((r.take i).foldl stF (n,out)) o:=by
   rw[List.take_add_one,ho,List.foldl_append];rfl
  have hlen:((r.take i).foldl stF (n,out)).2.length<=128:=by
   have:=foldF_len (r.take i) (n,out)
   rw[List.length_take]at this
   simp only at this
   omega
  have hbd:=foldF_bd (M:=1099511627776) (r.take i) (n,out) hn
  generalize hst:(r.take i).foldl stF (n,out)=st at *
  have key:∀(kn:(Value×Value×Value×Value×Value×Value×Value×Value)->(Value×Value×Value)->PH->Prop) Kp x4,
    (∀g2 s2,OF h0 (stF st o).2 g2 s2->kn F (s2,.int .i64 (stF st o).1,.int .i64 ((i:Int)+1)) g2) ->
    b171_16 Kp x4 F kn (sv,.int .i64 st.1,.int .i64 i) g:=by
   intro kn Kp x4 hkn
   unfold b171_16
   rw[e1,e2]
   have hlt:(i:Int)<(r.length:Int):=by omega
   simp only[vBin_lss,hlt,decide_true,dIf_b]
   refine⟨λ_=>?_,λe=>absurd e (by simp)⟩
   refine ord_copy (OS.mono _ _ ob.sub hs) ho λc hc=>?_
   have obc:=ob.up (sub_ins (.cells o.a 78 (0,0)) hc)
   have hcc:ins g c (.cells o.a 78 (0,0)) c=some (.cells o.a 78 (0,0)):=ins_eq _ _ _
   revert obc hcc
   generalize ins g c (.cells o.a 78 (0,0))=G
   intro obc hcc
   have hww:IntKind.i64.wrap ((i:Int)+1)=(i:Int)+1:=w64 (by omega) (by omega)
   have x0:=λK=>vLoad_1 (K:=K) hcc (show o.a[0]?=some (.int .i64 o.id)from rfl)
   have x1:=λK=>vLoad_1 (K:=K) hcc (show o.a[1]?=some (.int .i64 o.own)from rfl)
   have x3:=λK=>vLoad_1 (K:=K) hcc (show o.a[3]?=some (.int .i64 o.am)from rfl)
   have ham:=rightO_iff.1 (hright o (List.mem_of_getElem? ho))
   simp only[vFA_p,Nat.zero_add,x3,vMinMax_i,Bool.false_eq_true,if_false]
   have hmin:(if o.am<st.1 then o.am else st.1)=min st.1 o.am:=by split <;> omega
   rw[hmin]
   unfold stF at hkn
   simp only[vBin_gtr,dIf_b,decide_eq_true_eq,decide_eq_false_iff_not]
   refine⟨λhpos=>?_,λhneg=>?_⟩
   ·rw[if_pos hpos]at hkn
    simp only[x0,x1]
    refine⟨_,build_fil o.id o.own (min st.1 o.am),by omega,_,fill_fil ⟨o.id,o.own,min st.1 o.am⟩,λd hd=>⟨by omega,by omega,rfl,?_⟩⟩
    have obd:=obc.up (sub_ins (.cells (Fil.a ⟨o.id,o.own,min st.1 o.am⟩) 218) hd)
    refine ob_app (m:=1) (news:=(Fil.a ⟨o.id,o.own,min st.1 o.am⟩).toList) obd (by simp only[roomBytes];omega) (by omega) rfl
     (λK' hk'=>.inr (.inr ⟨rfl,d,0,1,1,_,_,_,rfl,ins_eq _ _ _,by show 0+1*3<=3;omega,?_,hk'⟩)) (λb' off l cc hx gg cap hs=>?_) λg5 s5 ob5=>?_
    ·intro v hv
     have:v∈filsC [⟨o.id,o.own,min st.1 o.am⟩]:=hv
     exact filsC_one v this
    ·cases hx
     intro e
     rcases obc.buf with⟨h1',_⟩ | ⟨g3,c3,cap3,h1',h2',_⟩
     ·rw[h1']at hs;cases hs
     ·rw[h1']at hs;cases hs;rw[<-e,hd]at h2';cases h2'
    ·simp only[vBin_sub,vBin_add,hww]
     rw[w64 (by omega) (by omega)]
     refine hkn _ _ ?_
     unfold OF
     rw[List.length_append,<-filsC_snoc]
     exact ob5
   ·rw[if_neg hneg]at hkn
    simp only[vBin_add,hww]
    exact hkn _ _ obc
  refine key _ _ _ λg2 s2 ob2=>⟨rfl,r.length-(i+1),by omega,i+1,s2,by rw[hstep];rfl,rfl,by omega,by rw[hstep];exact ob2⟩
 ·have e:i=r.length:=by omega
  unfold b171_16
  rw[e2]
  have hge:¬(i:Int)<(r.length:Int):=by omega
  simp only[vBin_lss,hge,decide_false,dIf_b]
  refine⟨λe=>absurd e (by simp),λ_=>?_⟩
  rw[e,List.take_length]at ob
  exact hX _ _ ob
theorem fill_bools:Instr.fill (λi=>some (i*1,1)) (rep #[Value.bool false] (2*1)) [(0,.bool true),(1,.bool false)]=some #[.bool true,.bool false]:=by
 have e:Array.range 2=#[0,1]:=by decide
 simp[Instr.fill,rep,Value.cells,e]
theorem runF_len (l:List Ord) (n:Int) (out:List Fil):(runF l n out).length<=out.length+l.length:=foldF_len l (n,out)
theorem isort_len (l:List Ord):(isort l).length=l.length:=(isort_perm l).length_eq
theorem round_ok {F:Value×Value×Value×Value×Value} {rs:List Ord} {sr:Value} {p n:Int} {q:Nat} {out:List Fil} {so:Value} {k:Nat} {Kp:List PanicEntry->PH->Prop} {x0:Value->PH->Prop} {kn:(Value×Value×Value×Value×Value)->(Value×Value)->PH->Prop}
  (hF:F=(sr,.int .i64 p,.int .i64 n,.slice (some ⟨q,0,none⟩) 2 2,.int .i64 2)) (hk:(k=0/\t=true)\/(k=1/\t=false)) (ob:OF hb out g so) (hq:hb q=some (.cells #[.bool true,.bool false] 4 (0,0))) (hs:OrdsAt hb sr rs) (hz:rs.length<=64) (hn:0<=n/\n<=1099511627776)
  (hout:out.length<=64) (hright:∀o∈rs,rightO o=true) (hone:∀x∈rs,∀y∈rs,x.pl=y.pl->x=y)
  (hX:∀g s',OF hb (runF (isort (rs.filter (onSide t p))) n out) g s'->kn F (s',.int .i64 ((k+1:Nat):Int)) g):b171_4 Kp x0 F kn (so,.int .i64 k) g:=by
 subst hF
 unfold b171_4
 have hlt:(k:Int)<2:=by omega
 simp only[vBin_lss,hlt,decide_true,dIf_b,vIxS_p]
 refine⟨λ_=>⟨by omega,by omega,?_⟩,λe=>absurd e (by simp)⟩
 have hld:(#[.bool true,.bool false]:Array Value)[0+(k:Int).toNat*1]?=some (.bool t):=by
  rcases hk with⟨rfl,rfl⟩ | ⟨rfl,rfl⟩ <;> rfl
 rw[vLoad_1 (ob.sub _ _ hq) hld]
 obtain⟨pp,cap,hse⟩:=OS.lens hs
 rw[hse]
 simp only[vLenS_s]
 rw[<-hse]
 refine side_ok (t:=t) (p:=p) (OS.mono _ _ ob.sub hs) hz rfl rfl rfl rfl λg1 s1 ob1=>?_
 intro r hr
 simp only[Prod.mk.injEq]at hr
 obtain⟨r0,r1,r2,r7,r10,r19,r20,r21⟩:=hr
 simp only[r0,r1,r2,r7,r10,r19,r20,r21]
 have hlf:(rs.filter (onSide t p)).length<=64:=Nat.le_trans (List.length_filter_le _ _) hz
 have hsd:∀o∈rs.filter (onSide t p),o.buys=t:=λo ho=>by
  have:=(List.mem_filter.1 ho).2
  unfold onSide at this
  exact (of_decide_eq_true this).1
 refine sort_ok ob1 hsd hlf (λx hx y hy _ hp=>hone x (List.mem_filter.1 hx).1 y (List.mem_filter.1 hy).1 hp) λg2 ob2=>?_
 simp only[AEnd.elim]
 obtain⟨h0,hs0,oa,os2⟩:=ob.turn ob2
 obtain⟨p2,cap2,hse2⟩:=ob_len ob2
 have hsil:=isort_len (rs.filter (onSide t p))
 rw[hse2]
 simp only[vLenS_s]
 rw[<-hse2]
 refine takes_ok (F:=(_,_,_,_,_,_,_,_)) (r:=isort (rs.filter (onSide t p))) oa os2 (by omega) hout hn (λo ho=>hright o (List.mem_filter.1 ((isort_perm _).mem_iff.1 ho)).1) rfl rfl λg3 s3 ob3=>?_
 intro r2 hr2
 simp only[Prod.mk.injEq]at hr2
 obtain⟨q0,q1,q2,q7,q19,q20,q21⟩:=hr2
 simp only[q0,q1,q2,q7,q19,q20,q21,vBin_add]
 rw[w64 (by omega) (by omega),show (k:Int)+1=((k+1:Nat):Int)by omega]
 exact hX g3 s3 (ob3.base hs0)
theorem fills_ok {p n:Int} (hs:OrdsAt h s l) (hz:l.length<=64) (hn:0<=n/\n<=1099511627776) (hone:∀x∈l,∀y∈l,x.pl=y.pl->x=y)
  (hR:∀g s',OF h (fillsO l p n) g s'->R (.ret s') g):ACalls Tryz.prog 171 #[s,.int .i64 p,.int .i64 n] h R:=by
 refine call171 ?_
 unfold sh171
 refine rights_ok hs hz λh1 s1 ob1=>?_
 simp only[AEnd.elim]
 refine⟨by omega,_,fill_bools,λq hq=>?_⟩
 simp only[vLenS_s]
 have hlen:(rightsO l).length<=64:=Nat.le_trans (List.length_filter_le _ _) hz
 have hright:=rightsO_right (l:=l)
 have hone2:∀x∈rightsO l,∀y∈rightsO l,x.pl=y.pl->x=y:=λx hx y hy=>hone x (List.mem_filter.1 hx).1 y (List.mem_filter.1 hy).1
 have obq:=ob1.up (sub_ins (.cells #[.bool true,.bool false] 4) hq)
 have hqq:ins h1 q (.cells #[.bool true,.bool false] 4) q=some (.cells #[.bool true,.bool false] 4 (0,0)):=ins_eq _ _ _
 revert obq hqq
 generalize ins h1 q (.cells #[.bool true,.bool false] 4)=H
 intro obq hqq
 have ob0:OF H [] H (.slice none 0 0):=⟨Sub.refl H,rfl,.inl ⟨rfl,rfl,rfl⟩⟩
 refine lf_unroll 3 (lfn_step λkn hkn=>?_)
 refine round_ok (t:=true) (k:=0) rfl (.inl ⟨rfl,rfl⟩) ob0 hqq obq.os hlen hn (by simp) hright hone2 λg2 s2 ob2=>?_
 refine hkn _ _ (lfn_step λkn2 hkn2=>?_)
 have hl2:(runF (isort ((rightsO l).filter (onSide true p))) n []).length<=64:=by
  have h1:=runF_len (isort ((rightsO l).filter (onSide true p))) n []
  have h2:=isort_len ((rightsO l).filter (onSide true p))
  have h3:=List.length_filter_le (onSide true p) (rightsO l)
  simp only[List.length_nil]at h1
  omega
 refine round_ok (t:=false) (k:=1) rfl (.inr ⟨rfl,rfl⟩) ob2 hqq obq.os hlen hn hl2 hright hone2 λg3 s3 ob3=>?_
 refine hkn2 _ _ (lfn_step λkn3 hkn3=>?_)
 unfold b171_4
 simp
 intro r hr
 rw[show r 7=_ from hr]
 exact hR _ _ (ob3.base obq.sub)
end
end Go.Pw
set_option linter.unusedSimpArgs false
set_option linter.unusedVariables false
namespace Go.Pw
open Go Go.Proofs
def subF (l:List Ord) (f:Fil):List Ord:=match idx l f.id with
 | some k=>match l[k]? with
  | some o=>l.set k {o with am:=o.am-f.am}
  | none=>l
 | none=>l
structure Clr where
 p:Int
 n:Int
 fs:List Fil
 B:Bk
def clearO (B:Bk):Clr:=
 let c:=crossO (rightsO B.l)
 let fs:=fillsO B.l c.1 c.2
 {p:=c.1,n:=c.2,fs:=fs,B:={B with l:=(fs.foldl subF B.l).filter λo=>!decide (o.am=0)}}
theorem idx_set {i:Int} {k:Nat} {o:Ord} {v:Int}:∀{l:List Ord},l[k]?=some o->idx (l.set k {o with am:=v}) i=idx l i:=by
 induction k with
 | zero=>intro l h;cases l with
  | nil=>simp at h
  | cons a l=>simp at h;subst h;rfl
 | succ k ih=>intro l h;cases l with
  | nil=>simp at h
  | cons a l=>
   simp only[List.getElem?_cons_succ]at h
   simp only[List.set_cons_succ,idx]
   rw[ih h]
theorem subF_idx (l:List Ord) (f:Fil) (i:Int):idx (subF l f) i=idx l i:=by
 unfold subF
 split
 ·split
  ·rename_i o ho;exact idx_set ho
  ·rfl
 ·rfl
theorem subF_len (l:List Ord) (f:Fil):(subF l f).length=l.length:=by
 unfold subF
 split
 ·split
  ·rw[List.length_set]
  ·rfl
 ·rfl
theorem foldS_idx (i:Int):∀(fs:List Fil) (l:List Ord),idx (fs.foldl subF l) i=idx l i
 | [],_=>rfl
 | f::fs,l=>by rw[List.foldl_cons,foldS_idx i fs,subF_idx]
theorem foldS_len:∀(fs:List Fil) (l:List Ord),(fs.foldl subF l).length=l.length
 | [],_=>rfl
 | f::fs,l=>by rw[List.foldl_cons,foldS_len fs,subF_len]
theorem subF_am {l:List Ord} {f:Fil} {lo:Int} (h:∀o∈l,lo<=o.am/\o.am<=1048576) (hf:0<=f.am/\f.am<=1048576):∀o∈subF l f,lo-1048576<=o.am/\o.am<=1048576:=by
 intro o ho
 unfold subF at ho
 split at ho
 ·split at ho
  ·rename_i x hx
   rcases List.mem_or_eq_of_mem_set ho with h1 | h1
   ·have:=h o h1;omega
   ·have:=h x (List.mem_of_getElem? hx)
    rw[h1];simp only;omega
  ·have:=h o ho;omega
 ·have:=h o ho;omega
theorem foldS_am {fs0:List Fil} (hf:∀f∈fs0,0<=f.am/\f.am<=1048576):∀(fs:List Fil) (l:List Ord) (lo:Int),(∀f∈fs,f∈fs0)->(∀o∈l,lo<=o.am/\o.am<=1048576)->∀o∈fs.foldl subF l,lo-1048576*fs.length<=o.am/\o.am<=1048576
 | [],l,lo,_,h=>by simpa using h
 | f::fs,l,lo,hm,h=>λo ho=>by
  rw[List.foldl_cons]at ho
  have:=foldS_am hf fs (subF l f) (lo-1048576) (λf hf=>hm f (by simp[hf])) (subF_am h (hf f (hm f (by simp)))) o ho
  simp only[List.length_cons]
  omega
theorem stF_mem {s:Int×List Fil} {o:Ord} {f:Fil} (hf:f∈(stF s o).2):f∈s.2\/(f.id=o.id/\f.own=o.own/\0<f.am/\f.am<=o.am):=by
 unfold stF at hf
 split at hf
 ·simp only[List.mem_append,List.mem_singleton]at hf
  rcases hf with hf | rfl
  ·exact .inl hf
  ·exact .inr ⟨rfl,rfl,by simpa using ‹_›,by simp only;omega⟩
 ·exact .inl hf
theorem foldF_mem:∀(l:List Ord) (s:Int×List Fil) (f:Fil),f∈(l.foldl stF s).2->f∈s.2\/∃o∈l,f.id=o.id/\f.own=o.own/\0<f.am/\f.am<=o.am
 | [],s,f,h=>.inl h
 | o::l,s,f,h=>by
  rw[List.foldl_cons]at h
  rcases foldF_mem l _ f h with h | ⟨x,hx,h⟩
  ·rcases stF_mem h with h | h
   ·exact .inl h
   ·exact .inr ⟨o,by simp,h⟩
  ·exact .inr ⟨x,by simp[hx],h⟩
theorem fillsO_mem {l:List Ord} {p n:Int} {f:Fil} (hf:f∈fillsO l p n):∃o∈l,rightO o=true/\f.id=o.id/\f.own=o.own/\0<f.am/\f.am<=o.am:=by
 have side:∀b o,o∈isort (sideO l b p)->o∈l/\rightO o=true:=λb o ho=>by
  have h1:=(isort_perm _).mem_iff.1 ho
  have h2:=List.mem_filter.1 (List.mem_filter.1 h1).1
  exact h2
 unfold fillsO runF at hf
 rcases foldF_mem _ _ _ hf with h | ⟨o,ho,h⟩
 ·rcases foldF_mem _ _ _ h with h | ⟨o,ho,h⟩
  ·cases h
  ·exact⟨o,(side _ _ ho).1,(side _ _ ho).2,h⟩
 ·exact⟨o,(side _ _ ho).1,(side _ _ ho).2,h⟩
theorem fillsO_len (l:List Ord) (p n:Int):(fillsO l p n).length<=2*l.length:=by
 have h1:=runF_len (isort (sideO l true p)) n []
 have h2:=runF_len (isort (sideO l false p)) n (runF (isort (sideO l true p)) n [])
 have h3:∀b,(isort (sideO l b p)).length<=l.length:=λb=>by
  rw[isort_len]
  exact Nat.le_trans (List.length_filter_le _ _) (List.length_filter_le _ _)
 have:=h3 true;have:=h3 false
 simp only[List.length_nil]at h1
 unfold fillsO
 omega
theorem cross_bd {r:List Ord} (hz:r.length<=64) (hr:∀o∈r,rightO o=true):0<=(crossO r).2/\(crossO r).2<=67108864/\0<=(crossO r).1/\(crossO r).1<=1099511627776:=by
 have step:∀pa o,o∈r->0<=pa.2/\pa.2<=67108864/\0<=pa.1/\pa.1<=1099511627776->0<=(crossStep r pa o).2/\(crossStep r pa o).2<=67108864/\0<=(crossStep r pa o).1/\(crossStep r pa o).1<=1099511627776:=λpa o ho h=>by
  have h1:=sumO_bd (f:=fBuy o.pr) (M:=1048576) (by omega) r λx hx=>by
   have:=rightO_iff.1 (hr x hx)
   unfold fBuy;split <;> omega
  have h2:=sumO_bd (f:=fSell o.pr) (M:=1048576) (by omega) r λx hx=>by
   have:=rightO_iff.1 (hr x hx)
   unfold fSell;split <;> omega
  have h3:=rightO_iff.1 (hr o ho)
  unfold crossStep
  simp only
  split
  ·simp only;omega
  ·exact h
 have go:∀(m:List Ord) pa,(∀o∈m,o∈r)->0<=pa.2/\pa.2<=67108864/\0<=pa.1/\pa.1<=1099511627776->0<=(m.foldl (crossStep r) pa).2/\(m.foldl (crossStep r) pa).2<=67108864/\0<=(m.foldl (crossStep r) pa).1/\(m.foldl (crossStep r) pa).1<=1099511627776:=λm=>by
  induction m with
  | nil=>intro pa _ h;exact h
  | cons o m ih=>intro pa hm h;exact ih _ (λo ho=>hm o (by simp[ho])) (step pa o (hm o (by simp)) h)
 exact go r (0,0) (λ_ h=>h) (by simp)
section
variable {h h0 g:PH} {R:AEnd->PH->Prop} {b:Nat} {B:Bk} {C:PH->Prop} {s:Value}
abbrev FilsAt (h:PH) (s:Value) (l:List Fil):Prop:=OS 218 3 s l.length (filsC l) h
theorem fil_copy {K:Value->PH->Prop} {k:Nat} {l:List Fil} {f:Fil} (hs:FilsAt h s l) (ho:l[k]?=some f) (hk:∀c,h c=none->K (ptr c) (ins h c (.cells f.a 218 (0,0)))) :
  vIxS 3 s (.int .i64 k) λt=>vLoad (some 3) t h λv=>vNew #[.int .i64 0,.int .i64 0,.int .i64 0] 218 h λp h1=>vStore 3 p v h1 λh2=>K p h2:=by
 have hi:k<l.length:=(List.getElem?_eq_some_iff.1 ho).1
 obtain⟨g,c,cap,rfl,hg,hsz,hget⟩:=OS.get hs (by omega)
 rw[vIxS_p]
 refine⟨by omega,by omega,?_⟩
 rw[show 0+(k:Int).toNat*3=k*3 by omega,vLoad_n hg (by omega)]
 have he:c.extract (k*3) (k*3+3)=f.a:=by
  apply Array.ext_getElem?
  intro j
  rw[Array.getElem?_extract]
  rcases Nat.lt_or_ge j 3 with h6 | h6
  ·rw[if_pos (by omega),hget _ (by omega),filsC_get l k f ho j h6,show f.cells=f.a.toList from rfl,Array.getElem?_toList]
  ·rw[if_neg (by omega),Array.getElem?_eq_none (show f.a.size<=j from h6)]
 rw[he]
 refine vNew_i λd hd=>?_
 refine vStore_to (cs:=f.a) (ins_eq _ _ _) (by rfl) (by rfl) (by cases f;rfl) ?_
 rw[ins_ins]
 exact hk d hd
theorem bk_clear (H:(BkP b B•C) h) (hz:B.l.length<=64) (hright:∀o∈B.l,rightO o=true) (hone:∀x∈B.l,∀y∈B.l,x.pl=y.pl->x=y)
  (hR:∀g sF,(BkP b (clearO B).B•OS 218 3 sF (clearO B).fs.length (filsC (clearO B).fs)•C) g->R (.ret (.tuple #[.int .i64 (clearO B).p,.int .i64 (clearO B).n,sF])) g) :
  ACalls Tryz.prog 145 #[ptr b] h R:=by
 refine call145 ?_
 unfold sh145
 rw[vBin_pnil Tryz.underlying93]
 simp only[dIf_b]
 refine⟨λe=>absurd e (by simp),λ_=>?_⟩
 obtain⟨s,h0,hc,ob⟩:=bk_open H
 have lb:=λK=>vLoad_1 (K:=K) (ob.ld (pt_get hc)) (show (#[s,.int .i64 B.next]:Array Value)[0]?=some s from rfl)
 simp only[vNil_p,vFA_p,Nat.zero_add,lb]
 refine cross_ok ob.os hz ?_
 simp only[AEnd.elim,vExt_20,vExt_21,lb]
 have hrlen:(rightsO B.l).length<=64:=Nat.le_trans (List.length_filter_le _ _) hz
 have hcb:=cross_bd hrlen (rightsO_right (l:=B.l))
 refine fills_ok ob.os hz ⟨hcb.1,by omega⟩ hone λg1 sF obF=>?_
 simp only[AEnd.elim]
 have hfm:∀f∈(clearO B).fs,∃o∈B.l,rightO o=true/\f.id=o.id/\f.own=o.own/\0<f.am/\f.am<=o.am:=λf hf=>fillsO_mem hf
 have hfl:(clearO B).fs.length<=128:=by
  have:=fillsO_len B.l (clearO B).p (clearO B).n
  show (fillsO B.l (clearO B).p (clearO B).n).length<=128
  omega
 have hBl:(clearO B).B = {B with l:=((clearO B).fs.foldl subF B.l).filter λo=>!decide (o.am=0)}:=rfl
 change OF h (clearO B).fs g1 sF at obF
 have ep:(crossO (rightsO B.l)).1=(clearO B).p:=rfl
 have en:(crossO (rightsO B.l)).2=(clearO B).n:=rfl
 rw[ep,en]
 rw[hBl]at hR
 generalize (clearO B).fs=fs at *
 generalize (clearO B).p=p at *
 generalize (clearO B).n=n at *
 clear lb hc ob
 have hfam:∀f∈fs,0<=f.am/\f.am<=1048576:=λf hf=>by
  obtain⟨o,ho,h1,h2,h3,h4,h5⟩:=hfm f hf
  have:=rightO_iff.1 h1
  omega
 have H1:(BkP b B•OS 218 3 sF fs.length (filsC fs)•C) g1:=by
  rw[sep_lc]
  exact ob_os H obF
 obtain⟨s2,h2,hc2,ob2⟩:=bk_open H1
 obtain⟨pf,capf,hsf⟩:=ob_len obF
 rw[hsf]
 simp only[vLenS_s]
 rw[<-hsf]
 have hb2:=pt_get hc2
 have hfs2:FilsAt h2 sF fs:=sep_l OS.mono (sep_r (mono_sep _ _) hc2)
 refine lf_intro (λq s' g=>∃i:Nat,s' = .int .i64 i/\q=fs.length-i/\i<=fs.length/\OO h2 ((fs.take i).foldl subF B.l) g s2) fs.length ⟨0,rfl,rfl,by omega,ob2⟩ ?_
 rintro q s' g ⟨i,rfl,rfl,hi,obi⟩
 by_cases hin:i<fs.length
 ·obtain⟨f,hf⟩:∃f,fs[i]?=some f:=⟨_,List.getElem?_eq_getElem hin⟩
  have hstep:(fs.take (i+1)).foldl subF B.l=subF ((fs.take i).foldl subF B.l) f:=by
   rw[List.take_add_one,hf,List.foldl_append];rfl
  have hix:=foldS_idx f.id (fs.take i) B.l
  have hln:=foldS_len (fs.take i) B.l
  have ham:=foldS_am hfam (fs.take i) B.l 1 (λf hf=>List.mem_of_mem_take hf) (λo ho=>by have:=rightO_iff.1 (hright o ho);omega)
  have htl:(fs.take i).length<=128:=by rw[List.length_take];omega
  generalize hLi:(fs.take i).foldl subF B.l=Li at *
  have key:∀(kn:(Value×Value×Value×Value×Value×Value)->Value->PH->Prop) Kp x0,
    (∀g2,OO h2 (subF Li f) g2 s2->kn (ptr b,.int .i64 p,.int .i64 n,sF,sF,.int .i64 fs.length) (.int .i64 ((i:Int)+1)) g2) ->
    b145_5 Kp x0 (ptr b,.int .i64 p,.int .i64 n,sF,sF,.int .i64 fs.length) kn (.int .i64 i) g:=by
   intro kn Kp x0 hkn
   unfold b145_5
   have hlt:(i:Int)<(fs.length:Int):=by omega
   simp only[vBin_lss,hlt,decide_true,dIf_b]
   refine⟨λ_=>?_,λe=>absurd e (by simp)⟩
   refine fil_copy (OS.mono _ _ obi.sub hfs2) hf λc hc=>?_
   have obc:=obi.up (sub_ins (.cells f.a 218 (0,0)) hc)
   have hcc:ins g c (.cells f.a 218 (0,0)) c=some (.cells f.a 218 (0,0)):=ins_eq _ _ _
   revert obc hcc
   generalize ins g c (.cells f.a 218 (0,0))=G
   intro obc hcc
   have f0:=λK=>vLoad_1 (K:=K) hcc (show f.a[0]?=some (.int .i64 f.id)from rfl)
   have f2:=λK=>vLoad_1 (K:=K) hcc (show f.a[2]?=some (.int .i64 f.am)from rfl)
   have lb:=λK=>vLoad_1 (K:=K) (obc.ld hb2) (show (#[s2,.int .i64 B.next]:Array Value)[0]?=some s2 from rfl)
   simp only[vNil_p,vFA_p,Nat.zero_add,lb,f0,f2]
   obtain⟨o0,ho0,_,hid,_⟩:=hfm f (List.mem_of_getElem? hf)
   obtain⟨k,hk⟩:∃k,idx Li f.id=some k:=by
    cases hh:idx Li f.id with
    | some k=>exact⟨k,rfl⟩
    | none=>
     rw[hix]at hh
     exact absurd hid.symm (idx_none hh o0 ho0)
   refine at_ok (obc.ld hb2) obc.os (by omega) ?_
   simp only[AEnd.elim,lb,f2,true_and]
   rw[idxI_pos hk]
   obtain⟨hkl,⟨o,ho,_⟩,_⟩:=idx_some hk
   have hoam:=ham o (List.mem_of_getElem? ho)
   have hfa:=hfam f (List.mem_of_getElem? hf)
   refine ord_ixF obc.os ho (j:=3) (v:=.int .i64 o.am) rfl ?_
   simp only[vBin_sub]
   rw[w64 (by omega) (by omega)]
   refine ord_stA obc ho λg3 ob3=>?_
   simp only[vBin_add]
   rw[w64 (by omega) (by omega)]
   refine hkn g3 ?_
   have e:subF Li f=Li.set k {o with am:=o.am-f.am}:=by unfold subF;rw[hk];simp only[ho]
   unfold OO
   rw[e,List.length_set]
   exact ob3
  exact key _ _ _ λg2 ob2=>⟨rfl,fs.length-(i+1),by omega,i+1,rfl,rfl,by omega,by rw[hstep];exact ob2⟩
 ·have e:i=fs.length:=by omega
  unfold b145_5
  have hge:¬(i:Int)<(fs.length:Int):=by omega
  simp only[vBin_lss,hge,decide_false,dIf_b]
  refine⟨λe=>absurd e (by simp),λ_=>?_⟩
  rw[e,List.take_length]at obi
  intro r hr
  simp only[Prod.mk.injEq]at hr
  obtain⟨r0,r2,r3,r4⟩:=hr
  simp only[r0,r2,r3,r4]
  have lb:=λK=>vLoad_1 (K:=K) (obi.ld hb2) (show (#[s2,.int .i64 B.next]:Array Value)[0]?=some s2 from rfl)
  simp only[vNil_p,vFA_p,Nat.zero_add,lb]
  refine deleteFunc_ok obi (by rw[foldS_len];exact hz) isVoid_ok λg3 s3 ob3=>?_
  simp only[AEnd.elim]
  refine (vStore_1 (ob3.ld hb2) (by show 0<2;omega) (by obtain⟨p,cap,rfl⟩:=ob_len ob3;rfl)).2 ?_
  exact hR _ sF (bk_shut (s:=s3) (B:={B with l:=(fs.foldl subF B.l).filter λo=>!decide (o.am=0)}) (pt_put hc2) (ob3.st hb2))
end
end Go.Pw
set_option linter.unusedSimpArgs false
set_option linter.unusedVariables false
namespace Go.Pw
open Go Go.Proofs
def ordN (o:Ord):List Int:=[o.id,o.own,if o.buys then 0 else 1,o.pr,o.am,o.pl]
def bkNums (B:Bk) (k:Nat):List Int:=[B.next,(B.l.length:Int)]++(B.l.take k).flatMap ordN
def bkB (B:Bk):ByteArray:=⟨(encL (bkNums B B.l.length)).toArray⟩
theorem bkNums_len (B:Bk) {k:Nat} (hk:k<=B.l.length):(bkNums B k).length=2+k*6:=by
 unfold bkNums
 have:∀l:List Ord,(l.flatMap ordN).length=l.length*6:=λl=>by
  induction l with
  | nil=>rfl
  | cons a l ih=>rw[List.flatMap_cons,List.length_append,ih];simp[ordN];omega
 rw[List.length_append,this,List.length_take]
 simp only[List.length_cons,List.length_nil];omega
theorem bkNums_succ {B:Bk} {k:Nat} {o:Ord} (ho:B.l[k]?=some o):bkNums B (k+1)=bkNums B k++ordN o:=by
 unfold bkNums
 rw[List.take_add_one,ho,List.flatMap_append]
 simp
theorem bkNums_bd {B:Bk} (hk:B.ok) {k:Nat}:∀x∈bkNums B k,0<=x/\x<=9007199254740992:=by
 intro x hx
 have hl:=hk.len
 have hn:=hk.nx
 unfold bkNums at hx
 rcases List.mem_append.1 hx with hx | hx
 ·simp only[List.mem_cons,List.not_mem_nil,or_false]at hx
  rcases hx with rfl | rfl <;> omega
 ·obtain⟨o,ho,hx⟩:=List.mem_flatMap.1 hx
  have ho':=List.mem_of_mem_take ho
  have h1:=rightO_iff.1 (hk.right o ho')
  have h2:=hk.pl o ho'
  simp only[ordN,List.mem_cons,List.not_mem_nil,or_false]at hx
  rcases hx with rfl | rfl | rfl | rfl | rfl | rfl
  ·omega
  ·omega
  ·split <;> omega
  ·omega
  ·omega
  ·omega
section
variable {h h0 g:PH} {R:AEnd->PH->Prop} {b:Nat} {B:Bk} {C:PH->Prop} {s:Value}
theorem bk_bytes (H:BkP b B h) (hk:B.ok) (hR:R (.ret (.string (bkB B))) h):ACalls Tryz.prog 39 #[ptr b] h R:=by
 refine ACalls.drop (call39 ?_)
 unfold sh39
 obtain⟨s,hb,hs⟩:=bk_get H
 obtain⟨p,cap,hse⟩:=OS.lens hs
 have hlen:=hk.len
 have lb0:=λg (hs:Sub h g) K=>vLoad_1 (K:=K) (hs _ _ hb) (show (#[s,.int .i64 B.next]:Array Value)[0]?=some s from rfl)
 have lb1:=λg (hs:Sub h g) K=>vLoad_1 (K:=K) (hs _ _ hb) (show (#[s,.int .i64 B.next]:Array Value)[1]?=some (.int .i64 B.next)from rfl)
 have ls:∀K:Value->Prop,vLenS s K↔K (.int .i64 B.l.length):=λK=>by rw[hse];simp
 simp[vBin_pnil Tryz.underlying93,lb0 h (Sub.refl h),lb1 h (Sub.refl h),ls]
 refine⟨_,fill_2i _ _ rfl rfl,λq hq=>?_⟩
 have ob0:OB 3 1 h (2+0*6) ((bkNums B 0).map iv) (ins h q (.cells #[.int .i64 B.next,.int .i64 B.l.length] 3)) (.slice (some ⟨q,0,none⟩) 2 2):=
  ⟨sub_ins _ hq,by rw[List.length_map,bkNums_len B (by omega)],.inr ⟨q,_,2,rfl,ins_eq _ _ _,hq,rfl,by omega,by simp[bkNums,iv]⟩⟩
 simp only[lb0 _ ob0.sub,ls]
 refine lf_intro (λm s' g=>∃(i:Nat) (sv:Value),s'=(sv,.int .i64 i)/\m=B.l.length-i/\i<=B.l.length/\OB 3 1 h (2+i*6) ((bkNums B i).map iv) g sv) B.l.length ⟨0,_,rfl,rfl,by omega,ob0⟩ ?_
 rintro m s' g ⟨i,sv,rfl,rfl,hi,ob⟩
 by_cases hin:i<B.l.length
 ·obtain⟨o,ho⟩:=at_some (l:=B.l) (k:=i) hin
  have key:∀(kn:(Value×Value)->(Value×Value)->PH->Prop) Kp x0,(∀g2 s2,OB 3 1 h (2+(i+1)*6) ((bkNums B (i+1)).map iv) g2 s2->kn (s,.int .i64 B.l.length) (s2,.int .i64 ((i:Int)+1)) g2) ->
    b39_5 Kp x0 (s,.int .i64 B.l.length) kn (sv,.int .i64 i) g:=by
   intro kn Kp x0 hkn
   unfold b39_5
   have hlt:(i:Int)<(B.l.length:Int):=by omega
   simp only[vBin_lss,hlt,decide_true,dIf_b]
   refine⟨λ_=>?_,λe=>absurd e (by simp)⟩
   refine ord_copy (OS.mono _ _ ob.sub hs) ho λc hc=>?_
   have obc:=ob.up (sub_ins (.cells o.a 78 (0,0)) hc)
   have hcc:ins g c (.cells o.a 78 (0,0)) c=some (.cells o.a 78 (0,0)):=ins_eq _ _ _
   revert obc hcc
   generalize ins g c (.cells o.a 78 (0,0))=G
   intro obc hcc
   have x0:=λK=>vLoad_1 (K:=K) hcc (show o.a[0]?=some (.int .i64 o.id)from rfl)
   have x1:=λK=>vLoad_1 (K:=K) hcc (show o.a[1]?=some (.int .i64 o.own)from rfl)
   have x2:=λK=>vLoad_1 (K:=K) hcc (show o.a[2]?=some (.int .i64 o.pr)from rfl)
   have x3:=λK=>vLoad_1 (K:=K) hcc (show o.a[3]?=some (.int .i64 o.am)from rfl)
   have x4:=λK=>vLoad_1 (K:=K) hcc (show o.a[4]?=some (.int .i64 o.pl)from rfl)
   have x5:=λK=>vLoad_1 (K:=K) hcc (show o.a[5]?=some (.bool o.buys)from rfl)
   have hww:IntKind.i64.wrap ((i:Int)+1)=(i:Int)+1:=w64 (by omega) (by omega)
   have app:∀sd:Int,sd=(if o.buys then 0 else 1)->vBuildS 3 1 6 #[.int .i64 0] [(0,.int .i64 o.id),(1,.int .i64 o.own),(2,.int .i64 sd),(3,.int .i64 o.pr),(4,.int .i64 o.am),(5,.int .i64 o.pl)] G λt48 h_3=>
     vAppend false 3 1 8 sv t48 h_3 λt49 h_4=>kn (s,.int .i64 B.l.length) (t49,.int .i64 ((i:Int)+1)) h_4:=λsd hsd=>by
    refine⟨_,fill_6i _ _ _ _ _ _ rfl rfl rfl rfl rfl rfl,λr hr=>?_⟩
    have on:(ordN o).map iv = [.int .i64 o.id,.int .i64 o.own,.int .i64 sd,.int .i64 o.pr,.int .i64 o.am,.int .i64 o.pl]:=by rw[hsd];rfl
    refine ob_app (m:=6) (news:=(ordN o).map iv) (obc.up (sub_ins _ hr)) (by simp only[roomBytes];omega) (by omega) rfl
     (λK' hk'=>.inr (.inr ⟨rfl,r,0,6,6,_,_,_,rfl,ins_eq _ _ _,by simp,?_,by rw[on]at hk';exact hk'⟩)) (λb' off l cc hx gg cap hs=>?_) λg2 s2 ob2=>?_
    ·intro v hv
     have:v∈(ordN o).map iv:=by rw[on];exact hv
     exact iv_one v this
    ·cases hx
     intro e
     rcases obc.buf with⟨h1,_⟩ | ⟨g',c',cap',h1,h2,_⟩
     ·rw[h1]at hs;cases hs
     ·rw[h1]at hs;cases hs;rw[<-e,hr]at h2;cases h2
    ·refine hkn _ _ ?_
     rw[bkNums_succ ho,List.map_append,show 2+(i+1)*6=2+i*6+6 by omega]
     exact ob2
   cases hb:o.buys with
   | true=>
    have:=app 0 (by simp[hb])
    simp[x5,hb,x0,x1,x2,x3,x4,hww]
    exact this
   | false=>
    have:=app 1 (by simp[hb])
    simp[x5,hb,x0,x1,x2,x3,x4,hww]
    exact this
  exact key _ _ _ λg2 s2 ob2=>⟨rfl,B.l.length-(i+1),by omega,i+1,s2,rfl,rfl,by omega,ob2⟩
 ·have e:i=B.l.length:=by omega
  subst e
  unfold b39_5
  simp
  intro r hr
  obtain⟨p2,cap2,hse2⟩:=ob_len ob
  rw[show r _=_ from hr,hse2]
  simp only[vLenS_s]
  rw[<-hse2,<-bkNums_len B (Nat.le_refl _)]at *
  rw[show @b39_14=putsB from rfl]
  refine puts_ok ob (bkNums_bd hk) (by rw[bkNums_len B (Nat.le_refl _)];omega) ?_
  intro r2 hr2
  rw[show r2 _=_ from hr2]
  exact⟨h,ob.sub,hR⟩
end
end Go.Pw
set_option linter.unusedSimpArgs false
set_option linter.unusedVariables false
namespace Go.Pw
open Go Go.Proofs
end Go.Pw
set_option linter.unusedSimpArgs false
set_option linter.unusedVariables false
namespace Go.Pw
open Go Go.Proofs
theorem u8_inj {a b:Nat} (ha:a<256) (hb:b<256) (h:UInt8.ofNat a=UInt8.ofNat b):a=b:=by
 have:=congrArg UInt8.toNat h
 rw[UInt8.toNat_ofNat',UInt8.toNat_ofNat']at this
 omega
theorem encN_inj (a:Nat):∀(b:Nat) (x y:List UInt8),encN a++x=encN b++y->a=b/\x=y:=by
 induction a using Nat.strongRecOn with
 | _ a ih=>
  intro b x y h
  by_cases ha:a<128
  ·by_cases hb:b<128
   ·rw[encN_small ha,encN_small hb]at h
    simp only[List.cons_append,List.nil_append,List.cons.injEq]at h
    exact⟨u8_inj (by omega) (by omega) h.1,h.2⟩
   ·rw[encN_small ha,encN_big hb]at h
    simp only[List.cons_append,List.nil_append,List.cons.injEq]at h
    have:=u8_inj (by omega) (by omega) h.1
    omega
  ·by_cases hb:b<128
   ·rw[encN_big ha,encN_small hb]at h
    simp only[List.cons_append,List.nil_append,List.cons.injEq]at h
    have:=u8_inj (by omega) (by omega) h.1
    omega
   ·rw[encN_big ha,encN_big hb]at h
    simp only[List.cons_append,List.cons.injEq]at h
    have h1:=u8_inj (by omega) (by omega) h.1
    obtain⟨h2,h3⟩:=ih (a/128) (by omega) _ _ _ h.2
    exact⟨by omega,h3⟩
end Go.Pw
set_option linter.unusedSimpArgs false
set_option linter.unusedVariables false
namespace Go.Pw
open Go Go.Proofs
theorem eq_i4 (d:Nat) (a0 a1 a2 a3 b0 b1 b2 b3:Int) (w:World) :
  (Op.equalIn (d+2) 59 (.agg #[.int .i64 a0,.int .i64 a1,.int .i64 a2,.int .i64 a3]) (.agg #[.int .i64 b0,.int .i64 b1,.int .i64 b2,.int .i64 b3])).run Tryz.prog w =
   .ok (decide (a0=b0)&&(decide (a1=b1)&&(decide (a2=b2)&&decide (a3=b3)))) w:=by
 have u3:=Tryz.underlying3
 have a3':=Tryz.isAgg3
 have z3:=Tryz.sizeOf3
 rw[show d+2=(d+1)+1 from rfl,Op.equalIn]
 simp only[Sem.run_bind,run_underlying Tryz.underlying59,Result.andThen_ok]
 simp only[Std.Legacy.Range.forIn_eq_forIn_range',Std.Legacy.Range.size,Nat.sub_zero,Nat.add_sub_cancel,Nat.div_one,List.range'_succ,List.range'_zero,List.forIn_cons,List.forIn_nil]
 go_simp
 by_cases h0:a0=b0
 ·by_cases h1:a1=b1
  ·by_cases h2:a2=b2
   ·by_cases h3:a3=b3 <;> simp[h0,h1,h2,h3]
   ·simp[h0,h1,h2]
  ·simp[h0,h1]
 ·simp[h0]
end Go.Pw

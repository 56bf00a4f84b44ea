/- Texts of this claim, one behind the other. -/
import Derived.Test.YtboeddfdbpjnjaaGreatM6
import Derived.Test.YtboeddfdbpjnjaaGreatM8
import Derived.Test.YtboeddfdbpjnjaaGreatM9
import Derived.Laws.StructEq
set_option linter.unusedSimpArgs false
set_option linter.unusedVariables false
namespace Go.Pw
open Go Go.Proofs
section
variable {h:PH} {R:RT}
set_option maxRecDepth 100000 in
theorem dr {K:Value->Prop} (a b c d:ByteArray):A6 Tryz.prog .neq 42 (.agg #[.string a,.string b]) (.agg #[.string c,.string d]) K↔K (.bool (!(decide (a=c)&&decide (b=d)))):=by
 refine Km λx y w=>?_;have n:=Tryz.underlying9;have o:=Tryz.isAgg9;have m:=Tryz.sizeOf9;have j:Tryz.prog.underlying 42=some (.struct (Tryz.prog.fieldsOf 42)):=by kernel_rfl
 have f:Tryz.prog.stoodInHeld 42=false:=by kernel_rfl
 have g:=run_eqGuard_agg (P:=Tryz.prog) w .neq 42 x y #[.string a,.string b] #[.string c,.string d] (by kernel_rfl)
 have i:(Op.equalIn 10000 42 (.agg #[.string a,.string b]) (.agg #[.string c,.string d])).run Tryz.prog w = .ok (decide (a=c)&&decide (b=d)) w:=by
  rw[show (10000:Nat)=9999+1 from rfl,run_equalIn_agg w 9999 42 _ _ j f];simp only[Program.fieldsOf,Tryz.underlying42]
  go_simp
  have e:∀x y:ByteArray,(x.toList=y.toList)=(x=y):=λx y=>propext ⟨λh=>by have:=UY x y;rw[h]at this;simpa using this,λh=>by rw[h]⟩;simp only[e]
  by_cases l:a=c <;> by_cases k:b=d <;> simp[l,k]
 rw[Sem.run_bind,g];show (binOp .neq 42 _ _).run Tryz.prog w=_;rw[run_neq_struct,i]
 rfl
end
section
variable {h h0 g:PH} {e:TypeId} {esz n:Nat} {l:List Value} {s:Value}
theorem OB.base (d:OB e esz h0 n l h s) (f:Sub g h0):OB e esz g n l h s:=
 ⟨f.trans d.sub,d.len,by
  rcases d.buf with a | ⟨b,c,cap,a1,a2,a3,a4⟩
  ·exact .inl a
  ·exact .inr ⟨b,c,cap,a1,a2,f.fresh a3,a4⟩⟩
end
section
variable {h h0 g G hb:PH} {R:RT} {l l':List Ord} {s:Value} {t:Bool}
abbrev OF (h0:PH) (l:List Fil) (h:PH) (s:Value):Prop:=OB 218 3 h0 l.length (DR l) h s
theorem Yz {F:V8} {n:Int} {out:List Fil} {J:Value} {Kp:KP} {y:V7->PH->Prop} {r:List Ord}
  (w:OF h0 out g J) (x:Df h0 s r) (hz:r.length<=64) (X:out.length<=64) (hn:0<=n/\n<=1099511627776) (p:∀o∈r,B0 o=true) (e1:F.2.2.2.2.2.2.1=s) (e2:F.2.2.2.2.2.2.2 = .int .i64 r.length)
  (hX:∀g z,OF h0 (Ed r n out) g z->y (F.1,F.2.1,F.2.2.1,z,F.2.2.2.1,F.2.2.2.2.1,F.2.2.2.2.2.1) g) :
  lf (K0 Kp y) F (J,.int .i64 n,.int .i64 0) g:=by
 refine AL (λq z g=>∃(i:Nat) (H:Value),z=(H,.int .i64 ((r.take i).foldl stF (n,out)).1,.int .i64 i)/\q=r.length-i/\i<=r.length/\OF h0 ((r.take i).foldl stF (n,out)).2 g H) r.length
  ⟨0,J,rfl,rfl,by omega,w⟩ ?_
 rintro q z g ⟨i,H,rfl,rfl,hi,w⟩
 by_cases U:i<r.length
 ·obtain⟨o,Q⟩:=Bp (l:=r) (k:=i) U
  have b:(r.take (i+1)).foldl stF (n,out)=stF ((r.take i).foldl stF (n,out)) o:=by
   rw[List.take_add_one,Q,List.foldl_append];rfl
  have Y:((r.take i).foldl stF (n,out)).2.length<=128:=by
   have:=Jk (r.take i) (n,out);rw[List.length_take]at this;simp only at this;omega
  have hbd:=Ok (M:=1099511627776) (r.take i) (n,out) hn;generalize hst:(r.take i).foldl stF (n,out)=st at *
  have key:∀(P:V8->V3->PH->Prop) Kp y,
    (∀W I,OF h0 (stF st o).2 W I->P F (I,.int .i64 (stF st o).1,.int .i64 ((i:Int)+1)) W) ->
    K0 Kp y F P (H,.int .i64 st.1,.int .i64 i) g:=by
   intro P Kp y f;unfold K0 CO Iy Pk ivW;rw[e1,e2];have S:(i:Int)<(r.length:Int):=by omega
   simp only[AC,S,B6,AB];refine nT ?_;refine IH (OS.mono _ _ w.sub x) Q λc hc=>?_;have a:=w.up (AT (.cells o.a 78 (0,0)) hc);have j:ins g c (.cells o.a 78 (0,0)) c=some (.cells o.a 78 (0,0)):=AD _ _ _;revert a j;generalize ins g c (.cells o.a 78 (0,0))=G;intro a j;have A:IntKind.i64.wrap ((i:Int)+1)=(i:Int)+1:=w64 (by omega) (by omega);have x0:=λK=>A5 (K:=K) j (show o.a[0]?=some (.int .i64 o.id)from rfl);have x1:=λK=>A5 (K:=K) j (show o.a[1]?=some (.int .i64 o.own)from rfl);have x3:=λK=>A5 (K:=K) j (show o.a[3]?=some (.int .i64 o.am)from rfl);have ham:=Am.1 (p o (List.mem_of_getElem? Q));simp only[AH,Ad,x3,E7,Ba,if_false];have D:(if o.am<st.1 then o.am else st.1)=min st.1 o.am:=by split <;> omega
   rw[D];unfold stF at f;simp only[At,AB,CF,D9];refine⟨λB=>?_,λC=>?_⟩
   ·rw[if_pos B]at f
    simp only[x0,x1];refine⟨_,Qn o.id o.own (min st.1 o.am),by omega,_,Om ⟨o.id,o.own,min st.1 o.am⟩,λd Z=>⟨by omega,by omega,rfl,?_⟩⟩;have L:=a.up (AT (.cells (Fil.a ⟨o.id,o.own,min st.1 o.am⟩) 218) Z)
    refine Db (m:=1) (news:=(Fil.a ⟨o.id,o.own,min st.1 o.am⟩).toList) L (by simp only[roomBytes];omega) (by omega) rfl
     (λK' T=>.inr (.inr ⟨rfl,d,0,1,1,_,_,_,rfl,AD _ _ _,by show 0+1*3<=3;omega,?_,T⟩)) (λb' off l cc hx gg cap x=>?_) λg5 s5 N=>?_
    ·intro v hv
     have:v∈DR [⟨o.id,o.own,min st.1 o.am⟩]:=hv;exact Jn v this
    ·cases hx
     intro e
     rcases a.buf with⟨u,_⟩ | ⟨g3,c3,cap3,u,E,_⟩
     ·rw[u]at x;cases x
     ·rw[u]at x;cases x;rw[<-e,Z]at E;cases E
    ·simp only[Ao,AG,A]
     rw[w64 (by omega) (by omega)];refine f _ _ ?_;unfold OF;rw[List.length_append,<-Kb];exact N
   ·rw[if_neg C]at f
    simp only[AG,A];exact f _ _ a
  refine key _ _ _ λW I O=>⟨rfl,r.length-(i+1),by omega,i+1,I,by rw[b];rfl,rfl,by omega,by rw[b];exact O⟩
 ·have e:i=r.length:=by omega
  unfold K0 CO Iy Pk ivW;rw[e2];have V:¬(i:Int)<(r.length:Int):=by omega
  simp only[AC,V,BW,AB];refine nF ?_;rw[e,List.take_length]at w;exact hX _ _ w
theorem VO:Instr.fill (λi=>some (i*1,1)) (rep #[Value.bool false] (2*1)) [(0,.bool true),(1,.bool false)]=some #[.bool true,.bool false]:=by
 have e:Array.range 2=#[0,1]:=by decide
 simp[Instr.fill,rep,Value.cells,e]
theorem LC (l:List Ord) (n:Int) (out:List Fil):(Ed l n out).length<=out.length+l.length:=Jk l (n,out)
theorem Jg (l:List Ord):(CT l).length=l.length:=(Cj l).length_eq
theorem So {F:V5} {a:List Ord} {O:Value} {p n:Int} {q:Nat} {out:List Fil} {P:Value} {k:Nat} {Kp:KP} {Z:Value->PH->Prop} {T:V5->V2->PH->Prop}
  (hF:F=(O,.int .i64 p,.int .i64 n,.slice (some ⟨q,0,none⟩) 2 2,.int .i64 2)) (hk:(k=0/\t=true)\/(k=1/\t=false)) (H:OF hb out g P) (hq:hb q=some (.cells #[.bool true,.bool false] 4 (0,0))) (W:Df hb O a) (U:a.length<=64) (hn:0<=n/\n<=1099511627776)
  (j:out.length<=64) (b:∀o∈a,B0 o=true) (m:∀x∈a,∀y∈a,x.pl=y.pl->x=y)
  (hX:∀g Q,OF hb (Ed (CT (a.filter (BP t p))) n out) g Q->T F (Q,.int .i64 ((k+1:Nat):Int)) g):PU Kp Z F T (P,.int .i64 k) g:=by
 subst hF;unfold PU eXW ivW;have L:(k:Int)<2:=by omega
 simp only[AC,L,B6,AB,B9];refine⟨λ_=>⟨by omega,by omega,?_⟩,λe=>absurd e (by simp)⟩
 have N:(#[.bool true,.bool false]:Array Value)[0+(k:Int).toNat*1]?=some (.bool t):=by
  rcases hk with⟨rfl,rfl⟩ | ⟨rfl,rfl⟩ <;> rfl
 rw[A5 (H.sub _ _ hq) N];obtain⟨pp,cap,f⟩:=OS.lens W;rw[f];simp only[BQ];rw[<-f];refine dc (t:=t) (p:=p) (OS.mono _ _ H.sub W) U rfl rfl rfl rfl λg1 s1 ob1=>?_;intro r X;simp only[Prod.mk.injEq]at X;obtain⟨r0,r1,S,r7,z,w,v,u⟩:=X;simp only[r0,r1,S,r7,z,w,v,u];have M:(a.filter (BP t p)).length<=64:=Nat.le_trans (List.length_filter_le _ _) U
 have I:∀o∈a.filter (BP t p),o.buys=t:=λo K=>by
  have:=(List.mem_filter.1 K).2;unfold BP at this;exact (of_decide_eq_true this).1
 refine dW ob1 I M (λx hx y hy _ hp=>m x (List.mem_filter.1 hx).1 y (List.mem_filter.1 hy).1 hp) λg2 d=>?_;simp only[AK.elim];obtain⟨h0,J,oa,D⟩:=H.turn d;obtain⟨p2,Y,c⟩:=GN d;have V:=Jg (a.filter (BP t p));rw[c];simp only[BQ];rw[<-c];refine Yz (F:=(_,_,_,_,_,_,_,_)) (r:=CT (a.filter (BP t p))) oa D (by omega) j hn (λo K=>b o (List.mem_filter.1 ((Cj _).mem_iff.1 K)).1) rfl rfl λg3 s3 E=>?_;intro S i;simp only[Prod.mk.injEq]at i;obtain⟨q0,q1,q2,q7,C,B,A⟩:=i;simp only[q0,q1,q2,q7,C,B,A,AG];rw[w64 (by omega) (by omega),show (k:Int)+1=((k+1:Nat):Int)by omega];exact hX g3 s3 (E.base J)
theorem av {p n:Int} (J:Df h s l) (A:l.length<=64) (B:0<=n/\n<=1099511627776) (f:∀x∈l,∀y∈l,x.pl=y.pl->x=y)
  (M:∀g z,OF h (DK l p n) g z->R (.ret z) g):A7 Tryz.prog 171 #[s,.int .i64 p,.int .i64 n] h R:=by
 refine gr ?_;unfold kC eXW ivW pnW;refine QK J A λj P ob1=>?_;simp only[AK.elim];refine⟨by omega,_,VO,λq L=>?_⟩;simp only[BQ];have e:(Bj l).length<=64:=Nat.le_trans (List.length_filter_le _ _) A;have a:=Fm (l:=l);have c:∀x∈Bj l,∀y∈Bj l,x.pl=y.pl->x=y:=λx I y F=>f x (List.mem_filter.1 I).1 y (List.mem_filter.1 F).1;have b:=ob1.up (AT (.cells #[.bool true,.bool false] 4) L);have d:ins j q (.cells #[.bool true,.bool false] 4) q=some (.cells #[.bool true,.bool false] 4 (0,0)):=AD _ _ _;revert b d;generalize ins j q (.cells #[.bool true,.bool false] 4)=H;intro b d;have u:OF H [] H (.slice none 0 0):=⟨Sub.refl H,rfl,.inl ⟨rfl,rfl,rfl⟩⟩;refine Jd 3 (Di λQ w=>?_);refine So (t:=true) (k:=0) rfl (.inl ⟨rfl,rfl⟩) u d b.os e B (by simp) a c λV O o=>?_;refine w _ _ (Di λE i=>?_)
 have v:(Ed (CT ((Bj l).filter (BP true p))) n []).length<=64:=by
  have j:=LC (CT ((Bj l).filter (BP true p))) n [];have T:=Jg ((Bj l).filter (BP true p));have S:=List.length_filter_le (BP true p) (Bj l);simp only[List.length_nil]at j;omega
 refine So (t:=false) (k:=1) rfl (.inr ⟨rfl,rfl⟩) o d b.os e B v a c λU N m=>?_;refine i _ _ (Di λD C=>?_);unfold PU eXW ivW;simp;intro r K;rw[show r 7=_ from K];exact M _ _ (m.base b.sub)
end
def GK (l:List Ord) (f:Fil):List Ord:=match idx l f.id with
 | some k=>match l[k]? with
  | some o=>l.set k {o with am:=o.am-f.am}
  | none=>l
 | none=>l
structure Clr where
 p:Int
 n:Int
 fs:List Fil
 B:Bk
def AE (B:Bk):Clr:=
 let c:=Cq (Bj B.l)
 let fs:=DK B.l c.1 c.2
 {p:=c.1,n:=c.2,fs:=fs,B:={B with l:=(fs.foldl GK B.l).filter λo=>!decide (o.am=0)}}
theorem fR {i:Int} {k:Nat} {o:Ord} {v:Int}:∀{l:List Ord},l[k]?=some o->idx (l.set k {o with am:=v}) i=idx l i:=by
 induction k with
 | zero=>intro l h;cases l with
  | nil=>simp at h
  | cons a l=>simp at h;subst h;rfl
 | succ k ih=>intro l h;cases l with
  | nil=>simp at h
  | cons a l=>
   simp only[List.getElem?_cons_succ]at h;simp only[List.set_cons_succ,idx];rw[ih h]
theorem Z4 (l:List Ord) (f:Fil) (i:Int):idx (GK l f) i=idx l i:=by
 unfold GK
 split
 ·split
  ·rename_i o a;exact fR a
  ·rfl
 ·rfl
theorem Z3 (l:List Ord) (f:Fil):(GK l f).length=l.length:=by
 unfold GK
 split
 ·split
  ·rw[List.length_set]
  ·rfl
 ·rfl
theorem Qb (i:Int):∀(fs:List Fil) (l:List Ord),idx (fs.foldl GK l) i=idx l i
 | [],_=>rfl
 | f::fs,l=>by rw[List.foldl_cons,Qb i fs,Z4]
theorem MU:∀(fs:List Fil) (l:List Ord),(fs.foldl GK l).length=l.length
 | [],_=>rfl
 | f::fs,l=>by rw[List.foldl_cons,MU fs,Z3]
theorem dP {l:List Ord} {f:Fil} {lo:Int} (h:∀o∈l,lo<=o.am/\o.am<=1048576) (c:0<=f.am/\f.am<=1048576):∀o∈GK l f,lo-1048576<=o.am/\o.am<=1048576:=by
 intro o a;unfold GK at a
 split at a
 ·split at a
  ·rename_i x b
   rcases List.mem_or_eq_of_mem_set a with h1 | h1
   ·have:=h o h1;omega
   ·have:=h x (List.mem_of_getElem? b)
    rw[h1];simp only;omega
  ·have:=h o a;omega
 ·have:=h o a;omega
theorem TT {a:List Fil} (b:∀f∈a,0<=f.am/\f.am<=1048576):∀(fs:List Fil) (l:List Ord) (lo:Int),(∀f∈fs,f∈a)->(∀o∈l,lo<=o.am/\o.am<=1048576)->∀o∈fs.foldl GK l,lo-1048576*fs.length<=o.am/\o.am<=1048576
 | [],l,lo,_,h=>by simpa using h
 | f::fs,l,lo,hm,h=>λo c=>by
  rw[List.foldl_cons]at c;have:=TT b fs (GK l f) (lo-1048576) (λf b=>hm f (by simp[b])) (dP h (b f (hm f (by simp)))) o c;simp only[List.length_cons];omega
theorem dU {s:Int×List Fil} {o:Ord} {f:Fil} (a:f∈(stF s o).2):f∈s.2\/(f.id=o.id/\f.own=o.own/\0<f.am/\f.am<=o.am):=by
 unfold stF at a
 split at a
 ·simp only[List.mem_append,List.mem_singleton]at a
  rcases a with a | rfl
  ·exact .inl a
  ·exact .inr ⟨rfl,rfl,by simpa using ‹_›,by simp only;omega⟩
 ·exact .inl a
theorem Jj:∀(l:List Ord) (s:Int×List Fil) (f:Fil),f∈(l.foldl stF s).2->f∈s.2\/∃o∈l,f.id=o.id/\f.own=o.own/\0<f.am/\f.am<=o.am
 | [],s,f,h=>.inl h
 | o::l,s,f,h=>by
  rw[List.foldl_cons]at h
  rcases Jj l _ f h with h | ⟨x,hx,h⟩
  ·rcases dU h with h | h
   ·exact .inl h
   ·exact .inr ⟨o,by simp,h⟩
  ·exact .inr ⟨x,by simp[hx],h⟩
theorem Gx {l:List Ord} {p n:Int} {f:Fil} (c:f∈DK l p n):∃o∈l,B0 o=true/\f.id=o.id/\f.own=o.own/\0<f.am/\f.am<=o.am:=by
 have side:∀b o,o∈CT (CZ l b p)->o∈l/\B0 o=true:=λb o a=>by
  have e:=(Cj _).mem_iff.1 a;have d:=List.mem_filter.1 (List.mem_filter.1 e).1;exact d
 unfold DK Ed at c
 rcases Jj _ _ _ c with h | ⟨o,a,h⟩
 ·rcases Jj _ _ _ h with h | ⟨o,a,h⟩
  ·cases h
  ·exact⟨o,(side _ _ a).1,(side _ _ a).2,h⟩
 ·exact⟨o,(side _ _ a).1,(side _ _ a).2,h⟩
theorem Gy (l:List Ord) (p n:Int):(DK l p n).length<=2*l.length:=by
 have c:=LC (CT (CZ l true p)) n [];have d:=LC (CT (CZ l false p)) n (Ed (CT (CZ l true p)) n [])
 have a:∀b,(CT (CZ l b p)).length<=l.length:=λb=>by
  rw[Jg];exact Nat.le_trans (List.length_filter_le _ _) (List.length_filter_le _ _)
 have:=a true;have:=a false;simp only[List.length_nil]at c;unfold DK;omega
theorem JJ {r:List Ord} (g:r.length<=64) (b:∀o∈r,B0 o=true):0<=(Cq r).2/\(Cq r).2<=67108864/\0<=(Cq r).1/\(Cq r).1<=1099511627776:=by
 have step:∀pa o,o∈r->0<=pa.2/\pa.2<=67108864/\0<=pa.1/\pa.1<=1099511627776->0<=(BE r pa o).2/\(BE r pa o).2<=67108864/\0<=(BE r pa o).1/\(BE r pa o).1<=1099511627776:=λpa o c h=>by
  have k:=JV (f:=DN o.pr) (M:=1048576) (by omega) r λx a=>by
   have:=Am.1 (b x a);unfold DN;split <;> omega
  have j:=JV (f:=Bt o.pr) (M:=1048576) (by omega) r λx a=>by
   have:=Am.1 (b x a);unfold Bt;split <;> omega
  have i:=Am.1 (b o c);unfold BE;simp only
  split
  ·simp only;omega
  ·exact h
 have e:∀(m:List Ord) pa,(∀o∈m,o∈r)->0<=pa.2/\pa.2<=67108864/\0<=pa.1/\pa.1<=1099511627776->0<=(m.foldl (BE r) pa).2/\(m.foldl (BE r) pa).2<=67108864/\0<=(m.foldl (BE r) pa).1/\(m.foldl (BE r) pa).1<=1099511627776:=λm=>by
  induction m with
  | nil=>intro pa _ h;exact h
  | cons o m ih=>intro pa d h;exact ih _ (λo c=>d o (by simp[c])) (step pa o (d o (by simp)) h)
 exact e r (0,0) (λ_ h=>h) (by simp)
section
variable {h h0 g:PH} {R:RT} {b:Nat} {B:Bk} {C:PH->Prop} {s:Value}
abbrev Vm (h:PH) (s:Value) (l:List Fil):Prop:=OS 218 3 s l.length (DR l) h
theorem Ta {K:Value->PH->Prop} {k:Nat} {l:List Fil} {f:Fil} (m:Vm h s l) (e:l[k]?=some f) (n:∀c,h c=none->K (ptr c) (ins h c (.cells f.a 218 (0,0)))) :
  AR 3 s (.int .i64 k) λt=>A0 (some 3) t h λv=>Ag #[.int .i64 0,.int .i64 0,.int .i64 0] 218 h λp w=>A9 3 p v w λu=>K p u:=by
 have hi:k<l.length:=(Bc.1 e).1;obtain⟨g,c,cap,rfl,o,i,a⟩:=OS.get m (by omega);rw[B9];refine⟨by omega,by omega,?_⟩;rw[show 0+(k:Int).toNat*3=k*3 by omega,AI o (by omega)]
 have q:c.extract (k*3) (k*3+3)=f.a:=by
  apply Array.ext_getElem?;intro j;rw[Array.getElem?_extract]
  rcases Nat.lt_or_ge j 3 with h6 | h6
  ·rw[if_pos (by omega),a _ (by omega),Jo l k f e j h6,show f.cells=f.a.toList from rfl,Array.getElem?_toList]
  ·rw[if_neg (by omega),D1 (show f.a.size<=j from h6)]
 rw[q];refine AX λd r=>?_;refine AN (cs:=f.a) (AD _ _ _) (by rfl) (by rfl) (by cases f;rfl) ?_;rw[An];exact n d r
theorem cH (H:(BkP b B•C) h) (T:B.l.length<=64) (w:∀o∈B.l,B0 o=true) (O:∀x∈B.l,∀y∈B.l,x.pl=y.pl->x=y)
  (hR:∀g d,(BkP b (AE B).B•OS 218 3 d (AE B).fs.length (DR (AE B).fs)•C) g->R (.ret (.tuple #[.int .i64 (AE B).p,.int .i64 (AE B).n,d])) g) :
  A7 Tryz.prog 145 #[ptr b] h R:=by
 refine iO ?_;unfold ke eXW ivW pnW;rw[As Tryz.underlying93];simp only[AB];refine nF ?_;obtain⟨s,h0,U,S⟩:=Lf H;have lb:=λK=>A5 (K:=K) (S.ld (AM U)) (show (#[s,.int .i64 B.next]:Array Value)[0]?=some s from rfl);simp only[BO,AH,Ad,lb];refine bT S.os T ?_;simp only[AK.elim,Av,Au,lb];have I:(Bj B.l).length<=64:=Nat.le_trans (List.length_filter_le _ _) T;have hcb:=JJ I (Fm (l:=B.l));refine av S.os T ⟨hcb.1,by omega⟩ O λg1 d D=>?_;simp only[AK.elim];have Q:∀f∈(AE B).fs,∃o∈B.l,B0 o=true/\f.id=o.id/\f.own=o.own/\0<f.am/\f.am<=o.am:=λf u=>Gx u
 have hfl:(AE B).fs.length<=128:=by
  have:=Gy B.l (AE B).p (AE B).n;show (DK B.l (AE B).p (AE B).n).length<=128;omega
 have hBl:(AE B).B = {B with l:=((AE B).fs.foldl GK B.l).filter λo=>!decide (o.am=0)}:=rfl
 change OF h (AE B).fs g1 d at D
 have ep:(Cq (Bj B.l)).1=(AE B).p:=rfl;have en:(Cq (Bj B.l)).2=(AE B).n:=rfl;rw[ep,en];rw[hBl]at hR;generalize (AE B).fs=fs at *;generalize (AE B).p=p at *;generalize (AE B).n=n at *;clear lb U S
 have A:∀f∈fs,0<=f.am/\f.am<=1048576:=λf u=>by
  obtain⟨o,J,h1,V,h3,h4,h5⟩:=Q f u;have:=Am.1 h1;omega
 have H1:(BkP b B•OS 218 3 d fs.length (DR fs)•C) g1:=by
  rw[Es];exact D0 H D
 obtain⟨M,V,L,E⟩:=Lf H1;obtain⟨pf,capf,N⟩:=GN D;rw[N];simp only[BQ];rw[<-N];have t:=AM L;have P:Vm V d fs:=AJ OS.mono (AF (A8 _ _) L);refine AL (λq s' g=>∃i:Nat,s' = .int .i64 i/\q=fs.length-i/\i<=fs.length/\OO V ((fs.take i).foldl GK B.l) g M) fs.length ⟨0,rfl,rfl,by omega,E⟩ ?_;rintro q s' g ⟨i,rfl,rfl,hi,obi⟩
 by_cases hin:i<fs.length
 ·obtain⟨f,u⟩:∃f,fs[i]?=some f:=⟨_,Bu hin⟩
  have F:(fs.take (i+1)).foldl GK B.l=GK ((fs.take i).foldl GK B.l) f:=by
   rw[List.take_add_one,u,List.foldl_append];rfl
  have hix:=Qb f.id (fs.take i) B.l;have hln:=MU (fs.take i) B.l;have ham:=TT A (fs.take i) B.l 1 (λf u=>List.mem_of_mem_take u) (λo J=>by have:=Am.1 (w o J);omega);have htl:(fs.take i).length<=128:=by rw[List.length_take];omega
  generalize hLi:(fs.take i).foldl GK B.l=Li at *
  have key:∀(W:V6->Value->PH->Prop) Kp x0,
    (∀g2,OO V (GK Li f) g2 M->W (ptr b,.int .i64 p,.int .i64 n,d,d,.int .i64 fs.length) (.int .i64 ((i:Int)+1)) g2) ->
    Pc Kp x0 (ptr b,.int .i64 p,.int .i64 n,d,d,.int .i64 fs.length) W (.int .i64 i) g:=by
   intro W Kp x0 Z;unfold Pc Iy ivW;have Y:(i:Int)<(fs.length:Int):=by omega
   simp only[AC,Y,B6,AB];refine nT ?_;refine Ta (OS.mono _ _ obi.sub P) u λc U=>?_;have a:=obi.up (AT (.cells f.a 218 (0,0)) U);have z:ins g c (.cells f.a 218 (0,0)) c=some (.cells f.a 218 (0,0)):=AD _ _ _;revert a z;generalize ins g c (.cells f.a 218 (0,0))=G;intro a z;have f0:=λK=>A5 (K:=K) z (show f.a[0]?=some (.int .i64 f.id)from rfl);have f2:=λK=>A5 (K:=K) z (show f.a[2]?=some (.int .i64 f.am)from rfl);have lb:=λK=>A5 (K:=K) (a.ld t) (show (#[M,.int .i64 B.next]:Array Value)[0]?=some M from rfl);simp only[BO,AH,Ad,lb,f0,f2];obtain⟨o0,X,_,hid,_⟩:=Q f (List.mem_of_getElem? u)
   obtain⟨k,hk⟩:∃k,idx Li f.id=some k:=by
    cases hh:idx Li f.id with
    | some k=>exact⟨k,rfl⟩
    | none=>
     rw[hix]at hh;exact absurd hid.symm (LQ hh o0 X)
   refine Wy (a.ld t) a.os (by omega) ?_;simp only[AK.elim,lb,f2,true_and];rw[FJ hk];obtain⟨hkl,⟨o,J,_⟩,_⟩:=Dt hk;have hoam:=ham o (List.mem_of_getElem? J);have hfa:=A f (List.mem_of_getElem? u);refine WJ a.os J (j:=3) (v:=.int .i64 o.am) rfl ?_;simp only[Ao];rw[w64 (by omega) (by omega)];refine eQ a J λg3 m=>?_;simp only[AG];rw[w64 (by omega) (by omega)];refine Z g3 ?_;have e:GK Li f=Li.set k {o with am:=o.am-f.am}:=by unfold GK;rw[hk];simp only[J]
   unfold OO;rw[e,List.length_set];exact m
  exact key _ _ _ λg2 E=>⟨rfl,fs.length-(i+1),by omega,i+1,rfl,rfl,by omega,by rw[F];exact E⟩
 ·have e:i=fs.length:=by omega
  unfold Pc Iy ivW;have hge:¬(i:Int)<(fs.length:Int):=by omega
  simp only[AC,hge,BW,AB];refine nF ?_;rw[e,List.take_length]at obi;intro r hr;simp only[Prod.mk.injEq]at hr;obtain⟨r0,r2,r3,r4⟩:=hr;simp only[r0,r2,r3,r4];have lb:=λK=>A5 (K:=K) (obi.ld t) (show (#[M,.int .i64 B.next]:Array Value)[0]?=some M from rfl);simp only[BO,AH,Ad,lb];refine KI obi (by rw[MU];exact T) Xz λg3 s3 m=>?_;simp only[AK.elim];refine (Aw (m.ld t) (by show 0<2;omega) (by obtain⟨p,cap,rfl⟩:=GN m;rfl)).2 ?_;exact hR _ d (Jw (s:=s3) (B:={B with l:=(fs.foldl GK B.l).filter λo=>!decide (o.am=0)}) (Bb L) (m.st t))
end
def RO (o:Ord):List Int:=[o.id,o.own,if o.buys then 0 else 1,o.pr,o.am,o.pl]
def DX (B:Bk) (k:Nat):List Int:=[B.next,(B.l.length:Int)]++(B.l.take k).flatMap RO
def bkB (B:Bk):ByteArray:=⟨(C9 (DX B B.l.length)).toArray⟩
theorem Iq (B:Bk) {k:Nat} (b:k<=B.l.length):(DX B k).length=2+k*6:=by
 unfold DX
 have:∀l:List Ord,(l.flatMap RO).length=l.length*6:=λl=>by
  induction l with
  | nil=>rfl
  | cons a l ih=>rw[List.flatMap_cons,List.length_append,ih];simp[RO];omega
 rw[List.length_append,this,List.length_take];simp only[List.length_cons,List.length_nil];omega
theorem Mx {B:Bk} {k:Nat} {o:Ord} (a:B.l[k]?=some o):DX B (k+1)=DX B k++RO o:=by
 unfold DX;rw[List.take_add_one,a,List.flatMap_append];simp
theorem Qq {B:Bk} (b:B.ok) {k:Nat}:∀x∈DX B k,0<=x/\x<=9007199254740992:=by
 intro x a;have e:=b.len;have d:=b.nx;unfold DX at a
 rcases List.mem_append.1 a with a | a
 ·simp only[List.mem_cons,List.not_mem_nil,or_false]at a
  rcases a with rfl | rfl <;> omega
 ·obtain⟨o,c,a⟩:=List.mem_flatMap.1 a
  have ho':=List.mem_of_mem_take c;have g:=Am.1 (b.right o ho');have f:=b.pl o ho';simp only[RO,List.mem_cons,List.not_mem_nil,or_false]at a
  rcases a with rfl | rfl | rfl | rfl | rfl | rfl
  ·omega
  ·omega
  ·split <;> omega
  ·omega
  ·omega
  ·omega
section
variable {h h0 g:PH} {R:RT} {b:Nat} {B:Bk} {C:PH->Prop} {s:Value}
theorem cI (H:BkP b B h) (hk:B.ok) (hR:R (.ret (.string (bkB B))) h):A7 Tryz.prog 39 #[ptr b] h R:=by
 refine A7.drop (oO ?_);unfold qN eXW ivW pnW;obtain⟨s,t,d⟩:=VZ H;obtain⟨p,cap,N⟩:=OS.lens d;have hlen:=hk.len;have z:=λg (d:Sub h g) K=>A5 (K:=K) (d _ _ t) (show (#[s,.int .i64 B.next]:Array Value)[0]?=some s from rfl);have M:=λg (d:Sub h g) K=>A5 (K:=K) (d _ _ t) (show (#[s,.int .i64 B.next]:Array Value)[1]?=some (.int .i64 B.next)from rfl);have ls:∀K:Value->Prop,Ap s K↔K (.int .i64 B.l.length):=λK=>by rw[N];simp
 simp[As Tryz.underlying93,z h (Sub.refl h),M h (Sub.refl h),ls];refine⟨_,LU _ _ rfl rfl,λq hq=>?_⟩
 have y:OB 3 1 h (2+0*6) ((DX B 0).map iv) (ins h q (.cells #[.int .i64 B.next,.int .i64 B.l.length] 3)) (.slice (some ⟨q,0,none⟩) 2 2):=
  ⟨AT _ hq,by rw[List.length_map,Iq B (by omega)],.inr ⟨q,_,2,rfl,AD _ _ _,hq,rfl,by omega,by simp[DX,iv]⟩⟩
 simp only[z _ y.sub,ls];refine AL (λm s' g=>∃(i:Nat) (w:Value),s'=(w,.int .i64 i)/\m=B.l.length-i/\i<=B.l.length/\OB 3 1 h (2+i*6) ((DX B i).map iv) g w) B.l.length ⟨0,_,rfl,rfl,by omega,y⟩ ?_;rintro m s' g ⟨i,w,rfl,rfl,hi,ob⟩
 by_cases T:i<B.l.length
 ·obtain⟨o,ho⟩:=Bp (l:=B.l) (k:=i) T
  have key:∀(I:V2->V2->PH->Prop) Kp u,(∀L x,OB 3 1 h (2+(i+1)*6) ((DX B (i+1)).map iv) L x->I (s,.int .i64 B.l.length) (x,.int .i64 ((i:Int)+1)) L) ->
    U7 Kp u (s,.int .i64 B.l.length) I (w,.int .i64 i) g:=by
   intro I Kp u S;unfold U7 CO ivW;have Q:(i:Int)<(B.l.length:Int):=by omega
   simp only[AC,Q,B6,AB];refine nT ?_;refine IH (OS.mono _ _ ob.sub d) ho λc hc=>?_;have f:=ob.up (AT (.cells o.a 78 (0,0)) hc);have a:ins g c (.cells o.a 78 (0,0)) c=some (.cells o.a 78 (0,0)):=AD _ _ _;revert f a;generalize ins g c (.cells o.a 78 (0,0))=G;intro f a;have u:=λK=>A5 (K:=K) a (show o.a[0]?=some (.int .i64 o.id)from rfl);have x1:=λK=>A5 (K:=K) a (show o.a[1]?=some (.int .i64 o.own)from rfl);have x2:=λK=>A5 (K:=K) a (show o.a[2]?=some (.int .i64 o.pr)from rfl);have Z:=λK=>A5 (K:=K) a (show o.a[3]?=some (.int .i64 o.am)from rfl);have Y:=λK=>A5 (K:=K) a (show o.a[4]?=some (.int .i64 o.pl)from rfl);have X:=λK=>A5 (K:=K) a (show o.a[5]?=some (.bool o.buys)from rfl);have A:IntKind.i64.wrap ((i:Int)+1)=(i:Int)+1:=w64 (by omega) (by omega)
   have E:∀F:Int,F=(if o.buys then 0 else 1)->Aj 3 1 6 #[.int .i64 0] [(0,.int .i64 o.id),(1,.int .i64 o.own),(2,.int .i64 F),(3,.int .i64 o.pr),(4,.int .i64 o.am),(5,.int .i64 o.pl)] G λt48 V=>
     Ab false 3 1 8 w t48 V λt49 U=>I (s,.int .i64 B.l.length) (t49,.int .i64 ((i:Int)+1)) U:=λF O=>by
    refine⟨_,Ro _ _ _ _ _ _ rfl rfl rfl rfl rfl rfl,λr J=>?_⟩;have on:(RO o).map iv = [.int .i64 o.id,.int .i64 o.own,.int .i64 F,.int .i64 o.pr,.int .i64 o.am,.int .i64 o.pl]:=by rw[O];rfl
    refine Db (m:=6) (news:=(RO o).map iv) (f.up (AT _ J)) (by simp only[roomBytes];omega) (by omega) rfl
     (λK' D=>.inr (.inr ⟨rfl,r,0,6,6,_,_,_,rfl,AD _ _ _,by simp,?_,by rw[on]at D;exact D⟩)) (λb' off l cc hx gg cap d=>?_) λL x n=>?_
    ·intro v hv
     have:v∈(RO o).map iv:=by rw[on];exact hv
     exact MN v this
    ·cases hx
     intro e
     rcases f.buf with⟨W,_⟩ | ⟨g',c',cap',W,h2,_⟩
     ·rw[W]at d;cases d
     ·rw[W]at d;cases d;rw[<-e,J]at h2;cases h2
    ·refine S _ _ ?_
     rw[Mx ho,List.map_append,show 2+(i+1)*6=2+i*6+6 by omega];exact n
   cases t:o.buys with
   | true=>
    have:=E 0 (by simp[t]);simp[X,t,u,x1,x2,Z,Y,A];exact this
   | false=>
    have:=E 1 (by simp[t]);simp[X,t,u,x1,x2,Z,Y,A];exact this
  exact key _ _ _ λL x n=>⟨rfl,B.l.length-(i+1),by omega,i+1,x,rfl,rfl,by omega,n⟩
 ·have e:i=B.l.length:=by omega
  subst e;unfold U7 CO ivW;simp;intro r J;obtain⟨p2,cap2,j⟩:=GN ob;rw[show r _=_ from J,j];simp only[BQ];rw[<-j,<-Iq B (Nat.le_refl _)]at *;rw[show @Vb=WG from rfl];refine WF ob (Qq hk) (by rw[Iq B (Nat.le_refl _)];omega) ?_;intro r2 P;rw[show r2 _=_ from P];exact⟨h,ob.sub,hR⟩
end
def rR (L M:Led) (i:Nat):Prop:=(∀j,j<10->L.f i j=M.f i j)/\L.f i 10=M.f i 10/\L.r i=M.r i
theorem rD (d:Nat) (h g f e c b1 b2 b:Int) (w:World) :
  (Op.equalIn (d+2) 59 (.agg #[.int .i64 h,.int .i64 g,.int .i64 f,.int .i64 e]) (.agg #[.int .i64 c,.int .i64 b1,.int .i64 b2,.int .i64 b])).run Tryz.prog w =
   .ok (decide (h=c)&&(decide (g=b1)&&(decide (f=b2)&&decide (e=b)))) w:=by
 have l:=Tryz.underlying3;have a3':=Tryz.isAgg3;have k:=Tryz.sizeOf3;rw[show d+2=(d+1)+1 from rfl,Op.equalIn];simp only[Sem.run_bind,run_underlying Tryz.underlying59,Result.andThen_ok];simp only[Std.Legacy.Range.forIn_eq_forIn_range',Std.Legacy.Range.size,Nat.sub_zero,Nat.add_sub_cancel,Nat.div_one,List.range'_succ,List.range'_zero,List.forIn_cons,List.forIn_nil]
 go_simp
 by_cases h0:h=c
 ·by_cases a:g=b1
  ·by_cases i:f=b2
   ·by_cases j:e=b <;> simp[h0,a,i,j]
   ·simp[h0,a,i]
  ·simp[h0,a]
 ·simp[h0]
end Go.Pw

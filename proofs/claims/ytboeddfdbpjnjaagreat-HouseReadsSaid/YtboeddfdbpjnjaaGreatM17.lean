/- Texts of this claim, one behind the other. -/
import Derived.Test.YtboeddfdbpjnjaaGreatM8
import Derived.Test.YtboeddfdbpjnjaaGreatM10
import Derived.Test.YtboeddfdbpjnjaaGreatM14
import Derived.Test.YtboeddfdbpjnjaaGreatM16
import Derived.Laws.Cover2
set_option linter.unusedSimpArgs false
set_option linter.unusedVariables false
namespace Go.Pw
open Go Go.Proofs Go.ChangeShapes Go.WideShapes Go.ChangeAt Go.RowKit Go.Deep
theorem try_cells_ask:Tryz.prog.cellsOf 27=10:=by kernel_rfl
theorem try_cells_op:Tryz.prog.cellsOf 25=6:=by kernel_rfl
theorem try_cells_bool:Tryz.prog.cellsOf 4=1:=by kernel_rfl
theorem try_cells_float:Tryz.prog.cellsOf 23=1:=by kernel_rfl
section
variable {H:Type} {enc:TypeId×Value->H} {w:World} {base:Nat} {spare:Nat->Bool} {held:Bool}
theorem trod_float {P:Program} {t:TypeId} {k:FloatKind} {fuel:Nat} {cs:List Value} {x:DataW H×List MemPlace} (ht:P.underlying t=some (.float k)) (h:DataW.trod enc P w base spare held fuel t cs=some x):∃b,cs = [.float k b]/\(Lit.float k b).wf=true:=by
 cases fuel with
 | zero=>simp[DataW.trod]at h
 | succ n=>
  unfold DataW.trod at h
  rw[ht]at h
  split at h <;> simp_all
theorem take_sub {α:Type} {l:List α} {o n i:Nat} (hi:i<n):((l.drop o).take n)[i]?=l[o+i]?:=by
 rw[List.getElem?_take,if_pos hi,List.getElem?_drop]
set_option maxRecDepth 100000 in
theorem trod_op {fuel:Nat} {cs:List Value} {x:DataW H×List MemPlace} (h:DataW.trod enc Tryz.prog w base spare held fuel 25 cs=some x):∃a:OpV,cs=a.a.toList/\a.price<18446744073709551616:=by
 obtain⟨xs,n,_,_,hl,hlen,hf⟩:=DataW.trod_struct Tryz.underlying25 h
 rw[try_cells_op]at hl
 have hlen6:xs.length=6:=hlen
 have num:∀i,i<5->∃a,cs[i]?=some (.int .i64 a):=λi hi=>by
  obtain⟨z,hz⟩:∃z,xs[i]?=some z:=⟨xs[i]'(by omega),List.getElem?_eq_getElem (by omega)⟩
  have key:∀f:Field,f.type=3->f.offset=i->DataW.trod enc Tryz.prog w base spare held n f.type (List.take (Tryz.prog.cellsOf f.type) (List.drop f.offset cs))=some z->∃a,cs[i]?=some (.int .i64 a):=λf ht ho hh=>by
   rw[ht,try_cells_int,ho]at hh
   obtain⟨a,e,_,_⟩:=DataW.trod_int Tryz.underlying3 hh
   exact⟨a,take1_eq e⟩
  match i,hi with
  | 0,_=>exact key _ rfl rfl ((hf 0 _ rfl).trans hz)
  | 1,_=>exact key _ rfl rfl ((hf 1 _ rfl).trans hz)
  | 2,_=>exact key _ rfl rfl ((hf 2 _ rfl).trans hz)
  | 3,_=>exact key _ rfl rfl ((hf 3 _ rfl).trans hz)
  | 4,_=>exact key _ rfl rfl ((hf 4 _ rfl).trans hz)
 have flt:∃b,cs[5]?=some (.float .f64 b)/\b<18446744073709551616:=by
  obtain⟨z,hz⟩:∃z,xs[5]?=some z:=⟨xs[5]'(by omega),List.getElem?_eq_getElem (by omega)⟩
  have key:∀f:Field,f.type=23->f.offset=5->DataW.trod enc Tryz.prog w base spare held n f.type (List.take (Tryz.prog.cellsOf f.type) (List.drop f.offset cs))=some z->∃b,cs[5]?=some (.float .f64 b)/\b<18446744073709551616:=λf ht ho hh=>by
   rw[ht,try_cells_float,ho]at hh
   obtain⟨a,e,hw⟩:=trod_float Tryz.underlying23 hh
   refine⟨a,take1_eq e,?_⟩
   simp only[Lit.wf,decide_eq_true_eq]at hw
   exact hw
  exact key _ rfl rfl ((hf 5 _ rfl).trans hz)
 obtain⟨a0,h0⟩:=num 0 (by omega)
 obtain⟨a1,h1⟩:=num 1 (by omega)
 obtain⟨a2,h2⟩:=num 2 (by omega)
 obtain⟨a3,h3⟩:=num 3 (by omega)
 obtain⟨a4,h4⟩:=num 4 (by omega)
 obtain⟨b,h5,hb⟩:=flt
 refine⟨⟨a0,a1,a2,a3,a4,b⟩,?_,hb⟩
 apply List.ext_getElem?
 intro i
 rcases Nat.lt_or_ge i 6 with hi | hi
 ·match i,hi with
  | 0,_=>exact h0
  | 1,_=>exact h1
  | 2,_=>exact h2
  | 3,_=>exact h3
  | 4,_=>exact h4
  | 5,_=>exact h5
 ·rw[List.getElem?_eq_none (by omega),List.getElem?_eq_none (by simpa [OpV.a]using hi)]
set_option maxRecDepth 100000 in
theorem trod_ask {fuel:Nat} {cs:List Value} {x:DataW H×List MemPlace} (h:DataW.trod enc Tryz.prog w base spare held fuel 27 cs=some x):∃a:Ask,cs=a.a.toList/\a.ok:=by
 obtain⟨xs,n,_,_,hl,hlen,hf⟩:=DataW.trod_struct Tryz.underlying27 h
 rw[try_cells_ask]at hl
 have hlen5:xs.length=5:=hlen
 have num:∀i,i<2->∃a,cs[i]?=some (.int .i64 a):=λi hi=>by
  obtain⟨z,hz⟩:∃z,xs[i]?=some z:=⟨xs[i]'(by omega),List.getElem?_eq_getElem (by omega)⟩
  have key:∀f:Field,f.type=3->f.offset=i->DataW.trod enc Tryz.prog w base spare held n f.type (List.take (Tryz.prog.cellsOf f.type) (List.drop f.offset cs))=some z->∃a,cs[i]?=some (.int .i64 a):=λf ht ho hh=>by
   rw[ht,try_cells_int,ho]at hh
   obtain⟨a,e,_,_⟩:=DataW.trod_int Tryz.underlying3 hh
   exact⟨a,take1_eq e⟩
  match i,hi with
  | 0,_=>exact key _ rfl rfl ((hf 0 _ rfl).trans hz)
  | 1,_=>exact key _ rfl rfl ((hf 1 _ rfl).trans hz)
 have opx:∃o:OpV,((cs.drop 2).take 6)=o.a.toList/\o.price<18446744073709551616:=by
  obtain⟨z,hz⟩:∃z,xs[2]?=some z:=⟨xs[2]'(by omega),List.getElem?_eq_getElem (by omega)⟩
  have key:∀f:Field,f.type=25->f.offset=2->DataW.trod enc Tryz.prog w base spare held n f.type (List.take (Tryz.prog.cellsOf f.type) (List.drop f.offset cs))=some z->∃o:OpV,((cs.drop 2).take 6)=o.a.toList/\o.price<18446744073709551616:=λf ht ho hh=>by
   rw[ht,try_cells_op,ho]at hh
   exact trod_op hh
  exact key _ rfl rfl ((hf 2 _ rfl).trans hz)
 have boo:∃b,cs[8]?=some (.bool b):=by
  obtain⟨z,hz⟩:∃z,xs[3]?=some z:=⟨xs[3]'(by omega),List.getElem?_eq_getElem (by omega)⟩
  have key:∀f:Field,f.type=4->f.offset=8->DataW.trod enc Tryz.prog w base spare held n f.type (List.take (Tryz.prog.cellsOf f.type) (List.drop f.offset cs))=some z->∃b,cs[8]?=some (.bool b):=λf ht ho hh=>by
   rw[ht,try_cells_bool,ho]at hh
   obtain⟨a,e,_⟩:=DataW.trod_bool Tryz.underlying4 hh
   exact⟨a,take1_eq e⟩
  exact key _ rfl rfl ((hf 3 _ rfl).trans hz)
 have txt:∃s,cs[9]?=some (.string s):=by
  obtain⟨z,hz⟩:∃z,xs[4]?=some z:=⟨xs[4]'(by omega),List.getElem?_eq_getElem (by omega)⟩
  have key:∀f:Field,f.type=9->f.offset=9->DataW.trod enc Tryz.prog w base spare held n f.type (List.take (Tryz.prog.cellsOf f.type) (List.drop f.offset cs))=some z->∃a,cs[9]?=some (.string a):=λf ht ho hh=>by
   rw[ht,try_cells_string,ho]at hh
   obtain⟨a,e,_,_⟩:=DataW.trod_string Tryz.underlying9 hh
   exact⟨a,take1_eq e⟩
  exact key _ rfl rfl ((hf 4 _ rfl).trans hz)
 obtain⟨a0,h0⟩:=num 0 (by omega)
 obtain⟨a1,h1⟩:=num 1 (by omega)
 obtain⟨o,ho,hp⟩:=opx
 obtain⟨b,h8⟩:=boo
 obtain⟨s,h9⟩:=txt
 have hos:∀i,i<6->cs[2+i]?=o.a[i]?:=λi hi=>by
  rw[<-take_sub (n:=6) hi,ho,Array.getElem?_toList]
 refine⟨⟨a0,a1,o,b,s⟩,?_,hp⟩
 apply List.ext_getElem?
 intro i
 rcases Nat.lt_or_ge i 10 with hi | hi
 ·match i,hi with
  | 0,_=>exact h0
  | 1,_=>exact h1
  | 2,_=>exact hos 0 (by omega)
  | 3,_=>exact hos 1 (by omega)
  | 4,_=>exact hos 2 (by omega)
  | 5,_=>exact hos 3 (by omega)
  | 6,_=>exact hos 4 (by omega)
  | 7,_=>exact hos 5 (by omega)
  | 8,_=>exact h8
  | 9,_=>exact h9
 ·rw[List.getElem?_eq_none (by omega),List.getElem?_eq_none (by simpa [Ask.a]using hi)]
instance:Inhabited Ask:=⟨⟨0,0,op0,false,⟨#[]⟩⟩⟩
set_option maxRecDepth 100000 in
theorem open_asks {v:Value} {d:DataW H} {p:List MemPlace} {r:Reach} {b0:Nat} {sp:Nat->Bool} (hv:Value.okWide Tryz.prog w r b0 22 v) (h:DataW.Trod enc Tryz.prog w base sp held 22 v d p) :
  ∃l:List Ask,AsksAt (whole w) v l/\∀a∈l,a.ok:=by
 obtain⟨a0,len,cap,rfl⟩:=okWide_slice Tryz.underlying22 hv
 obtain⟨fuel,hf⟩:=h
 rcases open_slice Tryz.underlying22 hf with⟨hcs,hx⟩ | ⟨a,len',cap',m,n,D,Pl,hcs,_,hl,hm,hmm,hx,hel⟩
 ·simp only[Value.cells,Array.toList]at hcs
  injection hcs with h1 _
  injection h1 with h1 h2 h3
  subst h1 h2 h3
  exact⟨[],⟨none,0,rfl,Nat.le_refl _,λi a h=>by cases h⟩,λa h=>by cases h⟩
 ·simp only[Value.cells,Array.toList]at hcs
  injection hcs with h1 _
  injection h1 with h1 h2 h3
  subst h1 h2 h3
  have hm':len<=m:=by rw[hmm];split <;> omega
  by_cases hl0:len=0
  ·subst hl0
   exact⟨[],⟨some a,cap,rfl,Nat.zero_le _,λi a h=>by cases h⟩,λa h=>by cases h⟩
  obtain⟨b,off,rfl⟩:∃b off,a=⟨b,off,none⟩:=by
   obtain⟨cs',g1,g2⟩:=hel 0 (by omega)
   rw[try_cells_ask]at g1
   obtain⟨b,off,c,e,fr,q1,q2,q3,q4⟩:=cells_at (by omega) g1
   rw[show a.add (0*10)=a by simp[Addr.add]]at q1
   exact⟨b,off,q1⟩
  have one:∀i,i<len->∃x:Ask,(∃c e fr,whole w b=some (.cells c e fr)/\off+i*10+10<=c.size/\c.extract (off+i*10) (off+i*10+10)=x.a)/\x.ok:=λi hi=>by
   obtain⟨cs',g1,g2⟩:=hel i (by omega)
   rw[try_cells_ask,add_lit]at g1
   obtain⟨x,hx,hk⟩:=trod_ask g2
   obtain⟨b',off',c,e,fr,q1,q2,q3,q4⟩:=cells_at (by omega) g1
   simp only[Addr.mk.injEq]at q1
   obtain⟨rfl,rfl,_⟩:=q1
   exact⟨x,⟨c,e,fr,q2,q3,Array.toList_inj.1 (q4.trans hx)⟩,hk⟩
  obtain⟨F,hF⟩:=choose_lt one
  refine⟨(List.range len).map F,⟨some ⟨b,off,none⟩,cap,by simp,by simpa using hl,λi x hx=>?_⟩,λx hx=>?_⟩
  ·rw[List.getElem?_map]at hx
   by_cases hi:i<len
   ·rw[List.getElem?_range hi]at hx
    cases hx
    obtain⟨⟨c,e,fr,q2,q3,q4⟩,_⟩:=hF i hi
    exact⟨b,off,c,e,fr,rfl,q2,q3,q4⟩
   ·rw[List.getElem?_eq_none (by simp;omega)]at hx
    cases hx
  ·obtain⟨i,hi,rfl⟩:=List.mem_map.1 hx
   exact (hF i (List.mem_range.1 hi)).2
end
end Go.Pw
set_option linter.unusedSimpArgs false
set_option linter.unusedVariables false
namespace Go.Pw
open Go Go.Proofs
def readNB (m:Int) (Kp:List PanicEntry->PH->Prop) (x0:(Value×Value×Value)->PH->Prop) (xr:(Value×Value×Value)->PH->Prop) (f:Value) (kn:(Value)->(Value×Value×Value×Value)->PH->Prop) (s:Value×Value×Value×Value) (h:PH):Prop:=
 vLenStr f λt15=>
 vBin Tryz.prog .lss 3 s.2.2.2 t15 λt16=>
 dIf t16 (vCall Tryz.prog 54 #[f,s.2.2.2] h (λt20 h_1=>
 vExt t20 0 λt21=>
 vExt t20 1 λt22=>
 vExt t20 2 λt23=>
 vBin Tryz.prog .neq 30 t23 (.int .i64 0) λt25=>
 gq (boolOf t25) false (λK=>
 K s.2.2.1 h_1)
 (λt27 h_2=>
 gq (boolOf t25) false (λK_1=>
 vLenS t27 λu=>
 K_1 u h_2)
 (λt28 h_3=>
 gq (boolOf t25) false (λK_2=>
 vBin Tryz.prog .gtr 3 t28 (.int .i64 m) λu_1=>
 K_2 u_1 h_3)
 (λt29 h_4=>
 vPick t25 (.bool true) t29 λt30=>
 dIf t30 (xr ((.pointer none),(.int .i64 92),s.2.2.1) h_4)
 ((1*1<=2^24)/\vBuildS 3 1 1 #[.int .i64 0] [(0,t21)] h_4 λt33 h_5=>
 (0<1)/\(0<8)/\(Array.size #[(.int .i64 0:Value)]=1)/\vAppend false 3 1 8 s.2.2.1 t33 h_5 λt34 h_6=>
 kn f (s.1,s.2.1,t34,t22) h_6)) h_3) h_2) h_1)
 Kp)
 (x0 (s.1,s.2.1,s.2.2.1) h)
def NumL (N:List Int):Prop:=∀x∈N,0<=x/\x<=9007199254740992
theorem encL_app (a b:List Int):encL (a++b)=encL a++encL b:=by simp[encL]
theorem encL_one (n:Nat):encL [(n:Int)]=encN n:=by simp[encL]
theorem encN_ne (n:Nat):encN n≠[]:=by
 by_cases h:n<128
 ·rw[encN_small h];simp
 ·rw[encN_big h];simp
theorem encL_nil:∀{M:List Int},encL M = []->M = []
 | [],_=>rfl
 | a::M,h=>by
  simp only[encL,List.flatMap_cons,List.append_eq_nil_iff]at h
  exact absurd h.1 (encN_ne _)
structure Red (s:ByteArray) (N:List Int) (at_:Nat):Prop where
 num:NumL N
 le:at_<=s.size
 enc:s.data.toList=encL N++s.data.toList.drop at_
 only:∀N',NumL N'->encL N'=s.data.toList->∃M,N'=N++M/\NumL M/\encL M=s.data.toList.drop at_
theorem Red.zero (s:ByteArray):Red s [] 0:=⟨λx hx=>by simp at hx,Nat.zero_le _,by simp[encL],λN' h1 h2=>⟨N',rfl,h1,by rw[List.drop_zero];exact h2⟩⟩
theorem Red.step {s:ByteArray} {N:List Int} {at_ n next:Nat} (H:Red s N at_) (hr:rdNum s.data.toList at_ = .ok n next) (hn:n<=9007199254740992) (hx:next<=s.size):Red s (N ++ [(n:Int)]) next:=by
 have he:=rdNum_enc hr
 refine⟨λx hx=>?_,hx,?_,λN' h1 h2=>?_⟩
 ·rcases List.mem_append.1 hx with h | h
  ·exact H.num x h
  ·simp only[List.mem_singleton]at h;subst h;omega
 ·rw[encL_app,encL_one,List.append_assoc,<-he];exact H.enc
 ·obtain⟨M,rfl,hM,hE⟩:=H.only N' h1 h2
  cases M with
  | nil=>
   rw[he]at hE
   simp only[encL,List.flatMap_nil]at hE
   exact absurd hE.symm (by simp[encN_ne])
  | cons a M=>
   have ha:=hM a (by simp)
   obtain⟨k,rfl⟩:∃k:Nat,a=k:=⟨a.toNat,by omega⟩
   simp only[encL,List.flatMap_cons]at hE
   rw[Int.toNat_natCast]at hE
   rw[he]at hE
   obtain⟨rfl,e2⟩:=encN_inj _ _ _ _ hE
   exact⟨M,by simp,λx hx=>hM x (by simp[hx]),e2⟩
theorem Red.bad {s:ByteArray} {N:List Int} {at_:Nat} {e:Int} (H:Red s N at_) (hlt:at_<s.size) (hr:rdNum s.data.toList at_ = .bad e):¬∃N',NumL N'/\encL N'=s.data.toList:=by
 rintro⟨N',h1,h2⟩
 obtain⟨M,rfl,hM,hE⟩:=H.only N' h1 h2
 cases M with
 | nil=>
  have:(s.data.toList.drop at_).length=0:=by rw[<-hE];rfl
  rw[List.length_drop,Array.length_toList]at this
  have:s.size=s.data.size:=rfl
  omega
 | cons a M=>
  have ha:=hM a (by simp)
  simp only[encL,List.flatMap_cons]at hE
  rw[rdNum_of (m:=a.toNat) (rest:=M.flatMap λa=>encN a.toNat) hE.symm (by omega)]at hr
  cases hr
theorem Red.more {s:ByteArray} {N:List Int} {at_:Nat} (H:Red s N at_) (hlt:at_<s.size):¬∃N',NumL N'/\encL N'=s.data.toList/\N'.length<=N.length:=by
 rintro⟨N',h1,h2,h3⟩
 obtain⟨M,rfl,hM,hE⟩:=H.only N' h1 h2
 have:M = []:=by
  rw[List.length_append]at h3
  exact List.length_eq_zero_iff.1 (by omega)
 subst this
 have:(s.data.toList.drop at_).length=0:=by rw[<-hE];rfl
 rw[List.length_drop,Array.length_toList]at this
 have:s.size=s.data.size:=rfl
 omega
theorem Red.all {s:ByteArray} {N:List Int} {at_:Nat} (H:Red s N at_) (hge:s.size<=at_):encL N=s.data.toList/\∀N',NumL N'->encL N'=s.data.toList->N'=N:=by
 have hd:s.data.toList.drop at_ = []:=List.drop_eq_nil_of_le (by rw[Array.length_toList];exact hge)
 have:=H.enc
 rw[hd,List.append_nil]at this
 refine⟨this.symm,λN' h1 h2=>?_⟩
 obtain⟨M,rfl,hM,hE⟩:=H.only N' h1 h2
 rw[hd]at hE
 rw[encL_nil hE,List.append_nil]
theorem rdN_lq {s:List UInt8}:∀(fuel i n at_ N next:Nat),rdN s fuel i n at_ = .ok N next->next<=s.length/\N<=9007199254740992
 | 0,i,n,at_,N,next,h=>by rw[rdN]at h;cases h
 | fuel+1,i,n,at_,N,next,h=>by
  rw[rdN]at h
  cases hc:s[at_]? with
  | none=>rw[hc]at h;cases h
  | some c=>
   rw[hc]at h
   simp only at h
   have hl:=(List.getElem?_eq_some_iff.1 hc).1
   split at h
   ·split at h
    ·cases h
    ·exact rdN_lq fuel _ _ _ _ _ h
   ·split at h
    ·cases h
    ·rename_i hn
     cases h
     exact⟨by omega,by omega⟩
section
variable {h g:PH} {R:AEnd->PH->Prop} {K:Value->Prop}
theorem fill_1i (a:Value) (ha:a.cells=#[a]):Instr.fill (λi=>some (i*1,1)) (rep #[Value.int .i64 0] (1*1)) [(0,a)]=some #[a]:=by
 have e:Array.range 1=#[0]:=by decide
 simp[Instr.fill,rep,ha,e]
theorem rdN_bq {s:List UInt8} {e:Int}:∀(fuel i n at_:Nat),rdN s fuel i n at_ = .bad e->e≠0
 | 0,i,n,at_,h=>by rw[rdN]at h;cases h;omega
 | fuel+1,i,n,at_,h=>by
  rw[rdN]at h
  cases hc:s[at_]? with
  | none=>rw[hc]at h;cases h;omega
  | some c=>
   rw[hc]at h
   simp only at h
   split at h
   ·split at h
    ·cases h;omega
    ·exact rdN_bq fuel _ _ _ h
   ·split at h
    ·cases h;omega
    ·cases h
theorem reads_ok {m:Nat} {Kp:List PanicEntry->PH->Prop} {x0 xr:(Value×Value×Value)->PH->Prop} {s:ByteArray} (hm:m<=1000) (hz:s.size<4611686018427387000)
  (hyes:∀N sv g,NumL N->N.length<=m+1->encL N=s.data.toList->(∀N',NumL N'->encL N'=s.data.toList->N'=N)->OB 3 1 h N.length (N.map iv) g sv->x0 (.pointer none,.int .i64 0,sv) g)
  (hno:∀sv g,Sub h g->(¬∃N,NumL N/\encL N=s.data.toList/\N.length<=m+1)->xr (.pointer none,.int .i64 92,sv) g) :
  lf (readNB m Kp x0 xr) (Value.string s) (Value.pointer none,Value.int .i64 0,Value.slice none 0 0,Value.int .i64 0) h:=by
 refine lf_intro (λk s' g=>∃(N:List Int) (at_:Nat) (sv:Value),s'=(.pointer none,.int .i64 0,sv,.int .i64 at_)/\k=m+2-N.length/\N.length<=m+1/\Red s N at_/\OB 3 1 h N.length (N.map iv) g sv) (m+2) ⟨[],0,_,rfl,rfl,by simp,Red.zero s,⟨Sub.refl h,rfl,.inl ⟨rfl,rfl,rfl⟩⟩⟩ ?_
 rintro k s' g ⟨N,at_,sv,rfl,rfl,hN,red,ob⟩
 obtain⟨p,cap,hse⟩:=ob_len ob
 by_cases hlt:(at_:Int)<(s.size:Int)
 ·have key:∀(kn:Value->(Value×Value×Value×Value)->PH->Prop),(∀N' at' sv' g',N'.length=N.length+1->N'.length<=m+1->Red s N' at'->OB 3 1 h N'.length (N'.map iv) g' sv'->kn (.string s) (.pointer none,.int .i64 0,sv',.int .i64 at') g') ->
    readNB m Kp x0 xr (.string s) kn (.pointer none,.int .i64 0,sv,.int .i64 at_) g:=by
   intro kn hkn
   unfold readNB
   simp only[vLenStr_s,vBin_lss,hlt,decide_true,dIf_b]
   refine⟨λ_=>?_,λe=>absurd e (by simp)⟩
   refine getInt_ok (by omega) ?_
   rw[if_neg (by omega),Int.toNat_natCast]
   simp only[AEnd.elim]
   cases hr:rdNum s.data.toList at_ with
   | bad e=>
    have he:e≠0:=rdN_bq _ _ _ _ hr
    simp[he]
    refine hno _ _ ob.sub λ⟨N',a,b,_⟩=>red.bad (by omega) hr ⟨N',a,b⟩
   | ok n next=>
    have hb:=rdN_lq _ _ _ _ _ _ hr
    rw[Array.length_toList]at hb
    have red':=red.step hr hb.2 hb.1
    rw[hse]
    by_cases hk:(m:Int)<(N.length:Int)
    ·simp[hk]
     have hnn:=hno sv g ob.sub λ⟨N',a,b,c⟩=>red.more (by omega) ⟨N',a,b,by omega⟩
     rw[hse]at hnn
     exact hnn
    ·simp[hk]
     refine⟨_,fill_1i _ rfl,λq hq=>?_⟩
     rw[<-hse]
     refine ob_app (m:=1) (news:=[.int .i64 n]) (ob.up (sub_ins _ hq)) (by simp only[roomBytes];omega) (by omega) rfl
      (λK' hk'=>.inr (.inr ⟨rfl,q,0,1,1,_,_,_,rfl,ins_eq _ _ _,by simp,?_,by exact hk'⟩)) (λb' off l cc hx gg cap hs=>?_) λg2 s2 ob2=>?_
     ·intro v hv
      simp at hv;subst hv;rfl
     ·cases hx
      intro e
      rcases ob.buf with⟨h1,_⟩ | ⟨g',c',cap',h1,h2,_⟩
      ·rw[h1]at hs;cases hs
      ·rw[h1]at hs;cases hs;rw[<-e,hq]at h2;cases h2
     ·refine hkn (N ++ [(n:Int)]) next _ _ (by simp) (by simp;omega) red' ?_
      rw[List.length_append,List.map_append]
      exact ob2
  exact key _ λN' at' sv' g' e1 e2 r o=>⟨rfl,m+2-N'.length,by omega,N',at',sv',rfl,rfl,e2,r,o⟩
 ·unfold readNB
  simp only[vLenStr_s,vBin_lss,hlt,decide_false,dIf_b]
  refine⟨λe=>absurd e (by simp),λ_=>?_⟩
  obtain⟨a,b⟩:=red.all (by omega)
  exact hyes N sv g red.num hN a b ob
end
end Go.Pw
set_option linter.unusedSimpArgs false
set_option linter.unusedVariables false
namespace Go.Pw
open Go Go.Proofs
def nAt (N:List Int) (k:Nat):Int:=N.getD k 0
theorem nAt_get {N:List Int} {k:Nat} (hk:k<N.length):N[k]?=some (nAt N k):=by
 unfold nAt
 rw[List.getD_eq_getElem?_getD,List.getElem?_eq_getElem hk];rfl
theorem nAt_of {N:List Int} {k:Nat} {v:Int} (h:N[k]?=some v):nAt N k=v:=by
 unfold nAt
 rw[List.getD_eq_getElem?_getD,h];rfl
theorem nAt_bd {N:List Int} (hN:NumL N) (k:Nat):0<=nAt N k/\nAt N k<=9007199254740992:=by
 rcases Nat.lt_or_ge k N.length with h | h
 ·exact hN _ (List.mem_of_getElem? (nAt_get h))
 ·unfold nAt
  rw[List.getD_eq_getElem?_getD,List.getElem?_eq_none h]
  simp
def ordAt (N:List Int) (i:Nat):Ord:={id:=nAt N i,own:=nAt N (i+1),pr:=nAt N (i+3),am:=nAt N (i+4),pl:=nAt N (i+5),buys:=decide (nAt N (i+2)=0)}
def ordsTo (N:List Int) (j:Nat):List Ord:=(List.range j).map λk=>ordAt N (2+6*k)
theorem ordsTo_succ (N:List Int) (j:Nat):ordsTo N (j+1)=ordsTo N j ++ [ordAt N (2+6*j)]:=by
 unfold ordsTo;rw[List.range_succ,List.map_append];rfl
theorem ordsTo_len (N:List Int) (j:Nat):(ordsTo N j).length=j:=by simp[ordsTo]
def goodB (N:List Int) (j:Nat) (last:Int):Prop:=rightO (ordAt N (2+6*j))=true/\nAt N (2+6*j+2)<=1/\last<(ordAt N (2+6*j)).pl/\idx (ordsTo N j) (ordAt N (2+6*j)).id=none
structure BkR (N:List Int) (j:Nat) (last:Int):Prop where
 rt:∀k,k<j->rightO (ordAt N (2+6*k))=true/\nAt N (2+6*k+2)<=1
 ids:(ordsTo N j).Pairwise λx y=>x.id≠y.id
 pls:(ordsTo N j).Pairwise λx y=>x.pl<y.pl
 pl:∀o∈ordsTo N j,1<=o.pl/\o.pl<=last
 l0:0<=last
 is:last=if j=0 then 0 else (ordAt N (2+6*(j-1))).pl
theorem BkR.zero (N:List Int):BkR N 0 0:=⟨λk hk=>absurd hk (by omega),by simp[ordsTo],by simp[ordsTo],by simp[ordsTo],by omega,rfl⟩
theorem BkR.step {N:List Int} {j:Nat} {last:Int} (H:BkR N j last) (g:goodB N j last):BkR N (j+1) (ordAt N (2+6*j)).pl:=by
 obtain⟨g1,g2,g3,g4⟩:=g
 have h0:=H.l0
 refine⟨λk hk=>?_,?_,?_,?_,by omega,by simp⟩
 ·rcases Nat.lt_or_ge k j with h | h
  ·exact H.rt k h
  ·have:k=j:=by omega
   subst this;exact⟨g1,g2⟩
 ·rw[ordsTo_succ,List.pairwise_append]
  refine⟨H.ids,by simp,λa ha b hb=>?_⟩
  simp at hb;subst hb
  exact idx_none g4 a ha
 ·rw[ordsTo_succ,List.pairwise_append]
  refine⟨H.pls,by simp,λa ha b hb=>?_⟩
  simp at hb;subst hb
  have:=H.pl a ha
  omega
 ·intro o ho
  rw[ordsTo_succ]at ho
  rcases List.mem_append.1 ho with h | h
  ·have:=H.pl o h
   omega
  ·simp at h;subst h
   omega
theorem take_6 {N:List Int} {a:Nat} (h:a+6<=N.length):N.take (a+6)=N.take a ++ [nAt N a,nAt N (a+1),nAt N (a+2),nAt N (a+3),nAt N (a+4),nAt N (a+5)]:=by
 have g:=λk (hk:k<6)=>nAt_get (N:=N) (k:=a+k) (by omega)
 rw[show a+6=a+1+1+1+1+1+1 from rfl,List.take_add_one,List.take_add_one,List.take_add_one,List.take_add_one,List.take_add_one,List.take_add_one]
 have e0:=g 0 (by omega)
 have e1:=g 1 (by omega)
 have e2:=g 2 (by omega)
 have e3:=g 3 (by omega)
 have e4:=g 4 (by omega)
 have e5:=g 5 (by omega)
 simp only[Nat.add_zero]at e0
 rw[e0,e1,show a+1+1=a+2 from rfl,e2,show a+2+1=a+3 from rfl,e3,show a+3+1=a+4 from rfl,e4,show a+4+1=a+5 from rfl,e5]
 simp
theorem ordN_at {N:List Int} (hN:NumL N) {i:Nat} (h:nAt N (i+2)<=1):ordN (ordAt N i) = [nAt N i,nAt N (i+1),nAt N (i+2),nAt N (i+3),nAt N (i+4),nAt N (i+5)]:=by
 have:=nAt_bd hN (i+2)
 unfold ordN ordAt
 simp only[decide_eq_true_eq]
 by_cases e:nAt N (i+2)=0
 ·rw[if_pos e,e]
 ·rw[if_neg e,show nAt N (i+2)=1 by omega]
theorem ordsTo_num {N:List Int} (hN:NumL N):∀j,2+6*j<=N.length->(∀k,k<j->nAt N (2+6*k+2)<=1)->[nAt N 0,nAt N 1]++(ordsTo N j).flatMap ordN=N.take (2+6*j)
 | 0,h,_=>by
  simp only[ordsTo,List.range_zero,List.map_nil,List.flatMap_nil,List.append_nil,Nat.mul_zero,Nat.add_zero]
  rw[show (2:Nat)=0+1+1 from rfl,List.take_add_one,List.take_add_one,nAt_get (by omega),nAt_get (by omega)]
  simp
 | j+1,h,hs=>by
  have ih:=ordsTo_num hN j (by omega) λk hk=>hs k (by omega)
  rw[ordsTo_succ,List.flatMap_append,<-List.append_assoc,ih,show 2+6*(j+1)=2+6*j+6 by omega,take_6 (by omega),List.flatMap_cons,List.flatMap_nil,List.append_nil,ordN_at hN (hs j (by omega))]
theorem BkR.fin {N:List Int} {n:Nat} {last:Int} (hN:NumL N) (H:BkR N n last) (hl:N.length=2+6*n) (h1:nAt N 1=n) (hn:n<=64) (hx:last<nAt N 0) :
  ({next:=nAt N 0,l:=ordsTo N n}:Bk).ok/\bkNums {next:=nAt N 0,l:=ordsTo N n} n=N:=by
 have h0:=H.l0
 have hb:=nAt_bd hN 0
 refine⟨⟨λo ho=>?_,H.ids,H.pls,λo ho=>?_,?_,?_⟩,?_⟩
 ·obtain⟨k,hk,rfl⟩:=List.mem_map.1 ho
  exact (H.rt k (List.mem_range.1 hk)).1
 ·have:=H.pl o ho
  show 1<=o.pl/\o.pl<nAt N 0
  omega
 ·rw[show ({next:=nAt N 0,l:=ordsTo N n}:Bk).l.length=n from ordsTo_len N n];exact hn
 ·show 1<=nAt N 0/\nAt N 0<=_
  omega
 ·unfold bkNums
  simp only[ordsTo_len]
  rw[List.take_of_length_le (by rw[ordsTo_len];exact Nat.le_refl _),<-h1,ordsTo_num hN n (by omega) λk hk=>(H.rt k hk).2,<-hl,List.take_length]
theorem flat_ordN:∀(l:List Ord) (i:Nat) (o:Ord),l[i]?=some o->∀j,j<6->(l.flatMap ordN)[6*i+j]?=(ordN o)[j]?
 | [],i,o,h,_,_=>by simp at h
 | a::l,0,o,h,j,hj=>by
  simp only[List.getElem?_cons_zero,Option.some.injEq]at h
  subst h
  rw[List.flatMap_cons,List.getElem?_append_left (by show 6*0+j<6;omega),Nat.mul_zero,Nat.zero_add]
 | a::l,i+1,o,h,j,hj=>by
  simp only[List.getElem?_cons_succ]at h
  rw[List.flatMap_cons,List.getElem?_append_right (by show 6<=_;omega)]
  rw[<-flat_ordN l i o h j hj]
  congr 1
  show 6*(i+1)+j-6=_
  omega
theorem bk_nums {B:Bk} (hk:B.ok) {N:List Int} (he:bkNums B B.l.length=N):N.length=2+6*B.l.length/\nAt N 0=B.next/\nAt N 1=B.l.length/\∀k o,B.l[k]?=some o->ordAt N (2+6*k)=o/\nAt N (2+6*k+2)<=1:=by
 subst he
 have hu:bkNums B B.l.length = [B.next,(B.l.length:Int)]++B.l.flatMap ordN:=by unfold bkNums;rw[List.take_length]
 refine⟨by rw[bkNums_len B (Nat.le_refl _)];omega,nAt_of (by rw[hu];rfl),nAt_of (by rw[hu];rfl),λk o ho=>?_⟩
 have g:∀r v,r<6->(ordN o)[r]?=some v->nAt (bkNums B B.l.length) (2+6*k+r)=v:=λr v hr hv=>nAt_of (by
  rw[hu,List.getElem?_append_right (by simp;omega),<-hv,<-flat_ordN _ _ _ ho r hr]
  congr 1
  simp;omega)
 have g0:=g 0 _ (by omega) rfl
 have g1:=g 1 _ (by omega) rfl
 have g2:=g 2 _ (by omega) rfl
 have g3:=g 3 _ (by omega) rfl
 have g4:=g 4 _ (by omega) rfl
 have g5:=g 5 _ (by omega) rfl
 simp only[Nat.add_zero]at g0
 unfold ordAt
 rw[g0,g1,g2,g3,g4,g5]
 obtain⟨a,b,c,d,e,f⟩:=o
 cases f <;> simp
theorem bk_to {B:Bk} (hk:B.ok) {N:List Int} (he:bkNums B B.l.length=N):∀j,j<=B.l.length->ordsTo N j=B.l.take j
 | 0,_=>by simp[ordsTo]
 | j+1,hj=>by
  obtain⟨o,ho⟩:=at_some (l:=B.l) (k:=j) (by omega)
  rw[ordsTo_succ,bk_to hk he j (by omega),List.take_add_one,ho,((bk_nums hk he).2.2.2 j o ho).1]
  rfl
theorem bk_good {B:Bk} (hk:B.ok) {N:List Int} (he:bkNums B B.l.length=N) {j:Nat} (hj:j<B.l.length) {last:Int} (hl:last=if j=0 then 0 else (ordAt N (2+6*(j-1))).pl):goodB N j last:=by
 obtain⟨o,ho⟩:=at_some (l:=B.l) (k:=j) hj
 obtain⟨e1,e2⟩:=(bk_nums hk he).2.2.2 j o ho
 have hm:o∈B.l:=List.mem_of_getElem? ho
 unfold goodB
 rw[e1]
 refine⟨hk.right o hm,e2,?_,?_⟩
 ·have h1:=hk.pl o hm
  by_cases h0:j=0
  ·rw[if_pos h0]at hl;omega
  ·rw[if_neg h0]at hl
   obtain⟨p,hp⟩:=at_some (l:=B.l) (k:=j-1) (by omega)
   rw[((bk_nums hk he).2.2.2 (j-1) p hp).1]at hl
   rw[hl]
   have:=List.pairwise_iff_getElem.1 hk.pls (j-1) j (by omega) (by omega) (by omega)
   obtain⟨_,hpe⟩:=List.getElem?_eq_some_iff.1 hp
   obtain⟨_,hoe⟩:=List.getElem?_eq_some_iff.1 ho
   rw[hpe,hoe]at this
   exact this
 ·rw[bk_to hk he j (by omega)]
  cases hx:idx (B.l.take j) o.id with
  | none=>rfl
  | some m=>
   obtain⟨h1,⟨p,h2,h3⟩,_⟩:=idx_some hx
   exfalso
   rw[List.length_take]at h1
   rw[List.getElem?_take,if_pos (by omega)]at h2
   have:=List.pairwise_iff_getElem.1 hk.ids m j (by omega) (by omega) (by omega)
   obtain⟨_,hpe⟩:=List.getElem?_eq_some_iff.1 h2
   obtain⟨_,hoe⟩:=List.getElem?_eq_some_iff.1 ho
   rw[hpe,hoe]at this
   exact this h3
theorem bkB_nums {B:Bk} {s:ByteArray} (h:bkB B=s):encL (bkNums B B.l.length)=s.data.toList:=by rw[<-h];rfl
theorem bkB_of {B:Bk} {s:ByteArray} (h:encL (bkNums B B.l.length)=s.data.toList):bkB B=s:=by
 apply ByteArray.ext
 apply Array.toList_inj.1
 show (encL (bkNums B B.l.length)).toArray.toList=_
 rw[<-h]
end Go.Pw
set_option linter.unusedSimpArgs false
set_option linter.unusedVariables false
namespace Go.Pw
open Go Go.Proofs
section
variable {h g:PH} {R:AEnd->PH->Prop}
theorem nb_ob {h0:PH} {N:List Int} {sv:Value} (ob:OB 3 1 h0 N.length (N.map iv) h sv) (h0:0<N.length):∃gg cap,sv = .slice (some ⟨gg,0,none⟩) N.length cap/\∀G,Sub h G ->
  ∀k,k<N.length->∀K,vLoad none (.pointer (some ⟨gg,k,none⟩)) G K↔K (.int .i64 (nAt N k)):=by
 obtain⟨gg,cc,cap,rfl,hgg,hsz,hget⟩:=ob_get ob h0
 refine⟨gg,cap,rfl,λG hs k hk K=>vLoad_1 (hs _ _ hgg) ?_⟩
 rw[hget k (by omega),List.getElem?_map,nAt_get hk];rfl
theorem nb_ix {gg n cap:Nat} {i:Int} (k:Nat) (hi:i=k) (hk:k<n) (K:Value->Prop):vIxS 1 (.slice (some ⟨gg,0,none⟩) n cap) (.int .i64 i) K↔K (.pointer (some ⟨gg,k,none⟩)):=by
 subst hi
 rw[vIxS_p]
 constructor
 ·rintro⟨_,_,H⟩
  rw[show 0+(k:Int).toNat*1=k by omega]at H
  exact H
 ·intro H
  refine⟨by omega,by omega,?_⟩
  rw[show 0+(k:Int).toNat*1=k by omega]
  exact H
theorem vBuild_ord {a b c d e:Int} {q:Bool} {K:Value->Prop} (hk:K (Ord.v {id:=a,own:=b,pr:=c,am:=d,pl:=e,buys:=q})) :
  vBuild [(0,1),(1,1),(2,1),(3,1),(4,1),(5,1)] #[.int .i64 0,.int .i64 0,.int .i64 0,.int .i64 0,.int .i64 0,.bool false] [(0,.int .i64 a),(1,.int .i64 b),(5,.bool q),(2,.int .i64 c),(3,.int .i64 d),(4,.int .i64 e)] K:=
 ⟨#[.int .i64 a,.int .i64 b,.int .i64 c,.int .i64 d,.int .i64 e,.bool q],by kernel_rfl,hk⟩
theorem call_of {s:ByteArray} (hz:s.size<4611686018427387000)
  (hno:∀g,Sub h g->(¬∃B:Bk,B.ok/\bkB B=s)->R (.ret (.tuple #[.pointer none,.int .i64 92])) g)
  (hyes:∀B b g,B.ok->bkB B=s->(BkP b B•(λg=>Sub h g)) g->h b=none->R (.ret (.tuple #[ptr b,.int .i64 0])) g) :
  ACalls Tryz.prog 53 #[.string s] h R:=by
 refine ACalls.drop (call53 ?_)
 unfold sh53
 rw[show @b53_3=readNB ((386:Nat):Int)from rfl]
 refine reads_ok (by omega) hz (λN sv g hN hlm hE hU ob=>?_) λsv g hs hne=>?_
 rotate_left
 ·intro r hr
  rw[show r 2=Value.pointer none from congrArg (·.1) hr,show r 3=Value.int .i64 92 from congrArg (·.2.1) hr]
  refine⟨h,hs,hno h (Sub.refl h) ?_⟩
  rintro⟨B,hB,e⟩
  refine hne ⟨bkNums B B.l.length,bkNums_bd hB,bkB_nums e,?_⟩
  have:=hB.len
  rw[bkNums_len B (Nat.le_refl _)];omega
 ·intro r hr
  rw[show r 2=Value.pointer none from congrArg (·.1) hr,show r 3=Value.int .i64 0 from congrArg (·.2.1) hr,show r 4=sv from congrArg (·.2.2) hr]
  have hB:∀B:Bk,B.ok->bkB B=s->bkNums B B.l.length=N:=λB h1 h2=>hU _ (bkNums_bd h1) (bkB_nums h2)
  have bad:∀g',Sub h g'->(∀B:Bk,B.ok->bkNums B B.l.length=N->False)->∃g,Sub g g'/\R (.ret (.tuple #[.pointer none,.int .i64 92])) g:=λg' hs H=>
   ⟨h,hs,hno h (Sub.refl h) λ⟨B,h1,h2⟩=>H B h1 (hB B h1 h2)⟩
  obtain⟨p,cap0,hse⟩:=ob_len ob
  by_cases hl2:(N.length:Int)<2
  ·have fin:=bad g ob.sub λB h1 h2=>by
    have:=(bk_nums h1 h2).1
    omega
   simp[hse,hl2,fin]
  obtain⟨gg,cap,rfl,ld⟩:=nb_ob ob (by omega)
  have ix:=λ(i:Int) k hi hk K=>nb_ix (gg:=gg) (n:=N.length) (cap:=cap) (i:=i) k hi hk K
  have i1:=ix 1 1 rfl (by omega)
  have i0:=ix 0 0 rfl (by omega)
  have l1:=ld g (Sub.refl g) 1 (by omega)
  have l0:=ld g (Sub.refl g) 0 (by omega)
  have b0:=nAt_bd hN 0
  have b1:=nAt_bd hN 1
  by_cases h64:64<nAt N 1
  ·have fin:=bad g ob.sub λB h1 h2=>by
    have:=(bk_nums h1 h2).2.2.1
    have:=h1.len
    omega
   simp[-vIxS_p,hl2,i1,l1,h64,fin]
  obtain⟨n,hn⟩:∃n:Nat,nAt N 1=n:=⟨(nAt N 1).toNat,by omega⟩
  have w6:IntKind.i64.wrap (6*(n:Int))=6*(n:Int):=w64 (by omega) (by omega)
  have w2:IntKind.i64.wrap (2+6*(n:Int))=2+6*(n:Int):=w64 (by omega) (by omega)
  by_cases hlen:¬(N.length:Int)=2+6*(n:Int)
  ·have fin:=bad g ob.sub λB h1 h2=>by
    obtain⟨a1,_,a2,_⟩:=bk_nums h1 h2
    omega
   have h64':¬64<(n:Int):=by omega
   simp[-vIxS_p,hl2,i1,l1,hn,h64',w6,w2,hlen,fin]
  have h64':¬64<(n:Int):=by omega
  have hlen:=Decidable.not_not.1 hlen
  simp[-vIxS_p,i1,l1,i0,l0,hn,h64',w6,w2,hlen,show ¬2+6*(n:Int)<2 by omega]
  refine⟨#[.slice none 0 0,.int .i64 (nAt N 0)],rfl,?_⟩
  simp only[]
  rw[show Value.cells (.agg #[.slice none 0 0,.int .i64 (nAt N 0)])=#[Value.slice none 0 0,.int .i64 (nAt N 0)]from rfl]
  refine vNew_i λb hb=>?_
  have hbh:h b=none:=ob.sub.fresh hb
  have hlN:N.length=2+6*n:=by omega
  refine lf_intro (λm s' g'=>∃(j:Nat) (last:Int) (sl:Value),s'=(.pointer none,.int .i64 0,.int .i64 last,.int .i64 ((2+6*j:Nat):Int))/\m=n-j/\j<=n/\BkR N j last/\OB 78 6 (ins g b (BkCell sl (nAt N 0))) j (ordsC (ordsTo N j)) g' sl) n
   ⟨0,0,_,rfl,rfl,by omega,BkR.zero N,⟨Sub.refl _,rfl,.inl ⟨rfl,rfl,rfl⟩⟩⟩ ?_
  rintro m s' g' ⟨j,last,sl,rfl,rfl,hj,rd,obo⟩
  have hbb:g' b=some (BkCell sl (nAt N 0)):=obo.ld (ins_eq _ _ _)
  have hgs:Sub g g':=λx o hx=>by
   refine obo.sub _ _ ?_
   rw[ins_ne _ _ (ne_fresh hb hx)];exact hx
  have hhs:Sub h g':=ob.sub.trans hgs
  by_cases hjn:j<n
  ·have key:∀(kn:(Value×Value)->(Value×Value×Value×Value)->PH->Prop) Kp x0 xr,(∀r:Value×Value×Value×Value,∀G,Sub h G->r.1 = .pointer none->r.2.1 = .int .i64 92->¬goodB N j last->xr r G) ->
     (goodB N j last->∀sl2 G,OB 78 6 (ins g b (BkCell sl2 (nAt N 0))) (j+1) (ordsC (ordsTo N (j+1))) G sl2->kn (.slice (some ⟨gg,0,none⟩) N.length cap,ptr b) (.pointer none,.int .i64 0,.int .i64 (ordAt N (2+6*j)).pl,.int .i64 ((2+6*(j+1):Nat):Int)) G) ->
     b53_14 Kp x0 xr (.slice (some ⟨gg,0,none⟩) N.length cap,ptr b) kn (.pointer none,.int .i64 0,.int .i64 last,.int .i64 ((2+6*j:Nat):Int)) g':=by
    intro kn Kp x0 xr hxr hkn
    obtain⟨i,hi⟩:∃i,i=2+6*j:=⟨_,rfl⟩
    rw[<-hi]at hkn ⊢
    unfold b53_14
    have hlt:(i:Int)<(N.length:Int):=by omega
    simp only[vLenS_s,vBin_lss,hlt,decide_true,dIf_b]
    refine⟨λ_=>?_,λe=>absurd e (by simp)⟩
    have wa:=λ(v:Int) (h0:0<=v) (h7:v<7)=>show IntKind.i64.wrap ((i:Int)+v)=(i:Int)+v from w64 (by omega) (by omega)
    have x0:=ix (i:Int) i rfl (by omega)
    have x1:=ix ((i:Int)+1) (i+1) (by omega) (by omega)
    have x2:=ix ((i:Int)+2) (i+2) (by omega) (by omega)
    have x3:=ix ((i:Int)+3) (i+3) (by omega) (by omega)
    have x4:=ix ((i:Int)+4) (i+4) (by omega) (by omega)
    have x5:=ix ((i:Int)+5) (i+5) (by omega) (by omega)
    have w1:=wa 1 (by omega) (by omega)
    have w2:=wa 2 (by omega) (by omega)
    have w3:=wa 3 (by omega) (by omega)
    have w4:=wa 4 (by omega) (by omega)
    have w5:=wa 5 (by omega) (by omega)
    have w6:=wa 6 (by omega) (by omega)
    have y:=λk (hk:k<6)=>ld g' hgs (i+k) (by omega)
    have y0:=y 0 (by omega)
    have y1:=y 1 (by omega)
    have y2:=y 2 (by omega)
    have y3:=y 3 (by omega)
    have y4:=y 4 (by omega)
    have y5:=y 5 (by omega)
    simp only[Nat.add_zero]at y0
    simp only[vBin_add,w1,w2,w3,w4,w5,x0,x1,x2,x3,x4,x5,y0,y1,y2,y3,y4,y5,vBin_eql]
    refine vBuild_ord ?_
    obtain⟨o,ho⟩:∃o,o=ordAt N i:=⟨_,rfl⟩
    have ho':=ho
    unfold ordAt at ho'
    have hgood:goodB N j last=(rightO o=true/\nAt N (i+2)<=1/\last<o.pl/\idx (ordsTo N j) o.id=none):=by rw[ho,hi];rfl
    have hto:ordsTo N (j+1)=ordsTo N j ++ [o]:=by rw[ordsTo_succ,ho,hi]
    rw[<-ho]at hkn
    rw[<-ho']
    refine vNew_i λc hc=>?_
    refine vStore_to (cs:=o.a) (ins_eq _ _ _) (by rfl) (by rfl) (by cases o;rfl) ?_
    rw[ins_ins]
    have hcc:ins g' c (.cells o.a 78 (0,0)) c=some (.cells o.a 78 (0,0)):=ins_eq _ _ _
    have hs1:Sub g' (ins g' c (.cells o.a 78 (0,0))):=sub_ins _ hc
    revert hcc hs1
    show _->_->vLoad (some 6) _ (ins g' c (.cells o.a 78 (0,0))) _
    generalize ins g' c (.cells o.a 78 (0,0))=G
    intro hcc hs1
    have l6:=λK=>vLoad_n (K:=K) hcc (off:=0) (n:=6) (by show 0+6<=6;omega)
    rw[show o.a.extract 0 (0+6)=o.a from rfl]at l6
    have l4:=λK=>vLoad_1 (K:=K) hcc (show o.a[4]?=some (.int .i64 o.pl)from rfl)
    have l0':=λK=>vLoad_1 (K:=K) hcc (show o.a[0]?=some (.int .i64 o.id)from rfl)
    have obc:=obo.up hs1
    have lbb:=obc.ld (ins_eq _ _ _)
    have y2':=ld G (hgs.trans hs1) (i+2) (by omega)
    rw[l6]
    refine right_ok ?_
    simp only[AEnd.elim]
    cases hr:rightO o with
    | false=>
     simp
     exact hxr _ _ (hhs.trans hs1) rfl rfl (by rw[hgood];simp[hr])
    | true=>
     by_cases hs:1<nAt N (i+2)
     ·simp[-vIxS_p,w2,x2,y2',hs]
      exact hxr _ _ (hhs.trans hs1) rfl rfl (by rw[hgood];omega)
     by_cases hp:o.pl<=last
     ·simp[-vIxS_p,w2,x2,y2',hs,l4,hp]
      exact hxr _ _ (hhs.trans hs1) rfl rfl (by rw[hgood];omega)
     simp[-vIxS_p,w2,x2,y2',hs,l4,hp,l0']
     have os:=sep_l OS.mono (ob_os (C:=λ_=>True) trivial obc)
     refine at_ok (l:=ordsTo N j) lbb (by unfold OrdsAt;rw[ordsTo_len];exact os) (by rw[ordsTo_len];omega) ?_
     simp only[AEnd.elim]
     cases hix:idx (ordsTo N j) o.id with
     | some k=>
      rw[idxI_pos hix]
      simp
      exact hxr _ _ (hhs.trans hs1) rfl rfl (by rw[hgood,hix];simp)
     | none=>
      rw[idxI_neg hix]
      have hg:goodB N j last:=by rw[hgood];exact⟨hr,by omega,by omega,hix⟩
      have hkn:=hkn hg
      have lb0:=λK=>vLoad_1 (K:=K) lbb (show (#[sl,.int .i64 (nAt N 0)]:Array Value)[0]?=some sl from rfl)
      simp[-vIxS_p,l4,lb0,l6]
      refine⟨_,fill_ord o,λd hd=>?_⟩
      refine ob_app (m:=1) (news:=o.a.toList) (obc.up (sub_ins _ hd)) (by simp only[roomBytes];omega) (by omega) rfl
       (λK' hk'=>.inr (.inr ⟨rfl,d,0,1,1,_,_,_,rfl,ins_eq _ _ _,by show 0+1*6<=6;omega,?_,hk'⟩)) (λb' off l cc hx gg cap hs=>?_) λg5 s5 ob5=>?_
      ·intro v hv
       have:v∈ordsC [o]:=hv
       exact ordsC_one v this
      ·cases hx
       intro e
       rcases obc.buf with⟨h1,_⟩ | ⟨g',c',cap',h1,h2,_⟩
       ·rw[h1]at hs;cases hs
       ·rw[h1]at hs;cases hs;rw[<-e,hd]at h2;cases h2
      ·refine (vStore_1 (ob5.ld (ins_eq _ _ _)) (by show 0<2;omega) (by rcases ob_len ob5 with⟨p,q,e⟩;rw[e];rfl)).2 ?_
       rw[show (#[sl,.int .i64 (nAt N 0)]:Array Value).setIfInBounds 0 s5=#[s5,.int .i64 (nAt N 0)]from rfl]
       have ob6:=ob5.st (ins_eq _ _ _) (p:=BkCell s5 (nAt N 0))
       rw[ins_ins,ordsC_snoc,<-hto]at ob6
       rw[w6,show (i:Int)+6=((2+6*(j+1):Nat):Int)by omega]
       exact hkn _ _ ob6
   refine key _ _ _ _ (λr G hs e1 e2 hng=>?_) λhg sl2 G o2=>⟨rfl,n-(j+1),by omega,j+1,_,sl2,rfl,rfl,by omega,rd.step hg,o2⟩
   intro r2 hr2
   rw[show r2 2=Value.pointer none from (congrArg (·.1) hr2).trans e1,show r2 3=Value.int .i64 92 from (congrArg (·.2.1) hr2).trans e2]
   refine bad G hs λB h1 h2=>hng (bk_good h1 h2 (by have:=(bk_nums h1 h2).1;omega) rd.is)
  ·have e:j=n:=by omega
   subst e
   unfold b53_14
   simp[hlN]
   intro r2 hr2
   rw[show r2 9=ptr b from congrArg (·.2.2.1) hr2,show r2 10=Value.int .i64 last from congrArg (·.2.2.2) hr2]
   have lb1:=λK=>vLoad_1 (K:=K) hbb (show (#[sl,.int .i64 (nAt N 0)]:Array Value)[1]?=some (.int .i64 (nAt N 0))from rfl)
   by_cases hx:nAt N 0<=last
   ·have fin:=bad g' hhs λB h1 h2=>by
     obtain⟨a1,a2,a3,a4⟩:=bk_nums h1 h2
     have hnx:=h1.nx
     have hjl:j=B.l.length:=by omega
     have:=rd.is
     by_cases h0:j=0
     ·rw[if_pos h0]at this;omega
     ·rw[if_neg h0]at this
      obtain⟨o,ho⟩:=at_some (l:=B.l) (k:=j-1) (by omega)
      rw[(a4 _ o ho).1]at this
      have:=(h1.pl o (List.mem_of_getElem? ho)).2
      omega
    simp[lb1,hx,fin]
   ·simp[lb1,hx]
    obtain⟨f1,f2⟩:=rd.fin hN hlN hn (by omega) (by omega)
    refine⟨g',Sub.refl g',hyes {next:=nAt N 0,l:=ordsTo N j} b g' f1 (bkB_of ?_) ?_ hbh⟩
    ·show encL (bkNums _ (ordsTo N j).length)=_
     rw[ordsTo_len,f2];exact hE
    ·refine bk_shut (s:=sl) (h0:=ins g b (BkCell sl (nAt N 0))) ?_ ?_
     ·refine⟨one b (BkCell sl (nAt N 0)),g,λx hx=>?_,one_sub (ins_eq _ _ _),sub_ins _ hb,ins_eq _ _ _,ob.sub⟩
      by_cases e:x=b
      ·subst e;exact hb
      ·exact absurd (by unfold one;rw[ins_ne _ _ e]) hx
     ·show OB _ 6 _ (ordsTo N j).length _ _ _
      rw[ordsTo_len];exact obo
end
end Go.Pw
set_option linter.unusedSimpArgs false
set_option linter.unusedVariables false
namespace Go.Pw
open Go Go.Proofs
theorem vBin_beq4 {K:Value->Prop} (a b:Bool):vBin Tryz.prog .eql 4 (.bool a) (.bool b) K↔K (.bool (a==b)):=by
 cases a <;> cases b <;> exact vBin_of λx y=>by cases x <;> cases y <;> kernel_rfl
structure Auc.pre (A:Auc):Prop where
 sup:1<=A.sup/\A.sup<=1048576
 sta:0<=A.sta/\A.sta<=1099511627776
 stp:1<=A.stp/\A.stp<=1099511627776
 rnd:0<=A.rnd/\A.rnd<=9007199254740992
 ste:0<=A.ste/\A.ste<=9007199254740992
 n:1<=A.n/\A.n<=16
 was:∀i,i<A.n->0<=A.was i/\A.was i<=9007199254740992
 now:∀i,i<A.n->0<=A.now i/\A.now i<=9007199254740992
def bidOK (A:Auc) (i:Nat):Prop:=A.was i<=1048576/\A.now i<=1048576/\(A.rnd=1->A.was i<=0)/\(1<A.rnd->A.now i<=A.was i)
theorem Auc.ok.bid {A:Auc} (h:A.ok) {i:Nat} (hi:i<A.n):bidOK A i:=⟨(h.was i hi).2,(h.now i hi).2,λe=>by have:=h.one e i hi;omega,λe=>h.fall e i hi⟩
section
variable {h g:PH} {R:AEnd->PH->Prop} {a bb:Nat} {A:Auc}
theorem right_bid {i:Nat} {Kp:List PanicEntry->PH->Prop} {x0 xr:(Value×Value×Value)->PH->Prop} {kn:(Value×Value×Value)->(Value×Value×Value)->PH->Prop} {q:Value} {la:Int}
  (hA:AucAt g a bb A) (hp:A.pre) (hi:i<A.n) (hla:0<=la/\la<=16777216*1048576)
  (hno:∀G,Sub g G->¬bidOK A i->xr (ptr a,.bool false,.int .i64 la) G)
  (hyes:∀G,Sub g G->bidOK A i->kn (ptr a,.slice (some ⟨bb,0,none⟩) A.n A.n,.int .i64 A.n) (q,.int .i64 (la+A.was i),.int .i64 ((i:Int)+1)) G) :
  b97_5 Kp x0 xr (ptr a,.slice (some ⟨bb,0,none⟩) A.n A.n,.int .i64 A.n) kn (q,.int .i64 la,.int .i64 i) g:=by
 unfold b97_5
 have hlt:(i:Int)<(A.n:Int):=by omega
 simp only[vBin_lss,hlt,decide_true,dIf_b]
 refine⟨λ_=>?_,λe=>absurd e (by simp)⟩
 refine bid_copy hA hi λc hc=>?_
 have hcc:ins g c (.cells #[.int .i64 (A.was i),.int .i64 (A.now i)] 157 (0,0)) c=some (.cells #[.int .i64 (A.was i),.int .i64 (A.now i)] 157 (0,0)):=ins_eq _ _ _
 have hs:=sub_ins (.cells #[.int .i64 (A.was i),.int .i64 (A.now i)] 157 (0,0)) hc
 revert hcc hs
 generalize ins g c (.cells #[.int .i64 (A.was i),.int .i64 (A.now i)] 157 (0,0))=G
 intro hcc hs
 have hA':=hA.sub hs
 have f3:=λK=>hA'.f (K:=K) (j:=3) (v:=.int .i64 A.rnd) rfl
 have y0:=λK=>vLoad_1 (K:=K) hcc (v:=.int .i64 (A.was i)) (off:=0) rfl
 have y1:=λK=>vLoad_1 (K:=K) hcc (v:=.int .i64 (A.now i)) (off:=1) rfl
 have hno:=hno G hs
 have hyes:=hyes G hs
 unfold bidOK at hno hyes
 have hw:=hp.was i hi
 have hn:=hp.n
 have hr:=hp.rnd
 by_cases h1:1048576<A.was i
 ·simp[f3,y0,y1,h1]
  exact hno (by omega)
 by_cases h2:1048576<A.now i
 ·simp[f3,y0,y1,h1,h2]
  exact hno (by omega)
 have w1:IntKind.i64.wrap (la+A.was i)=la+A.was i:=w64 (by omega) (by omega)
 have w2:IntKind.i64.wrap ((i:Int)+1)=(i:Int)+1:=w64 (by omega) (by omega)
 by_cases h3:A.rnd=1
 ·by_cases h4:0<A.was i
  ·simp[f3,y0,y1,h1,h2,h3,h4]
   exact hno (by omega)
  ·simp[f3,y0,y1,h1,h2,h3,h4,w1,w2]
   exact hyes ⟨by omega,by omega,by omega,by omega⟩
 ·by_cases h4:1<A.rnd
  ·by_cases h5:A.was i<A.now i
   ·simp[f3,y0,y1,h1,h2,h3,h4,h5]
    exact hno (by omega)
   ·simp[f3,y0,y1,h1,h2,h3,h4,h5,w1,w2]
    exact hyes ⟨by omega,by omega,by omega,by omega⟩
  ·simp[f3,y0,y1,h1,h2,h3,h4,w1,w2]
   exact hyes ⟨by omega,by omega,by omega,by omega⟩
theorem auc_price {A:Auc} (hp:A.pre) (h1:1<=A.rnd):A.rnd-1<=(1099511627776-A.sta).tdiv A.stp↔A.price<=1099511627776:=by
 have:=hp.sta
 have hs:=hp.stp
 unfold Auc.price
 rw[Int.tdiv_eq_ediv_of_nonneg (by omega),Int.le_ediv_iff_mul_le (by omega)]
 omega
theorem clock_right (hA:AucAt h a bb A) (hp:A.pre) (hno:∀g,Sub h g->¬(A.ok/\A.ste=0)->R (.ret (.bool false)) g) (hyes:∀g,Sub h g->A.ok->R (.ret (.bool true)) g):ACalls Tryz.prog 97 #[ptr a] h R:=by
 refine call97 ?_
 unfold sh97
 have f0:=λg (hs:Sub h g) K=>(hA.sub hs).f (K:=K) (j:=0) (v:=.int .i64 A.sup) rfl
 have f1:=λK=>hA.f (K:=K) (j:=1) (v:=.int .i64 A.sta) rfl
 have f2:=λg (hs:Sub h g) K=>(hA.sub hs).f (K:=K) (j:=2) (v:=.int .i64 A.stp) rfl
 have f3:=λg (hs:Sub h g) K=>(hA.sub hs).f (K:=K) (j:=3) (v:=.int .i64 A.rnd) rfl
 have f4:=λg (hs:Sub h g) K=>(hA.sub hs).f (K:=K) (j:=4) (v:=.int .i64 A.ste) rfl
 have f5:=λK=>hA.f (K:=K) (j:=5) (v:=.slice (some ⟨bb,0,none⟩) A.n A.n) rfl
 have s0:=Sub.refl h
 have hsta:=hp.sta
 have hstp:=hp.stp
 have hrnd:=hp.rnd
 have hste:=hp.ste
 have hsup:=hp.sup
 have hn:=hp.n
 have ap:=auc_price hp
 have no0:=hno h s0
 by_cases h1:A.rnd<1
 ·have:=no0 λe=>by have:=e.1.rnd;omega
  simp[f3 h s0,h1,this]
 have ap:=ap (by omega)
 have w1:IntKind.i64.wrap (A.rnd-1)=A.rnd-1:=w64 (by omega) (by omega)
 have w2:IntKind.i64.wrap (1099511627776-A.sta)=1099511627776-A.sta:=w64 (by omega) (by omega)
 have q0:0<=(1099511627776-A.sta).tdiv A.stp:=Int.tdiv_nonneg (by omega) (by omega)
 have q1:(1099511627776-A.sta).tdiv A.stp<=1099511627776:=by
  rw[Int.tdiv_eq_ediv_of_nonneg (by omega)]
  have:=Int.ediv_le_self (a:=1099511627776-A.sta) A.stp (by omega)
  omega
 have vq:∀K:Value->Prop,vBin Tryz.prog .quo 3 (.int .i64 (1099511627776-A.sta)) (.int .i64 A.stp) K↔K (.int .i64 ((1099511627776-A.sta).tdiv A.stp)):=λK=>by
  rw[vBin_quo _ _ _ _ (by omega),w64 (by omega) (by omega)]
 by_cases h2:(1099511627776-A.sta).tdiv A.stp<A.rnd-1
 ·have:=no0 λe=>by have:=e.1.top;omega
  simp[f3 h s0,f1,f2 h s0,h1,w1,w2,vq,h2,this]
 by_cases h3:2<A.ste
 ·have:=no0 λe=>by omega
  simp[f3 h s0,f1,f2 h s0,f4 h s0,h1,w1,w2,vq,h2,h3,this]
 simp[f3 h s0,f1,f2 h s0,f4 h s0,f5,h1,w1,w2,vq,h2,h3]
 refine lf_intro (λm s' g'=>∃i:Nat,s'=(.bool false,.int .i64 (sumN A.was i),.int .i64 i)/\m=A.n-i/\i<=A.n/\(∀k,k<i->bidOK A k)/\Sub h g') A.n ⟨0,rfl,rfl,by omega,λk hk=>absurd hk (by omega),s0⟩ ?_
 rintro m s' g ⟨i,rfl,rfl,hi,hall,hs⟩
 have sb:=sumN_bd (g:=A.was) (M:=1048576) (by omega) i (λk hk=>⟨(hp.was k (by omega)).1,(hall k hk).1⟩)
 have sb2:(i:Int)*1048576<=16*1048576:=Int.mul_le_mul_of_nonneg_right (by omega) (by omega)
 by_cases hin:i<A.n
 ·refine right_bid (hA.sub hs) hp hin (by omega) (λG h2 hn=>?_) λG h2 hb=>?_
  ·intro r hr
   rw[show r 2=Value.bool false from congrArg (·.2.1) hr]
   exact hno G (hs.trans h2) λe=>hn (e.1.bid hin)
  ·refine⟨rfl,A.n-(i+1),by omega,i+1,rfl,rfl,by omega,λk hk=>?_,hs.trans h2⟩
   rcases Nat.lt_or_ge k i with e | e
   ·exact hall k e
   ·have:k=i:=by omega
    subst this;exact hb
 ·have e:i=A.n:=by omega
  subst e
  unfold b97_5
  simp
  intro r hr
  rw[show r 0=ptr a from congrArg (·.1) hr,show r 3=Value.int .i64 (sumN A.was A.n)from congrArg (·.2.2) hr]
  by_cases h4:1<A.rnd/\sumN A.was A.n<=A.sup
  ·have:=hno g hs λe=>by have:=e.1.more h4.1;omega
   simp[f3 g hs,f0 g hs,h4,this]
  have hok:A.ok:=⟨hp.sup,by omega,hp.stp,by omega,by omega,by omega,hp.n,λi hi=>⟨(hp.was i hi).1,(hall i hi).1⟩,λi hi=>⟨(hp.now i hi).1,(hall i hi).2.1⟩,λe i hi=>by
   have:=(hall i hi).2.2.1 e
   have:=(hp.was i hi).1
   omega,λe i hi=>(hall i hi).2.2.2 e,λe=>by omega⟩
  have hyes:=hyes g hs hok
  have hno:=hno g hs
  have f0':=f0 g hs
  have f2':=f2 g hs
  have f3':=f3 g hs
  have f4':=f4 g hs
  have w3:IntKind.i64.wrap (1099511627776-A.stp)=1099511627776-A.stp:=w64 (by omega) (by omega)
  by_cases h5:1<A.rnd
  case' pos=>
   have h6:¬sumN A.was A.n<=A.sup:=λe=>h4 ⟨h5,e⟩
   simp[f3',f0',h5,h6]
  case' neg=>simp[f3',f0',h5]
  all_goals
   refine clock_demand (hA.sub hs) hok ?_
   simp only[AEnd.elim]
   by_cases e0:A.ste=0
   ·simp[f0',f4',e0,hyes]
   ·have hno:=hno λe=>e0 e.2
    by_cases ov:A.sup<A.demand
    ·by_cases e1:A.ste=1
     ·simp[f0',f4',e0,e1,ov,vBin_beq4,hno]
     ·have e2:A.ste=2:=by omega
      simp[f0',f4',f2',e0,e1,e2,ov,vBin_beq4,w3]
      refine clock_price (hA.sub hs) hok ?_
      simp only[AEnd.elim]
      by_cases h7:1099511627776-A.stp<A.price
      ·simp[f2',h7,hyes]
      ·simp[f2',h7,hno]
    ·by_cases e1:A.ste=1
     ·simp[f0',f4',e0,e1,ov,vBin_beq4,hyes]
     ·have e2:A.ste=2:=by omega
      simp[f0',f4',e0,e1,e2,ov,vBin_beq4,hno]
end
end Go.Pw
set_option linter.unusedSimpArgs false
set_option linter.unusedVariables false
namespace Go.Pw
open Go Go.Proofs
def aucTo (N:List Int) (j:Nat):Auc:={sup:=nAt N 0,sta:=nAt N 1,stp:=nAt N 2,rnd:=nAt N 3,ste:=nAt N 4,n:=(nAt N 5).toNat,was:=λk=>if k<j then nAt N (6+2*k)else 0,now:=λk=>if k<j then nAt N (7+2*k)else 0}
theorem aucTo_succ (N:List Int) (j:Nat):((aucTo N j).setWas j (nAt N (6+2*j))).setNow j (nAt N (7+2*j))=aucTo N (j+1):=by
 unfold Auc.setNow Auc.setWas aucTo
 simp only[Auc.mk.injEq,true_and]
 constructor
 ·funext k
  by_cases h:k=j
  ·subst h;simp
  ·by_cases h2:k<j
   ·rw[if_neg h,if_pos h2,if_pos (by omega)]
   ·rw[if_neg h,if_neg h2,if_neg (by omega)]
 ·funext k
  by_cases h:k=j
  ·subst h;simp
  ·by_cases h2:k<j
   ·rw[if_neg h,if_pos h2,if_pos (by omega)]
   ·rw[if_neg h,if_neg h2,if_neg (by omega)]
theorem auc_get (A:Auc):∀k:Nat,(∀(j:Nat) (v:Int),(aucHead A)[j]?=some v->(aucNums A k)[j]?=some v)/\∀i:Nat,i<k->(aucNums A k)[6+2*i]?=some (A.was i)/\(aucNums A k)[7+2*i]?=some (A.now i)
 | 0=>⟨λj v h=>h,λi hi=>absurd hi (by omega)⟩
 | k+1=>by
  obtain⟨a,b⟩:=auc_get A k
  have hl:=aucNums_len A k
  refine⟨λj v h=>?_,λi hi=>?_⟩
  ·have:=a j v h
   have hlt:=(List.getElem?_eq_some_iff.1 this).1
   unfold aucNums
   rw[List.getElem?_append_left hlt];exact this
  ·unfold aucNums
   rcases Nat.lt_or_ge i k with h | h
   ·rw[List.getElem?_append_left (by omega),List.getElem?_append_left (by omega)];exact b i h
   ·have:i=k:=by omega
    subst this
    rw[List.getElem?_append_right (by omega),List.getElem?_append_right (by omega),hl,show 6+2*i-(6+i*2)=0 by omega,show 7+2*i-(6+i*2)=1 by omega]
    exact⟨rfl,rfl⟩
theorem auc_nums {A:Auc} {N:List Int} (he:aucNums A A.n=N):N.length=6+2*A.n/\nAt N 0=A.sup/\nAt N 1=A.sta/\nAt N 2=A.stp/\nAt N 3=A.rnd/\nAt N 4=A.ste/\nAt N 5=A.n/\∀i,i<A.n->nAt N (6+2*i)=A.was i/\nAt N (7+2*i)=A.now i:=by
 subst he
 obtain⟨a,b⟩:=auc_get A A.n
 refine⟨by rw[aucNums_len];omega,nAt_of (a 0 _ rfl),nAt_of (a 1 _ rfl),nAt_of (a 2 _ rfl),nAt_of (a 3 _ rfl),nAt_of (a 4 _ rfl),nAt_of (a 5 _ rfl),λi hi=>⟨nAt_of (b i hi).1,nAt_of (b i hi).2⟩⟩
theorem auc_take {N:List Int} {n:Nat}:∀k,k<=n->6+2*k<=N.length->nAt N 5=n->aucNums (aucTo N n) k=N.take (6+2*k)
 | 0,_,h,h5=>by
  have g:=λk (hk:k<6)=>nAt_get (N:=N) (k:=k) (by omega)
  show [nAt N 0,nAt N 1,nAt N 2,nAt N 3,nAt N 4,(((nAt N 5).toNat:Nat):Int)]=_
  rw[show 6+2*0=0+1+1+1+1+1+1 from rfl,List.take_add_one,List.take_add_one,List.take_add_one,List.take_add_one,List.take_add_one,List.take_add_one,g 0 (by omega),g (0+1) (by omega),g (0+1+1) (by omega),g (0+1+1+1) (by omega),g (0+1+1+1+1) (by omega),g (0+1+1+1+1+1) (by omega)]
  rw[show (((nAt N 5).toNat:Nat):Int)=nAt N 5 by omega]
  rfl
 | k+1,hk,h,h5=>by
  unfold aucNums
  rw[auc_take k (by omega) (by omega) h5,show 6+2*(k+1)=6+2*k+1+1 by omega,List.take_add_one,List.take_add_one,nAt_get (k:=6+2*k) (by omega),nAt_get (k:=6+2*k+1) (by omega)]
  have e1:(aucTo N n).was k=nAt N (6+2*k):=by unfold aucTo;simp only;rw[if_pos (by omega)]
  have e2:(aucTo N n).now k=nAt N (6+2*k+1):=by unfold aucTo;simp only;rw[if_pos (by omega),show 7+2*k=6+2*k+1 by omega]
  rw[e1,e2]
  simp
theorem aucB_of {A:Auc} {s:ByteArray} (h:encL (aucNums A A.n)=s.data.toList):aucB A=s:=by
 apply ByteArray.ext
 apply Array.toList_inj.1
 show (encL (aucNums A A.n)).toArray.toList=_
 rw[<-h]
theorem aucB_nums {A:Auc} {s:ByteArray} (h:aucB A=s):encL (aucNums A A.n)=s.data.toList:=by rw[<-h];rfl
theorem auc_ok_like {A B:Auc} (h1:B.sup=A.sup) (h2:B.sta=A.sta) (h3:B.stp=A.stp) (h4:B.rnd=A.rnd) (h5:B.ste=A.ste) (h6:B.n=A.n) (hw:∀i,i<A.n->B.was i=A.was i/\B.now i=A.now i) (hA:A.ok):B.ok:=by
 have hp:B.price=A.price:=by unfold Auc.price;rw[h2,h4,h3]
 have hs:sumN B.was B.n=sumN A.was A.n:=by rw[h6];exact sumN_congr _ λi hi=>(hw i hi).1
 refine⟨by rw[h1];exact hA.sup,by rw[h2];exact hA.sta,by rw[h3];exact hA.stp,by rw[h4];exact hA.rnd,by rw[hp];exact hA.top,by rw[h5];exact hA.ste,by rw[h6];exact hA.n,?_,?_,?_,?_,?_⟩
 ·intro i hi;rw[h6]at hi;rw[(hw i hi).1];exact hA.was i hi
 ·intro i hi;rw[h6]at hi;rw[(hw i hi).2];exact hA.now i hi
 ·intro e i hi;rw[h6]at hi;rw[(hw i hi).1];exact hA.one (by rw[<-h4];exact e) i hi
 ·intro e i hi;rw[h6]at hi;rw[(hw i hi).1,(hw i hi).2];exact hA.fall (by rw[<-h4];exact e) i hi
 ·intro e;rw[hs,h1];exact hA.more (by rw[<-h4];exact e)
section
variable {h g:PH} {R:AEnd->PH->Prop}
theorem vBuild_ii {a b:Int} {K:Value->Prop} (hk:K (.agg #[.int .i64 a,.int .i64 b])):vBuild [(0,1),(1,1)] #[.int .i64 0,.int .i64 0] [(0,.int .i64 a),(1,.int .i64 b)] K:=⟨_,by kernel_rfl,hk⟩
theorem bid_st {A:Auc} {a bb:Nat} (hA:AucAt h a bb A) {i:Nat} (hi:i<A.n) {v w:Int} {K:PH->Prop} (hk:K (ins h bb (.cells (bidCells ((A.setWas i v).setNow i w)) 157 (0,0)))) :
  vStore 2 (.pointer (some ⟨bb,i*2,none⟩)) (.agg #[.int .i64 v,.int .i64 w]) h K:=by
 refine (vStore_p (n:=2) hA.hb rfl (by rw[bidCells_size];omega) rfl).2 ?_
 have e:wr (bidCells A) (i*2) (Value.cells (.agg #[.int .i64 v,.int .i64 w])).toList=bidCells ((A.setWas i v).setNow i w):=by
  show ((bidCells A).setIfInBounds (i*2) _).setIfInBounds (i*2+1) _=_
  rw[bidCells_setWas hi,bidCells_setNow (A:=A.setWas i v) hi]
 rw[e];exact hk
theorem AucAt.stb {A B:Auc} {a bb:Nat} (hA:AucAt h a bb A) (hB:aucHd B bb=aucHd A bb):AucAt (ins h bb (.cells (bidCells B) 157 (0,0))) a bb B:=
 ⟨by rw[ins_ne _ _ hA.ne,hB];exact hA.ha,ins_eq _ _ _⟩
theorem AucAt.sth {A B:Auc} {a bb:Nat} (hA:AucAt h a bb A) (hB:bidCells B=bidCells A):AucAt (ins h a (.cells (aucHd B bb) 155 (0,0))) a bb B:=
 ⟨ins_eq _ _ _,by rw[ins_ne _ _ hA.ne.symm,hB];exact hA.hb⟩
theorem clock_of {s:ByteArray} (hz:s.size<4611686018427387000)
  (hno:∀g,Sub h g->(¬∃A:Auc,A.ok/\A.ste=0/\aucB A=s)->R (.ret (.tuple #[.pointer none,.int .i64 92])) g)
  (hyes:∀A a bb g,A.ok->aucB A=s->AucAt g a bb A->Sub h g->h a=none->h bb=none->R (.ret (.tuple #[ptr a,.int .i64 0])) g) :
  ACalls Tryz.prog 55 #[.string s] h R:=by
 refine ACalls.drop (call55 ?_)
 unfold sh55
 rw[show @b55_3=readNB ((38:Nat):Int)from rfl]
 refine reads_ok (by omega) hz (λN sv g hN hlm hE hU ob=>?_) λsv g hs hne=>?_
 rotate_left
 ·intro r hr
  rw[show r 2=Value.pointer none from congrArg (·.1) hr,show r 3=Value.int .i64 92 from congrArg (·.2.1) hr]
  refine⟨h,hs,hno h (Sub.refl h) ?_⟩
  rintro⟨A,hA,_,e⟩
  refine hne ⟨aucNums A A.n,aucNums_bd hA _ (Nat.le_refl _),aucB_nums e,?_⟩
  have:=hA.n
  rw[aucNums_len];omega
 ·intro r hr
  rw[show r 4=sv from congrArg (·.2.2) hr]
  have bad:∀g',Sub h g'->(∀A:Auc,A.ok->A.ste=0->aucNums A A.n=N->False)->∃g,Sub g g'/\R (.ret (.tuple #[.pointer none,.int .i64 92])) g:=λg' hs H=>
   ⟨h,hs,hno h (Sub.refl h) λ⟨A,h1,h2,h3⟩=>H A h1 h2 (hU _ (aucNums_bd h1 _ (Nat.le_refl _)) (aucB_nums h3))⟩
  obtain⟨p,cap0,hse⟩:=ob_len ob
  by_cases hl2:(N.length:Int)<6
  ·have fin:=bad g ob.sub λA h1 _ h2=>by
    have:=(auc_nums h2).1
    omega
   simp[hse,hl2,fin]
  obtain⟨gg,cap,rfl,ld⟩:=nb_ob ob (by omega)
  have ix:=λ(i:Int) k hi hk K=>nb_ix (gg:=gg) (n:=N.length) (cap:=cap) (i:=i) k hi hk K
  have i0:=ix 0 0 rfl (by omega)
  have i1:=ix 1 1 rfl (by omega)
  have i2:=ix 2 2 rfl (by omega)
  have i3:=ix 3 3 rfl (by omega)
  have i4:=ix 4 4 rfl (by omega)
  have i5:=ix 5 5 rfl (by omega)
  have l0:=ld g (Sub.refl g) 0 (by omega)
  have l1:=ld g (Sub.refl g) 1 (by omega)
  have l2:=ld g (Sub.refl g) 2 (by omega)
  have l5:=ld g (Sub.refl g) 5 (by omega)
  have b0:=nAt_bd hN
  have vr:∀K:Value->Prop,vBin Tryz.prog .rem 3 (.int .i64 (N.length:Int)) (.int .i64 2) K↔K (.int .i64 ((N.length:Int).tmod 2)):=λK=>by
   rw[vBin_rem _ _ _ _ (by omega)]
  by_cases hev:(N.length:Int).tmod 2=0
  case' neg=>
   have fin:=bad g ob.sub λA h1 _ h2=>by
    have:=(auc_nums h2).1
    rw[Int.tmod_eq_emod_of_nonneg (by omega)]at hev
    omega
   simp[-vIxS_p,hl2,vr,hev,fin]
  obtain⟨n,hn⟩:∃n:Nat,N.length=6+2*n:=⟨(N.length-6)/2,by rw[Int.tmod_eq_emod_of_nonneg (by omega)]at hev;omega⟩
  have w1:IntKind.i64.wrap ((N.length:Int)-6)=(N.length:Int)-6:=w64 (by omega) (by omega)
  have vq:∀K:Value->Prop,vBin Tryz.prog .quo 3 (.int .i64 ((N.length:Int)-6)) (.int .i64 2) K↔K (.int .i64 n):=λK=>by
   rw[vBin_quo _ _ _ _ (by omega),w64 (by rw[Int.tdiv_eq_ediv_of_nonneg (by omega)];omega) (by rw[Int.tdiv_eq_ediv_of_nonneg (by omega)];omega),Int.tdiv_eq_ediv_of_nonneg (by omega),show ((N.length:Int)-6)/2=n by omega]
  by_cases h5:nAt N 5=n
  case' neg=>
   have fin:=bad g ob.sub λA h1 _ h2=>by
    have a:=auc_nums h2
    have:=a.1
    have:=a.2.2.2.2.2.2.1
    omega
   simp[-vIxS_p,hl2,vr,hev,w1,vq,i5,l5,h5,fin]
  simp[-vIxS_p,hl2,vr,hev,w1,vq,i5,l5,i0,l0,i1,l1,i2,l2,h5]
  by_cases hc:1<=nAt N 0/\nAt N 0<=1048576/\0<=nAt N 1/\nAt N 1<=1099511627776/\1<=nAt N 2/\nAt N 2<=1099511627776/\1<=(n:Int)/\(n:Int)<=16
  case' neg=>
   have fin:=bad g ob.sub λA h1 _ h2=>by
    have a:=auc_nums h2
    have s1:=h1.sup
    have s2:=h1.sta
    have s3:=h1.stp
    have s4:=h1.n
    have s5:=h1.top
    have s6:=h1.mulB
    unfold Auc.price at s5
    omega
   refine clock_new_bad hc ?_
   simp only[AEnd.elim]
   simp[fin]
  refine clock_new_ok hc λa bb g1 ha hbb hs1 hA1=>?_
  simp only[AEnd.elim]
  have hah:=ob.sub.fresh ha
  have hbh:=ob.sub.fresh hbb
  have ld':=λG (hs:Sub g1 G)=>ld G (hs1.trans hs)
  have l3:=ld g1 hs1 3 (by omega)
  have l4:=λG (hs:Sub g G)=>ld G hs 4 (by omega)
  simp[-vIxS_p,i3,l3,i4,l4 _ hs1]
  refine (vStore_1 hA1.ha (by show 3<6;omega) rfl).2 ?_
  have hA2:AucAt (ins g1 a (.cells ((aucHd (newAuc (nAt N 0) (nAt N 1) (nAt N 2) n) bb).setIfInBounds 3 (.int .i64 (nAt N 3))) 155 (0,0))) a bb {newAuc (nAt N 0) (nAt N 1) (nAt N 2) n with rnd:=nAt N 3}:=hA1.sth (B:={newAuc (nAt N 0) (nAt N 1) (nAt N 2) n with rnd:=nAt N 3}) rfl
  have hs2:=Sub.put hs1 ha (o:=.cells ((aucHd (newAuc (nAt N 0) (nAt N 1) (nAt N 2) n) bb).setIfInBounds 3 (.int .i64 (nAt N 3))) 155 (0,0))
  revert hA2 hs2
  generalize ins g1 a (.cells ((aucHd (newAuc (nAt N 0) (nAt N 1) (nAt N 2) n) bb).setIfInBounds 3 (.int .i64 (nAt N 3))) 155 (0,0))=g2
  intro hA2 hs2
  refine (vStore_1 hA2.ha (by show 4<6;omega) rfl).2 ?_
  have e3:(aucHd {newAuc (nAt N 0) (nAt N 1) (nAt N 2) n with rnd:=nAt N 3} bb).setIfInBounds 4 (.int .i64 (nAt N 4))=aucHd (aucTo N 0) bb:=by
   unfold aucTo;rw[h5];rfl
  rw[e3]
  have hA3:AucAt (ins g2 a (.cells (aucHd (aucTo N 0) bb) 155 (0,0))) a bb (aucTo N 0):=hA2.sth (B:=aucTo N 0) (by
   unfold bidCells bidCell aucTo newAuc;rw[h5];simp)
  have hs3:=Sub.put hs2 ha (o:=.cells (aucHd (aucTo N 0) bb) 155 (0,0))
  revert hA3 hs3
  generalize ins g2 a (.cells (aucHd (aucTo N 0) bb) 155 (0,0))=g3
  intro hA3 hs3
  have f5:=λK=>hA3.f (K:=K) (j:=5) (v:=.slice (some ⟨bb,0,none⟩) (nAt N 5).toNat (nAt N 5).toNat) rfl
  have hn5:(nAt N 5).toNat=n:=by omega
  rw[hn5]at f5
  simp[f5]
  refine lf_intro (λm s' g'=>∃j:Nat,s' = .int .i64 j/\m=n-j/\j<=n/\AucAt g' a bb (aucTo N j)/\Sub g g') n ⟨0,rfl,rfl,by omega,hA3,hs3⟩ ?_
  rintro m s' g' ⟨j,rfl,rfl,hj,hA,hs⟩
  by_cases hjn:j<n
  ·have key:∀(kn:(Value×Value×Value)->Value->PH->Prop) Kp x2,(∀G,AucAt G a bb (aucTo N (j+1))->Sub g G->kn (.slice (some ⟨gg,0,none⟩) N.length cap,ptr a,.int .i64 n) (.int .i64 ((j:Int)+1)) G) ->
     b55_16 Kp x2 (.slice (some ⟨gg,0,none⟩) N.length cap,ptr a,.int .i64 n) kn (.int .i64 j) g':=by
    intro kn Kp x2 hkn
    unfold b55_16
    have hlt:(j:Int)<(n:Int):=by omega
    simp only[vBin_lss,hlt,decide_true,dIf_b]
    refine⟨λ_=>?_,λe=>absurd e (by simp)⟩
    have f5:=λK=>hA.f (K:=K) (j:=5) (v:=.slice (some ⟨bb,0,none⟩) (nAt N 5).toNat (nAt N 5).toNat) rfl
    rw[hn5]at f5
    have x6:=ix (6+2*(j:Int)) (6+2*j) (by omega) (by omega)
    have x7:=ix (7+2*(j:Int)) (7+2*j) (by omega) (by omega)
    have y6:=ld g' hs (6+2*j) (by omega)
    have y7:=ld g' hs (7+2*j) (by omega)
    have u2:IntKind.i64.wrap (2*(j:Int))=2*(j:Int):=w64 (by omega) (by omega)
    have u6:IntKind.i64.wrap (6+2*(j:Int))=6+2*(j:Int):=w64 (by omega) (by omega)
    have u7:IntKind.i64.wrap (7+2*(j:Int))=7+2*(j:Int):=w64 (by omega) (by omega)
    have u1:IntKind.i64.wrap ((j:Int)+1)=(j:Int)+1:=w64 (by omega) (by omega)
    simp[-vIxS_p,f5,u2,u6,u7,u1,x6,x7,y6,y7]
    refine vBuild_ii ?_
    rw[vIxS_p]
    refine⟨by omega,by omega,?_⟩
    rw[show 0+(j:Int).toNat*2=j*2 by omega]
    refine bid_st hA (by show j<(nAt N 5).toNat;omega) ?_
    rw[aucTo_succ]
    refine hkn _ (hA.stb (by rfl)) (Sub.put hs hbb)
   exact key _ _ _ λG h1 h2=>⟨rfl,n-(j+1),by omega,j+1,rfl,rfl,by omega,h1,h2⟩
  ·have e:j=n:=by omega
   subst e
   unfold b55_16
   simp
   intro r2 hr2
   rw[show r2 9=ptr a from hr2]
   have hb:=nAt_bd hN
   have hpre:(aucTo N j).pre:=by
    refine⟨⟨hc.1,hc.2.1⟩,⟨hc.2.2.1,hc.2.2.2.1⟩,⟨hc.2.2.2.2.1,hc.2.2.2.2.2.1⟩,hb 3,hb 4,?_,λi hi=>?_,λi hi=>?_⟩
    ·show 1<=(nAt N 5).toNat/\(nAt N 5).toNat<=16
     omega
    ·have hij:i<j:=by have:i<(nAt N 5).toNat:=hi;omega
     show 0<=(if i<j then _ else _)/\(if i<j then _ else _)<=_
     rw[if_pos hij];exact hb _
    ·have hij:i<j:=by have:i<(nAt N 5).toNat:=hi;omega
     show 0<=(if i<j then _ else _)/\(if i<j then _ else _)<=_
     rw[if_pos hij];exact hb _
   refine clock_right hA hpre (λG hs4 hbad=>?_) λG hs4 hok=>?_
   ·simp only[AEnd.elim]
    have fin:=bad G (ob.sub.trans (hs.trans hs4)) λA h1 h0 h2=>by
     obtain⟨a1,a2,a3,a4,a5,a6,a7,a8⟩:=auc_nums h2
     refine hbad ⟨auc_ok_like a2 a3 a4 a5 a6 (show (nAt N 5).toNat=A.n by omega) (λi hi=>?_) h1,a6.trans h0⟩
     have hij:i<j:=by omega
     show (if i<j then _ else _)=_/\(if i<j then _ else _)=_
     rw[if_pos hij,if_pos hij]
     exact a8 i hi
    simp[fin]
   ·simp only[AEnd.elim]
    simp
    refine⟨G,Sub.refl G,hyes (aucTo N j) a bb G hok (aucB_of ?_) (hA.sub hs4) (ob.sub.trans (hs.trans hs4)) hah hbh⟩
    show encL (aucNums (aucTo N j) (nAt N 5).toNat)=_
    rw[hn5,auc_take j (Nat.le_refl _) (by omega) h5,<-hn,List.take_length]
    exact hE
end
end Go.Pw
set_option linter.unusedSimpArgs false
set_option linter.unusedVariables false
namespace Go.Pw
open Go Go.Proofs
def lkC (f:Nat->Nat->Int) (n:Nat):Array Value:=Array.ofFn (n:=n*4) λk=>.int .i64 (f (k.val/4) (k.val%4))
abbrev lkO (f:Nat->Nat->Int) (n:Nat):Obj:=.cells (lkC f n) 59 (0,0)
def upL (f:Nat->Nat->Int) (i j:Nat) (v:Int):Nat->Nat->Int:=λa b=>if a=i/\b=j then v else f a b
theorem lkC_size (f:Nat->Nat->Int) (n:Nat):(lkC f n).size=n*4:=by simp[lkC]
theorem lkC_at {f:Nat->Nat->Int} {n i j:Nat} (hi:i<n) (hj:j<4):(lkC f n)[i*4+j]?=some (.int .i64 (f i j)):=by
 unfold lkC
 rw[Array.getElem?_ofFn,dif_pos (by omega)]
 simp only
 rw[show (i*4+j)/4=i by omega,show (i*4+j)%4=j by omega]
theorem lkC_set {f:Nat->Nat->Int} {n i j:Nat} (hi:i<n) (hj:j<4) (v:Int):(lkC f n).setIfInBounds (i*4+j) (.int .i64 v)=lkC (upL f i j v) n:=by
 apply Array.ext_getElem?
 intro k
 rcases Nat.lt_or_ge k (n*4)with hk | hk
 ·have hk4:k/4<n:=by omega
  have hm:k%4<4:=by omega
  have e:=lkC_at (f:=upL f i j v) hk4 hm
  rw[show k/4*4+k%4=k by omega]at e
  rw[e]
  by_cases he:i*4+j=k
  ·rw[he,Array.getElem?_setIfInBounds_self_of_lt (by rw[lkC_size];exact hk)]
   unfold upL
   rw[if_pos (by omega)]
  ·rw[Array.getElem?_setIfInBounds_ne he]
   have e2:=lkC_at (f:=f) hk4 hm
   rw[show k/4*4+k%4=k by omega]at e2
   rw[e2]
   unfold upL
   rw[if_neg (by omega)]
 ·rw[Array.getElem?_eq_none (by simpa [lkC_size]using hk),Array.getElem?_eq_none (by rw[lkC_size];exact hk)]
theorem lkC_congr {f g:Nat->Nat->Int} {n:Nat} (H:∀i j,i<n->j<4->f i j=g i j):lkC f n=lkC g n:=by
 unfold lkC
 congr 1
 funext k
 rw[H _ _ (by have:=k.isLt;omega) (by omega)]
theorem lkC_zero (n:Nat):rep #[.int .i64 0,.int .i64 0,.int .i64 0,.int .i64 0] (n*4)=lkC (λ_ _=>0) n:=by
 apply Array.ext_getElem?
 intro k
 unfold rep
 rcases Nat.lt_or_ge k (n*4)with hk | hk
 ·have hk4:k/4<n:=by omega
  have hm:k%4<4:=by omega
  have e:=lkC_at (f:=λ_ _=>0) hk4 hm
  rw[show k/4*4+k%4=k by omega]at e
  rw[e]
  simp[hk]
  have:k%4=0\/k%4=1\/k%4=2\/k%4=3:=by omega
  rcases this with h | h | h | h <;> rw[h] <;> rfl
 ·rw[Array.getElem?_eq_none (by simpa using hk),Array.getElem?_eq_none (by rw[lkC_size];exact hk)]
def Rows2 (h:PH) (qh ql n:Nat) (hd:Nat->Int) (lk:Nat->Nat->Int):PH->Prop:=pt qh (rowO hd n)•pt ql (lkO lk n)•(λg=>Sub h g)
theorem mono_sub (h:PH):Mono (λg=>Sub h g):=λa b hs H=>H.trans hs
section
variable {h g:PH} {qh ql n:Nat} {hd:Nat->Int} {lk:Nat->Nat->Int} {C:PH->Prop}
theorem Rows2.mono:Mono (Rows2 h qh ql n hd lk):=mono_sep _ _
theorem Rows2.sub (H:Rows2 h qh ql n hd lk g):Sub h g:=sep_r (mono_sub h) (sep_r (mono_sep _ _) H)
theorem Rows2.gh (H:Rows2 h qh ql n hd lk g):g qh=some (rowO hd n):=pt_get H
theorem Rows2.gl (H:Rows2 h qh ql n hd lk g):g ql=some (lkO lk n):=pt_get (sep_r (mono_sep _ _) H)
theorem Rows2.congr {hd':Nat->Int} {lk':Nat->Nat->Int} (h1:∀i,i<n->hd i=hd' i) (h2:∀i j,i<n->j<4->lk i j=lk' i j):Rows2 h qh ql n hd lk=Rows2 h qh ql n hd' lk':=by
 unfold Rows2 rowO lkO
 rw[row_congr h1,lkC_congr h2]
theorem Rows2.sth {hd':Nat->Int} (H:(C•Rows2 h qh ql n hd lk) g):(C•Rows2 h qh ql n hd' lk) (ins g qh (rowO hd' n)):=by
 unfold Rows2 at H ⊢
 have e:∀P Q S:PH->Prop,C•P•Q•S=P•(C•Q•S):=λ_ _ _=>by ac_rfl
 rw[e]at H ⊢
 exact pt_put H
theorem Rows2.stl {lk':Nat->Nat->Int} (H:(C•Rows2 h qh ql n hd lk) g):(C•Rows2 h qh ql n hd lk') (ins g ql (lkO lk' n)):=by
 unfold Rows2 at H ⊢
 have e:∀P Q S:PH->Prop,C•P•Q•S=Q•(C•P•S):=λ_ _ _=>by ac_rfl
 rw[e]at H ⊢
 exact pt_put H
theorem lk_ld {i j:Nat} {K:Value->Prop} (hb:g ql=some (lkO lk n)) (hi:i<n) (hj:j<4):vLoad none (.pointer (some ⟨ql,i*4+j,none⟩)) g K↔K (.int .i64 (lk i j)):=vLoad_1 hb (lkC_at hi hj)
theorem lk_st {i j:Nat} {v:Int} {K:PH->Prop} (hb:g ql=some (lkO lk n)) (hi:i<n) (hj:j<4):vStore 1 (.pointer (some ⟨ql,i*4+j,none⟩)) (.int .i64 v) g K↔K (ins g ql (lkO (upL lk i j v) n)):=by
 rw[vStore_1 hb (by rw[lkC_size];omega) rfl,lkC_set hi hj]
end
end Go.Pw
set_option linter.unusedSimpArgs false
set_option linter.unusedVariables false
namespace Go.Pw
open Go Go.Proofs
def ordP (n:Nat) (o:Ord):Prop:=o.own<n/\o.id%16=o.own/\o.id/16<=1048576
def ordH (hd:Nat->Int) (l:List Ord) (i:Nat):Int:=hd i+sumO (buyW i) l
def ordL (lk:Nat->Nat->Int) (gd:Nat) (l:List Ord) (i j:Nat):Int:=if j=gd then lk i j+sumO (sellW i) l else lk i j
section
variable {h g:PH} {qh ql n gd x:Nat} {hd:Nat->Int} {lk:Nat->Nat->Int} {so:Value} {l:List Ord} {nm:Nm} {S:Hs}
theorem mul_o {o:Ord} (h:rightO o=true):0<=o.pr*o.am/\o.pr*o.am<=1152921504606846976:=by
 have:=rightO_iff.1 h
 constructor
 ·exact Int.mul_nonneg (by omega) (by omega)
 ·have h1:o.pr*o.am<=1099511627776*o.am:=Int.mul_le_mul_of_nonneg_right (by omega) (by omega)
  omega
theorem sOrd_round {k:Nat} {o:Ord} {Kp:List PanicEntry->PH->Prop} {x2 xr:(Value×Value×Value×Value×Value×Value×Value)->PH->Prop} {v5 v6 q:Value}
  {kn:(Value×Value×Value×Value×Value×Value×Value×Value)->(Value×Value)->PH->Prop}
  (hx:h x=some (hsO nm S)) (hn:S.L.n=n) (hn16:n<=16) (hgd:gd<4) (hl:l.length<=64) (ho:l[k]?=some o) (hr:rightO o=true)
  (H:(OS 78 6 so l.length (ordsC l)•Rows2 h qh ql n hd lk) g)
  (hh:∀i,i<n->0<=hd i/\hd i<=1099511627776) (hk:∀i,i<n->0<=lk i gd/\lk i gd<=1099511627776)
  (hno:∀G,Sub h G->(ordP n o->∃i,i<n/\1099511627776<hd i+buyW i o)->xr (ptr x,.bool false,.slice (some ⟨qh,0,none⟩) n n,.slice (some ⟨ql,0,none⟩) n n,.int .i64 gd,v5,v6) G)
  (hyes:∀G,ordP n o->(∀i,i<n->hd i+buyW i o<=1099511627776)->(OS 78 6 so l.length (ordsC l)•Rows2 h qh ql n (λi=>hd i+buyW i o) (λi j=>if j=gd then lk i j+sellW i o else lk i j)) G ->
   kn (ptr x,.slice (some ⟨qh,0,none⟩) n n,.slice (some ⟨ql,0,none⟩) n n,.int .i64 gd,v5,v6,so,.int .i64 l.length) (q,.int .i64 ((k:Int)+1)) G) :
  b56_7 Kp x2 xr (ptr x,.slice (some ⟨qh,0,none⟩) n n,.slice (some ⟨ql,0,none⟩) n n,.int .i64 gd,v5,v6,so,.int .i64 l.length) kn (q,.int .i64 k) g:=by
 unfold b56_7
 have hkl:k<l.length:=(List.getElem?_eq_some_iff.1 ho).1
 have hlt:(k:Int)<(l.length:Int):=by omega
 simp only[vBin_lss,hlt,decide_true,dIf_b]
 refine⟨λ_=>?_,λe=>absurd e (by simp)⟩
 refine ord_copy (sep_l OS.mono H) ho λc hc=>?_
 have H1:=pt_new (o:=.cells o.a 78 (0,0)) hc H
 rw[<-sep_assoc]at H1
 revert H1
 generalize ins g c (.cells o.a 78 (0,0))=G
 intro H1
 have hcc:G c=some (.cells o.a 78 (0,0)):=pt_get (sep_l (mono_sep _ _) H1)
 have hR2:=sep_r Rows2.mono H1
 have hsG:=hR2.sub
 have ir:=rightO_iff.1 hr
 have y0:=λK=>vLoad_1 (K:=K) hcc (show o.a[0]?=some (.int .i64 o.id)from rfl)
 have y1:=λK=>vLoad_1 (K:=K) hcc (show o.a[1]?=some (.int .i64 o.own)from rfl)
 have y2:=λK=>vLoad_1 (K:=K) hcc (show o.a[2]?=some (.int .i64 o.pr)from rfl)
 have y3:=λK=>vLoad_1 (K:=K) hcc (show o.a[3]?=some (.int .i64 o.am)from rfl)
 have y5:=λK=>vLoad_1 (K:=K) hcc (show o.a[5]?=some (.bool o.buys)from rfl)
 have fx:=λK=>vLoad_1 (K:=K) (hsG _ _ hx) (show (hsHd nm S)[1]?=some (.int .i64 S.L.n)from rfl)
 rw[hn]at fx
 have hnoA:=hno
 have hno:=hno G hsG
 have vr:∀K:Value->Prop,vBin Tryz.prog .rem 3 (.int .i64 o.id) (.int .i64 16) K↔K (.int .i64 (o.id%16)):=λK=>by
  rw[vBin_rem _ _ _ _ (by omega),Int.tmod_eq_emod_of_nonneg (by omega)]
 have vq:∀K:Value->Prop,vBin Tryz.prog .quo 3 (.int .i64 o.id) (.int .i64 16) K↔K (.int .i64 (o.id/16)):=λK=>by
  rw[vBin_quo _ _ _ _ (by omega),Int.tdiv_eq_ediv_of_nonneg (by omega),w64 (by omega) (by omega)]
 by_cases c1:(n:Int)<=o.own
 ·have:=hno λe=>by have:=e.1;omega
  simp[y0,y1,fx,c1,this]
 by_cases c2:o.id%16=o.own
 case' neg=>
  have:=hno λe=>absurd e.2.1 c2
  simp[y0,y1,fx,c1,vr,c2,this]
 by_cases c3:1048576<o.id/16
 ·have:=hno λe=>by have:=e.2.2;omega
  simp[y0,y1,fx,c1,vr,c2,vq,c3,this]
 have hP:ordP n o:=⟨by omega,c2,by omega⟩
 obtain⟨w,hw⟩:∃w:Nat,o.own=w:=⟨o.own.toNat,by omega⟩
 have hwn:w<n:=by omega
 have b1:=hh w hwn
 have b2:=hk w hwn
 have b3:=mul_o hr
 have w1:IntKind.i64.wrap ((k:Int)+1)=(k:Int)+1:=w64 (by omega) (by omega)
 have w2:IntKind.i64.wrap (o.pr*o.am)=o.pr*o.am:=w64 (by omega) (by omega)
 have w3:IntKind.i64.wrap (hd w+o.pr*o.am)=hd w+o.pr*o.am:=w64 (by omega) (by omega)
 have w4:IntKind.i64.wrap (lk w gd+o.am)=lk w gd+o.am:=w64 (by omega) (by omega)
 have ixh:∀K:Value->Prop,vIxS 1 (.slice (some ⟨qh,0,none⟩) n n) (.int .i64 o.own) K↔K (.pointer (some ⟨qh,w,none⟩)):=nb_ix w hw hwn
 have ixl:∀K:Value->Prop,vIxS 4 (.slice (some ⟨ql,0,none⟩) n n) (.int .i64 o.own) K↔K (.pointer (some ⟨ql,w*4,none⟩)):=λK=>by
  rw[vIxS_p,hw]
  simp only[Int.toNat_natCast,Nat.zero_add]
  constructor
  ·exact λH=>H.2.2
  ·exact λH=>⟨by omega,by omega,H⟩
 have ixa:∀K:Value->Prop,vIxA 4 1 (.pointer (some ⟨ql,w*4,none⟩)) (.int .i64 gd) K↔K (.pointer (some ⟨ql,w*4+gd,none⟩)):=λK=>by
  rw[vIxA_p]
  simp only[Int.toNat_natCast,Nat.mul_one]
  constructor
  ·exact λH=>H.2.2
  ·exact λH=>⟨by omega,by omega,H⟩
 simp[-vIxS_p,-vIxA_p,y0,y1,fx,c1,vr,c2,vq,c3]
 cases hb:o.buys with
 | false=>
  simp[-vIxS_p,-vIxA_p,y5,hb,y1,ixl,ixa,y3]
  rw[lk_ld hR2.gl hwn hgd]
  simp only[vBin_add,w4]
  rw[lk_st hR2.gl hwn hgd]
  rw[w1]
  have H2:=Rows2.stl (lk':=upL lk w gd (lk w gd+o.am)) H1
  have eb:∀i,buyW i o=0:=λi=>by unfold buyW;rw[hb];simp
  refine hyes _ hP (λi hi=>by rw[eb];have:=hh i hi;omega) ?_
  have e:=Rows2.congr (h:=h) (qh:=qh) (ql:=ql) (n:=n) (hd:=hd) (hd':=λi=>hd i+buyW i o) (lk:=upL lk w gd (lk w gd+o.am)) (lk':=λi j=>if j=gd then lk i j+sellW i o else lk i j)
   (λi hi=>by show hd i=hd i+buyW i o;rw[eb];omega) (λi j hi hj=>by
    unfold upL sellW
    by_cases e1:j=gd
    ·subst e1
     by_cases e2:i=w
     ·subst e2;rw[if_pos ⟨rfl,rfl⟩,if_pos rfl,if_pos ⟨hw,hb⟩]
     ·rw[if_neg (λh=>e2 h.1),if_pos rfl,if_neg (λh=>e2 (by have:=h.1;omega))];omega
    ·rw[if_neg (λh=>e1 h.2),if_neg e1])
  rw[e,sep_assoc]at H2
  exact sep_r (mono_sep _ _) H2
 | true=>
  simp[-vIxS_p,-vIxA_p,y5,hb,y1,ixh,y2,y3]
  rw[row_ld hR2.gh hwn]
  simp only[vBin_add,vBin_mul,w2,w3]
  rw[row_st hR2.gh hwn]
  have H2:=Rows2.sth (hd':=upF hd w (hd w+o.pr*o.am)) H1
  have es:∀i,sellW i o=0:=λi=>by unfold sellW;rw[hb];simp
  have e:=Rows2.congr (h:=h) (qh:=qh) (ql:=ql) (n:=n) (hd:=upF hd w (hd w+o.pr*o.am)) (hd':=λi=>hd i+buyW i o) (lk:=lk) (lk':=λi j=>if j=gd then lk i j+sellW i o else lk i j)
   (λi hi=>by
    unfold upF buyW
    by_cases e2:i=w
    ·subst e2;rw[if_pos rfl,if_pos ⟨hw,hb⟩]
    ·rw[if_neg e2,if_neg (λh=>e2 (by have:=h.1;omega))];omega) (λi j hi hj=>by
    show lk i j=if j=gd then lk i j+sellW i o else lk i j
    rw[es]
    split <;> omega)
  have ebw:∀i,i<n->hd i+buyW i o<=(if i=w then hd w+o.pr*o.am else 1099511627776):=λi hi=>by
   unfold buyW
   by_cases e2:i=w
   ·subst e2;rw[if_pos ⟨hw,hb⟩,if_pos rfl];omega
   ·rw[if_neg (λh=>e2 (by have:=h.1;omega)),if_neg e2]
    have:=hh i hi;omega
  have hup:upF hd w (hd w+o.pr*o.am) w=hd w+o.pr*o.am:=by unfold upF;rw[if_pos rfl]
  revert H2
  generalize ins G qh (rowO (upF hd w (hd w+o.pr*o.am)) n)=G2
  intro H2
  have hcc2:G2 c=some (.cells o.a 78 (0,0)):=pt_get (sep_l (mono_sep _ _) H2)
  have hR3:=sep_r Rows2.mono H2
  have y1':=λK=>vLoad_1 (K:=K) hcc2 (show o.a[1]?=some (.int .i64 o.own)from rfl)
  rw[y1',ixh,row_ld hR3.gh hwn,hup]
  by_cases c4:1099511627776<hd w+o.pr*o.am
  ·have:=hnoA G2 hR3.sub λ_=>⟨w,hwn,by unfold buyW;rw[if_pos ⟨hw,hb⟩];exact c4⟩
   simp[c4,this]
  ·simp[c4,w1]
   rw[e,sep_assoc]at H2
   refine hyes _ hP (λi hi=>?_) (sep_r (mono_sep _ _) H2)
   have:=ebw i hi
   split at this <;> omega
end
end Go.Pw
set_option linter.unusedSimpArgs false
set_option linter.unusedVariables false
namespace Go.Pw
open Go Go.Proofs
section
variable {h g:PH} {R:AEnd->PH->Prop} {qh ql n gd x:Nat} {hd:Nat->Int} {lk:Nat->Nat->Int} {so:Value} {l:List Ord} {nm:Nm} {S:Hs}
theorem sOrd_ok {Kp:List PanicEntry->PH->Prop} {x2 xr:(Value×Value×Value×Value×Value×Value×Value)->PH->Prop} {v5 v6 q:Value}
  (hx:h x=some (hsO nm S)) (hn:S.L.n=n) (hn16:n<=16) (hgd:gd<4) (hl:l.length<=64) (hr:∀o∈l,rightO o=true)
  (H:(OS 78 6 so l.length (ordsC l)•Rows2 h qh ql n hd lk) g)
  (hh:∀i,i<n->0<=hd i/\hd i<=1099511627776) (hk:∀i,i<n->lk i gd=0)
  (hno:∀G,Sub h G->((∀o∈l,ordP n o)->∃i,i<n/\1099511627776<hd i+sumO (buyW i) l)->xr (ptr x,.bool false,.slice (some ⟨qh,0,none⟩) n n,.slice (some ⟨ql,0,none⟩) n n,.int .i64 gd,v5,v6) G)
  (hyes:∀G,(∀o∈l,ordP n o)->(∀i,i<n->hd i+sumO (buyW i) l<=1099511627776)->Rows2 h qh ql n (ordH hd l) (ordL lk gd l) G ->
   x2 (ptr x,q,.slice (some ⟨qh,0,none⟩) n n,.slice (some ⟨ql,0,none⟩) n n,.int .i64 gd,v5,v6) G) :
  lf (b56_7 Kp x2 xr) (ptr x,Value.slice (some ⟨qh,0,none⟩) n n,Value.slice (some ⟨ql,0,none⟩) n n,Value.int .i64 gd,v5,v6,so,Value.int .i64 l.length) (q,.int .i64 0) g:=by
 have nnb:∀i,∀o∈l,0<=buyW i o:=λi o ho=>buyW_nn (hr o ho)
 have nns:∀i,∀o∈l,0<=sellW i o:=λi o ho=>sellW_nn (hr o ho)
 refine lf_intro (λm s' g=>∃k:Nat,s'=(q,.int .i64 k)/\m=l.length-k/\k<=l.length/\(∀o∈l.take k,ordP n o)/\(∀i,i<n->ordH hd (l.take k) i<=1099511627776)/\(OS 78 6 so l.length (ordsC l)•Rows2 h qh ql n (ordH hd (l.take k)) (ordL lk gd (l.take k))) g) l.length
  ⟨0,rfl,rfl,by omega,by simp,λi hi=>by have:=hh i hi;simp[ordH,sumO];omega,?_⟩ ?_
 ·have e:=Rows2.congr (h:=h) (qh:=qh) (ql:=ql) (n:=n) (hd:=hd) (hd':=ordH hd (l.take 0)) (lk:=lk) (lk':=ordL lk gd (l.take 0)) (λi hi=>by simp[ordH,sumO]) (λi j hi hj=>by simp[ordL,sumO])
  rw[<-e];exact H
 rintro m s' g ⟨k,rfl,rfl,hkl,hall,hmx,Hk⟩
 by_cases hin:k<l.length
 ·obtain⟨o,ho⟩:=at_some (l:=l) (k:=k) hin
  have hom:=List.mem_of_getElem? ho
  have eb:∀i,ordH hd (l.take (k+1)) i=ordH hd (l.take k) i+buyW i o:=λi=>by unfold ordH;rw[sumO_take _ ho];omega
  have es:∀i j,ordL lk gd (l.take (k+1)) i j=if j=gd then ordL lk gd (l.take k) i j+sellW i o else ordL lk gd (l.take k) i j:=λi j=>by
   unfold ordL
   rw[sumO_take _ ho]
   split <;> omega
  have hle:∀i,ordH hd (l.take (k+1)) i<=hd i+sumO (buyW i) l:=λi=>by
   unfold ordH
   have h1:=sumO_app (buyW i) (l.take (k+1)) (l.drop (k+1))
   rw[List.take_append_drop]at h1
   have h2:=sumO_nn (f:=buyW i) (l:=l.drop (k+1)) λo ho=>nnb i o (List.mem_of_mem_drop ho)
   omega
  refine sOrd_round hx hn hn16 hgd hl ho (hr o hom) Hk (λi hi=>⟨?_,hmx i hi⟩) (λi hi=>?_) (λG hs hbad=>?_) λG hP hb HG=>?_
  ·have h1:=hh i hi
   have h2:=sumO_nn (f:=buyW i) (l:=l.take k) λo ho=>nnb i o (List.mem_of_mem_take ho)
   unfold ordH;omega
  ·unfold ordL
   rw[if_pos rfl,hk i hi]
   have:=sumO_bd (f:=sellW i) (M:=1048576) (by omega) (l.take k) λo ho=>by
    have ho:=List.mem_of_mem_take ho
    have h1:=rightO_iff.1 (hr o ho)
    refine⟨nns i o ho,?_⟩
    unfold sellW;split <;> omega
   have hlt:((l.take k).length:Int)*1048576<=64*1048576:=Int.mul_le_mul_of_nonneg_right (by rw[List.length_take];omega) (by omega)
   omega
  ·refine hno G hs λhall2=>?_
   obtain⟨i,hi,h1⟩:=hbad (hall2 o hom)
   have:=eb i
   have:=hle i
   exact⟨i,hi,by omega⟩
  ·refine⟨rfl,l.length-(k+1),by omega,k+1,rfl,rfl,by omega,λp hp=>?_,λi hi=>by rw[eb];exact hb i hi,?_⟩
   ·rw[List.take_add_one,ho]at hp
    rcases List.mem_append.1 hp with h | h
    ·exact hall p h
    ·simp at h;subst h;exact hP
   ·rw[show ordH hd (l.take (k+1))=λi=>ordH hd (l.take k) i+buyW i o from funext eb,show ordL lk gd (l.take (k+1))=λi j=>if j=gd then ordL lk gd (l.take k) i j+sellW i o else ordL lk gd (l.take k) i j from funext λi=>funext λj=>es i j]
    exact HG
 ·have e:k=l.length:=by omega
  subst e
  rw[List.take_length]at *
  unfold b56_7
  simp
  exact hyes g hall hmx (sep_r Rows2.mono Hk)
theorem enc_drop {N:List Int} {i:Nat} {v:Int} (hv:N[i]?=some v):(encL N).drop (encL (N.take i)).length=encN v.toNat++encL (N.drop (i+1)):=by
 have hi:=(List.getElem?_eq_some_iff.1 hv).1
 have h1:encL N=encL (N.take i)++(encN v.toNat++encL (N.drop (i+1))):=by
  have e:N=N.take i++v::N.drop (i+1):=by
   have:=List.drop_eq_getElem_cons hi
   rw[(List.getElem?_eq_some_iff.1 hv).2]at this
   rw[<-this,List.take_append_drop]
  have e2:encL N=encL (N.take i++v::N.drop (i+1)):=by rw[<-e]
  rw[e2,encL_app]
  simp[encL]
 rw[h1,List.drop_left]
theorem h_bidders {a bb:Nat} {A:Auc} {w:Int} (hA:AucAt h a bb A) (hk:A.ok) (hR:R (.ret (.int .i64 A.n)) h):ACalls Tryz.prog 100 #[.agg #[ptr a,.int .i64 w]] h R:=by
 refine ACalls.drop (call100 ?_)
 unfold sh100
 rw[show Value.cells (.agg #[ptr a,.int .i64 w])=#[ptr a,.int .i64 w]from rfl]
 refine vNew_gen λc G hc hs hcc=>?_
 have l0:=λK=>vLoad_1 (K:=K) hcc (show (#[ptr a,.int .i64 w]:Array Value)[0]?=some (ptr a)from rfl)
 simp[l0]
 refine clock_bytes (hA.sub hs) hk ?_
 simp only[AEnd.elim]
 obtain⟨N,hN⟩:∃N,N=aucNums A A.n:=⟨_,rfl⟩
 have hlen:N.length=6+A.n*2:=by rw[hN,aucNums_len]
 have hbd:NumL N:=by rw[hN];exact aucNums_bd hk _ (Nat.le_refl _)
 have hnn:=hk.n
 have h5:nAt N 5=A.n:=(auc_nums hN.symm).2.2.2.2.2.2.1
 have hdl:(aucB A).data.toList=encL N:=by rw[hN];rfl
 have hsz:(aucB A).size=(encL N).length:=by rw[<-hdl];exact (Array.length_toList).symm
 have hl10:=encL_len2 hbd
 have tl:∀i,(encL (N.take i)).length<=(encL N).length:=λi=>by
  have:encL N=encL (N.take i)++encL (N.drop i):=by rw[<-encL_app,List.take_append_drop]
  rw[this,List.length_append];omega
 refine lf_intro (λm s' g=>∃i:Nat,s'=(.int .i64 (if i=0 then 0 else nAt N (i-1)),.int .i64 ((encL (N.take i)).length:Int),.int .i64 i)/\m=6-i/\i<=6/\Sub h g) 6 ⟨0,rfl,rfl,by omega,hs⟩ ?_
 rintro m s' g ⟨i,rfl,rfl,hi,hsg⟩
 by_cases hin:i<6
 ·have key:∀(kn:Value->(Value×Value×Value)->PH->Prop) Kp x0,(∀g,Sub h g->kn (.string (aucB A)) (.int .i64 (if i+1=0 then 0 else nAt N (i+1-1)),.int .i64 ((encL (N.take (i+1))).length:Int),.int .i64 ((i:Int)+1)) g) ->
    b100_4 Kp x0 (.string (aucB A)) kn (.int .i64 (if i=0 then 0 else nAt N (i-1)),.int .i64 ((encL (N.take i)).length:Int),.int .i64 i) g:=by
   intro kn Kp x0 hkn
   unfold b100_4
   have hlt:(i:Int)<6:=by omega
   simp only[vBin_lss,hlt,decide_true,dIf_b]
   refine⟨λ_=>?_,λe=>absurd e (by simp)⟩
   refine getInt_ok (by omega) ?_
   have t1:=tl i
   rw[if_neg (by omega),Int.toNat_natCast]
   have hv:=nAt_get (N:=N) (k:=i) (by omega)
   have hb:=nAt_bd hbd i
   have hd:=enc_drop hv
   rw[<-hdl]at hd
   rw[rdNum_of hd (by omega)]
   simp only[AEnd.elim]
   have e1:encL (N.take (i+1))=encL (N.take i)++encN (nAt N i).toNat:=by
    rw[List.take_add_one,hv,encL_app]
    congr 1
    simp[encL]
   simp
   rw[w64 (by omega) (by omega)]
   have:=hkn g hsg
   rw[if_neg (by omega),e1,List.length_append]at this
   rw[show max (nAt N i) 0=nAt N i by omega]
   simpa using this
  exact key _ _ _ λg hs=>⟨rfl,6-(i+1),by omega,i+1,rfl,rfl,by omega,hs⟩
 ·have e:i=6:=by omega
  subst e
  unfold b100_4
  simp[h5]
  intro r hr
  rw[show r 4=_ from hr]
  exact⟨h,hsg,hR⟩
end
end Go.Pw
set_option linter.unusedSimpArgs false
set_option linter.unusedVariables false
namespace Go.Pw
open Go Go.Proofs
structure Hs.pre (S:Hs):Prop where
 led:Inv S.L
 n1:1<=S.L.n
 bk:∀i,i<S.G->(S.bk i).ok
 au:∀i A w,i<S.G->S.au i=some (A,w)->A.ok/\0<=w/\w<S.L.n
 now:0<=S.now/\S.now<=9007199254740992
theorem Hs.pre.g {S:Hs} (h:S.pre):S.L.goods=S.G/\1<=S.G/\S.G<=4:=by
 have h1:=h.led.g0
 have h2:=h.led.gd
 unfold Hs.G
 omega
section
variable {h g:PH} {qh ql n gd x d:Nat} {hd:Nat->Int} {lk:Nat->Nat->Int} {nm:Nm} {S:Hs}
theorem auW_nnp {i g:Nat} (hk:S.pre) (hg:g<S.G):0<=auW S i g/\auW S i g<=1152921504606846976:=by
 unfold auW
 cases h:S.au g with
 | none=>simp
 | some p=>
  obtain⟨A,w⟩:=p
  exact needA_bd (hk.au g A w hg h).1 i
theorem heldG_nnp {i g:Nat} (hk:S.pre) (hg:g<S.G):0<=heldG S i g:=by
 have h1:=sumO_nn (f:=buyW i) (l:=(S.bk g).l) λo ho=>buyW_nn ((hk.bk g hg).right o ho)
 have h2:=auW_nnp (i:=i) hk hg
 unfold heldG;omega
theorem heldS_le {i k:Nat} (hk:S.pre) (hs:Snd S) (hi:i<S.L.n) (hg:k<=S.G):sumN (heldG S i) k<=1099511627776:=by
 have h1:=hs.held i hi
 have h2:=hk.led.held i hi
 have h3:=(sumN_ge (g:=λi=>S.L.f i 0) S.L.n (λj hj=>hk.led.pos j 0 hj (by omega)) i hi)
 have h4:=hk.led.cash
 unfold cashOf at h4
 unfold heldW at h1
 have h5:sumN (heldG S i) k<=sumN (heldG S i) S.G:=by
  obtain⟨m,hm⟩:∃m,S.G=k+m:=⟨S.G-k,by omega⟩
  rw[hm]
  have:∀m,k+m<=S.G->sumN (heldG S i) k<=sumN (heldG S i) (k+m):=λm=>by
   induction m with
   | zero=>intro _;exact Int.le_refl _
   | succ m ih=>
    intro hm
    have:=ih (by omega)
    have h6:=heldG_nnp (i:=i) hk (g:=k+m) (by omega)
    show _<=sumN (heldG S i) (k+m)+heldG S i (k+m)
    omega
  exact this m (by omega)
 omega
theorem sNeed_ok {a bb:Nat} {A:Auc} {w:Int} {Kp:List PanicEntry->PH->Prop} {x4 xr:(Value×Value×Value×Value×Value×Value)->PH->Prop} {v3 v5 v6 q:Value}
  (hA:AucAt h a bb A) (hk:A.ok) (hn16:n<=16)
  (H:(pt d (.cells #[ptr a,.int .i64 w] 98 (0,0))•Rows2 h qh ql n hd lk) g)
  (hh:∀i,i<n->0<=hd i/\hd i<=1099511627776)
  (hno:∀G,Sub h G->(∃i:Nat,i<n/\1099511627776<hd i+needA A i)->xr (ptr x,.bool false,.slice (some ⟨qh,0,none⟩) n n,v3,v5,v6) G)
  (hyes:∀G,(∀i:Nat,i<n->hd i+needA A i<=1099511627776)->Rows2 h qh ql n (λi=>hd i+needA A i) lk G->x4 (ptr x,q,.slice (some ⟨qh,0,none⟩) n n,v3,v5,v6) G) :
  lf (b56_24 Kp x4 xr) (ptr x,Value.slice (some ⟨qh,0,none⟩) n n,v3,ptr d,v5,v6,Value.int .i64 n) (q,.int .i64 0) g:=by
 refine lf_intro (λm s' g=>∃k:Nat,s'=(q,.int .i64 k)/\m=n-k/\k<=n/\(∀i:Nat,i<k->hd i+needA A i<=1099511627776)/\(pt d (.cells #[ptr a,.int .i64 w] 98 (0,0))•Rows2 h qh ql n (upto (λi:Nat=>hd i+needA A i) hd k) lk) g) n
  ⟨0,rfl,rfl,by omega,λi hi=>absurd hi (by omega),by rw[upto_0];exact H⟩ ?_
 rintro m s' g ⟨k,rfl,rfl,hkn,hall,Hk⟩
 have hR2:=sep_r Rows2.mono Hk
 have hsG:=hR2.sub
 by_cases hin:k<n
 ·unfold b56_24
  have hlt:(k:Int)<(n:Int):=by omega
  simp only[vBin_lss,hlt,decide_true,dIf_b]
  refine⟨λ_=>?_,λe=>absurd e (by simp)⟩
  have ix:∀K:Value->Prop,vIxS 1 (.slice (some ⟨qh,0,none⟩) n n) (.int .i64 k) K↔K (.pointer (some ⟨qh,k,none⟩)):=nb_ix k rfl hin
  have hdd:=pt_get Hk
  have hup:upto (λi:Nat=>hd i+needA A i) hd k k=hd k:=by unfold upto;rw[if_neg (by omega)]
  have b1:=hh k hin
  have b2:=needA_bd hk (k:Int)
  rw[ix,row_ld hR2.gh hin,hup,vLoad_n hdd (off:=0) (n:=2) (by show 0+2<=2;omega),show (#[ptr a,.int .i64 w]:Array Value).extract 0 (0+2)=#[ptr a,.int .i64 w]from rfl]
  refine h_need (hA.sub hsG) hk ?_
  simp only[AEnd.elim]
  rw[row_ld hR2.gh hin,hup]
  refine⟨rfl,?_⟩
  simp only[vBin_add]
  rw[w64 (by omega) (by omega),ix,row_st hR2.gh hin]
  have H2:=Rows2.sth (hd':=upF (upto (λi:Nat=>hd i+needA A i) hd k) k (hd k+needA A k)) Hk
  revert H2
  rw[upto_set (λi:Nat=>hd i+needA A i) hd k]
  generalize ins g qh (rowO (upto (λi:Nat=>hd i+needA A i) hd (k+1)) n)=G
  intro H2
  have hR3:=sep_r Rows2.mono H2
  have hup2:upto (λi:Nat=>hd i+needA A i) hd (k+1) k=hd k+needA A k:=by unfold upto;rw[if_pos (by omega)]
  rw[ix,row_ld hR3.gh hin,hup2]
  by_cases c:1099511627776<hd k+needA A k
  ·have:=hno G hR3.sub ⟨k,hin,c⟩
   simp[c,this]
  ·simp only[vBin_gtr,c,decide_false,dIf_b,vBin_add]
   refine⟨λe=>absurd e (by simp),λ_=>?_⟩
   rw[w64 (by omega) (by omega)]
   refine⟨trivial,n-(k+1),by omega,k+1,rfl,rfl,by omega,λi hi=>?_,H2⟩
   rcases Nat.lt_or_ge i k with e | e
   ·exact hall i e
   ·have:i=k:=by omega
    subst this;omega
 ·have e:k=n:=by omega
  subst e
  unfold b56_24
  simp
  have e:=Rows2.congr (h:=h) (qh:=qh) (ql:=ql) (n:=k) (hd:=upto (λi:Nat=>hd i+needA A i) hd k) (hd':=λi=>hd i+needA A i) (lk:=lk) (lk':=lk) (λi hi=>by unfold upto;rw[if_pos hi]) (λ_ _ _ _=>rfl)
  rw[e]at hR2
  exact hyes g hall hR2
end
end Go.Pw
set_option linter.unusedSimpArgs false
set_option linter.unusedVariables false
namespace Go.Pw
open Go Go.Proofs
def goodP (S:Hs) (n gd:Nat):Prop:=(∀o∈(S.bk gd).l,ordP n o)/\∀A w,S.au gd=some (A,w)->A.ste=0/\wantsA A w=(0,0)/\A.n=n
section
variable {h g:PH} {qh ql n gd x:Nat} {hd:Nat->Int} {lk:Nat->Nat->Int} {nm:Nm} {S:Hs}
theorem sGood_ok {x0 xr:(Value×Value×Value×Value)->PH->Prop} {q:Value} {Kp:List PanicEntry->PH->Prop} {kn:(Value×Value×Value×Value)->(Value×Value)->PH->Prop}
  (Hx:HsN x nm S h) (hnm:nm.ok S) (hp:S.pre) (hn:S.L.n=n) (hg:gd<S.G)
  (H:Rows2 h qh ql n hd lk g)
  (hh:∀i,i<n->0<=hd i/\hd i<=1099511627776) (hk:∀i,i<n->lk i gd=0)
  (hno:∀G,Sub h G->(goodP S n gd->∃i,i<n/\1099511627776<hd i+heldG S i gd)->xr (ptr x,.bool false,.slice (some ⟨qh,0,none⟩) n n,.slice (some ⟨ql,0,none⟩) n n) G)
  (hyes:∀G,goodP S n gd->(∀i,i<n->hd i+heldG S i gd<=1099511627776)->Rows2 h qh ql n (λi=>hd i+heldG S i gd) (λi j=>if j=gd then lockG S i gd else lk i j) G ->
   kn (ptr x,.slice (some ⟨qh,0,none⟩) n n,.slice (some ⟨ql,0,none⟩) n n,.int .i64 S.G) (q,.int .i64 ((gd:Int)+1)) G) :
  b56_4 Kp x0 xr (ptr x,.slice (some ⟨qh,0,none⟩) n n,.slice (some ⟨ql,0,none⟩) n n,.int .i64 S.G) kn (q,.int .i64 gd) g:=by
 unfold b56_4
 have hcl:=hp.led.cl
 have hgG:=hp.g
 have hlt:(gd:Int)<(S.G:Int):=by omega
 simp only[vBin_lss,hlt,decide_true,dIf_b,vNil_p,vFA_p]
 refine⟨λ_=>?_,λe=>absurd e (by simp)⟩
 have F:=(HsN.mono _ _ H.sub Hx).f
 refine F.book hnm hg ?_
 have hB:=hp.bk gd hg
 refine bk_orders (F.bk gd hg) hB.len λg1 so ob=>?_
 simp only[AEnd.elim]
 obtain⟨p,cap,hse⟩:=ob_len ob
 have hls:∀K:Value->Prop,vLenS so K↔K (.int .i64 (S.bk gd).l.length):=λK=>by rw[hse];simp
 rw[hls]
 have nnp:∀i,0<=auW S i gd:=λi=>(auW_nnp hp hg).1
 refine sOrd_ok Hx.f.hx hn (by omega) (by omega) hB.len hB.right (ob_os H ob) hh hk (λG hs hb=>?_) λG hP hmx HG=>?_
 ·intro r hr
  rw[show r 0=ptr x from congrArg (·.1) hr,show r 2=Value.bool false from congrArg (·.2.1) hr,show r 3=Value.slice (some ⟨qh,0,none⟩) n n from congrArg (·.2.2.1) hr,show r 4=Value.slice (some ⟨ql,0,none⟩) n n from congrArg (·.2.2.2.1) hr]
  refine hno G hs λhgp=>?_
  obtain⟨i,hi,h1⟩:=hb hgp.1
  refine⟨i,hi,?_⟩
  have:=nnp i
  unfold heldG;omega
 ·intro r hr
  rw[show r 0=ptr x from congrArg (·.1) hr,show r 2=q from congrArg (·.2.1) hr,show r 3=Value.slice (some ⟨qh,0,none⟩) n n from congrArg (·.2.2.1) hr,show r 4=Value.slice (some ⟨ql,0,none⟩) n n from congrArg (·.2.2.2.1) hr,
   show r 5=Value.int .i64 gd from congrArg (·.2.2.2.2.1) hr,show r 28=Value.int .i64 S.G from congrArg (·.2.2.2.2.2.1) hr,show r 29=Value.int .i64 gd from congrArg (·.2.2.2.2.2.2) hr]
  simp only[vNil_p,vFA_p]
  have w1:IntKind.i64.wrap ((gd:Int)+1)=(gd:Int)+1:=w64 (by omega) (by omega)
  have F2:=(HsN.mono _ _ HG.sub Hx).f
  refine F2.sale hg λd hd2=>?_
  have Hd:=pt_new (o:=.cells #[saleP nm S gd,.int .i64 (saleW S gd)] 98 (0,0)) hd2 HG
  revert Hd
  generalize ins G d (.cells #[saleP nm S gd,.int .i64 (saleW S gd)] 98 (0,0))=G2
  intro Hd
  have hdd:=pt_get Hd
  have HR:=sep_r Rows2.mono Hd
  have z0:=λK=>vLoad_1 (K:=K) hdd (show (#[saleP nm S gd,.int .i64 (saleW S gd)]:Array Value)[0]?=some (saleP nm S gd)from rfl)
  have z1:=λK=>vLoad_1 (K:=K) hdd (show (#[saleP nm S gd,.int .i64 (saleW S gd)]:Array Value)[1]?=some (.int .i64 (saleW S gd))from rfl)
  simp only[vFA_p,z0]
  cases ha:S.au gd with
  | none=>
   have e0:saleP nm S gd = .pointer none:=by unfold saleP;rw[ha]
   have hA:∀i,auW S i gd=0/\auK S i gd=0:=λi=>by unfold auW auK;rw[ha];exact⟨rfl,rfl⟩
   rw[e0,vBin_nilp Tryz.underlying96]
   simp[w1]
   refine hyes G2 ⟨hP,λA w h=>by rw[ha]at h;cases h⟩ (λi hi=>by have:=hmx i hi;have:=(hA i).1;unfold heldG;omega) ?_
   have e:=Rows2.congr (h:=h) (qh:=qh) (ql:=ql) (n:=n) (hd:=ordH hd (S.bk gd).l) (hd':=λi=>hd i+heldG S i gd) (lk:=ordL lk gd (S.bk gd).l) (lk':=λi j=>if j=gd then lockG S i gd else lk i j)
    (λi hi=>by have:=(hA i).1;unfold ordH heldG;omega) (λi j hi hj=>by
     have:=(hA i).2
     have:=hk i hi
     unfold ordL lockG
     by_cases e:j=gd
     ·subst e;rw[if_pos rfl,if_pos rfl];omega
     ·rw[if_neg e,if_neg e])
   rw[<-e];exact HR
  | some pa=>
   obtain⟨A,w⟩:=pa
   obtain⟨hok,hw0,hwn⟩:=hp.au gd A w hg ha
   have e0:saleP nm S gd=ptr (nm.aa gd):=by unfold saleP;rw[ha]
   have e1:saleW S gd=w:=by unfold saleW;rw[ha]
   simp only[e0,e1]at hdd z0 z1 Hd
   rw[e0,vBin_pnil Tryz.underlying96]
   simp[z1,z0]
   have hAt:∀G,Sub h G->AucAt G (nm.aa gd) (nm.ab gd) A:=λG hs=>(Hx.f.au gd (A,w) hg ha).sub hs
   have hA2:=hAt G2 HR.sub
   refine clock_wants hA2 ?_
   simp only[AEnd.elim,vExt_20,vExt_21]
   rw[z0]
   refine clock_state hA2 ?_
   simp only[AEnd.elim]
   have bad:¬(A.ste=0/\wantsA A w=(0,0)/\A.n=n)->xr (ptr x,.bool false,.slice (some ⟨qh,0,none⟩) n n,.slice (some ⟨ql,0,none⟩) n n) G2:=λhne=>
    hno G2 HR.sub λhgp=>absurd (hgp.2 A w ha) hne
   have wb:=wantsA_bd hok w
   have fx:=λK=>vLoad_1 (K:=K) (HR.sub _ _ Hx.f.hx) (show (hsHd nm S)[1]?=some (.int .i64 S.L.n)from rfl)
   rw[hn]at fx
   have l2:=λK=>vLoad_n (K:=K) hdd (off:=0) (n:=2) (by show 0+2<=2;omega)
   rw[show (#[ptr (nm.aa gd),.int .i64 w]:Array Value).extract 0 (0+2)=#[ptr (nm.aa gd),.int .i64 w]from rfl]at l2
   by_cases c1:A.ste=0
   case' neg=>
    have:=bad λe=>c1 e.1
    simp[c1,this]
   by_cases c2:0<(wantsA A w).1
   ·have:=bad λe=>by rw[e.2.1]at c2;exact absurd c2 (by simp)
    simp[c1,c2,this]
   by_cases c3:0<(wantsA A w).2
   ·have:=bad λe=>by rw[e.2.1]at c3;exact absurd c3 (by simp)
    simp[c1,c2,c3,this]
   simp[c1,c2,c3,l2,fx]
   refine h_bidders hA2 hok ?_
   simp only[AEnd.elim]
   by_cases c4:A.n=n
   case' neg=>
    have:=bad λe=>c4 e.2.2
    have c4':¬(A.n:Int)=(n:Int):=by omega
    simp[fx,c4',this]
   have hgp:goodP S n gd:=⟨hP,λA' w' h=>by
    rw[ha]at h
    cases h
    refine⟨c1,?_,c4⟩
    have e1:(wantsA A w).1=0:=by omega
    have e2:(wantsA A w).2=0:=by omega
    exact Prod.ext e1 e2⟩
   have hAu:∀i:Nat,auW S i gd=needA A i/\auK S i gd=if w=i then A.sup else 0:=λi=>by unfold auW auK;rw[ha];exact⟨rfl,rfl⟩
   obtain⟨v,rfl⟩:∃v:Nat,w=v:=⟨w.toNat,by omega⟩
   have hvn:v<n:=by omega
   have ixl:∀K:Value->Prop,vIxS 4 (.slice (some ⟨ql,0,none⟩) n n) (.int .i64 (v:Int)) K↔K (.pointer (some ⟨ql,v*4,none⟩)):=λK=>by
    rw[vIxS_p]
    simp only[Int.toNat_natCast,Nat.zero_add]
    constructor
    ·exact λH=>H.2.2
    ·exact λH=>⟨by omega,by omega,H⟩
   have ixa:∀K:Value->Prop,vIxA 4 1 (.pointer (some ⟨ql,v*4,none⟩)) (.int .i64 gd) K↔K (.pointer (some ⟨ql,v*4+gd,none⟩)):=λK=>by
    rw[vIxA_p]
    simp only[Int.toNat_natCast,Nat.mul_one]
    constructor
    ·exact λH=>H.2.2
    ·exact λH=>⟨by omega,by omega,H⟩
   have ll:=λK=>lk_ld (i:=v) (j:=gd) (K:=K) HR.gl hvn (by omega)
   have hsup:=hok.sup
   have lb:ordL lk gd (S.bk gd).l v gd=sumO (sellW v) (S.bk gd).l:=by unfold ordL;rw[if_pos rfl,hk v hvn];omega
   rw[lb]at ll
   have sb:=sumO_bd (f:=sellW v) (M:=1048576) (by omega) (S.bk gd).l λo ho=>by
    have h1:=rightO_iff.1 (hB.right o ho)
    refine⟨sellW_nn (hB.right o ho),?_⟩
    unfold sellW;split <;> omega
   have sb2:((S.bk gd).l.length:Int)*1048576<=64*1048576:=Int.mul_le_mul_of_nonneg_right (by have:=hB.len;omega) (by omega)
   simp[-vIxS_p,-vIxA_p,fx,c4,z1,z0,ixl,ixa,ll]
   refine clock_supply hA2 ?_
   simp only[AEnd.elim]
   have w2:IntKind.i64.wrap (sumO (sellW v) (S.bk gd).l+A.sup)=sumO (sellW v) (S.bk gd).l+A.sup:=w64 (by omega) (by omega)
   simp only[z1,ll,vBin_add,w2,ixa]
   refine⟨trivial,trivial,?_⟩
   rw[lk_st HR.gl hvn (by omega)]
   have H3:=Rows2.stl (lk':=upL (ordL lk gd (S.bk gd).l) v gd (sumO (sellW v) (S.bk gd).l+A.sup)) Hd
   have e:=Rows2.congr (h:=h) (qh:=qh) (ql:=ql) (n:=n) (hd:=ordH hd (S.bk gd).l) (hd':=ordH hd (S.bk gd).l) (lk:=upL (ordL lk gd (S.bk gd).l) v gd (sumO (sellW v) (S.bk gd).l+A.sup)) (lk':=λi j=>if j=gd then lockG S i gd else lk i j)
    (λi hi=>rfl) (λi j hi hj=>by
     have h1:=(hAu i).2
     have h2:=hk i hi
     unfold upL ordL lockG
     rw[h1]
     by_cases e:j=gd
     ·subst e
      by_cases e2:i=v
      ·subst e2;rw[if_pos ⟨rfl,rfl⟩,if_pos rfl,if_pos rfl]
      ·rw[if_neg (λh=>e2 h.1),if_pos rfl,if_pos rfl,if_neg (by omega)];omega
     ·rw[if_neg (λh=>e h.2),if_neg e,if_neg e])
   rw[e]at H3
   have nnb:∀i:Nat,i<n->0<=ordH hd (S.bk gd).l i:=λi hi=>by
    have h1:=hh i hi
    have h2:=sumO_nn (f:=buyW i) (l:=(S.bk gd).l) λo ho=>buyW_nn (hB.right o ho)
    unfold ordH;omega
   refine sNeed_ok (hAt h (Sub.refl h)) hok (by omega) H3 (λi hi=>⟨nnb i hi,hmx i hi⟩) (λG3 hs3 hb=>?_) λG3 hb H4=>?_
   ·intro r2 hr2
    rw[show r2 0=ptr x from congrArg (·.1) hr2,show r2 2=Value.bool false from congrArg (·.2.1) hr2,show r2 3=Value.slice (some ⟨qh,0,none⟩) n n from congrArg (·.2.2.1) hr2,show r2 4=Value.slice (some ⟨ql,0,none⟩) n n from congrArg (·.2.2.2.1) hr2]
    refine hno G3 hs3 λ_=>?_
    obtain⟨i,hi,h1⟩:=hb
    refine⟨i,hi,?_⟩
    have:=(hAu i).1
    unfold ordH at h1
    unfold heldG;omega
   ·intro r2 hr2
    rw[show r2 0=ptr x from congrArg (·.1) hr2,show r2 2=q from congrArg (·.2.1) hr2,show r2 3=Value.slice (some ⟨qh,0,none⟩) n n from congrArg (·.2.2.1) hr2,show r2 4=Value.slice (some ⟨ql,0,none⟩) n n from congrArg (·.2.2.2.1) hr2,
     show r2 28=Value.int .i64 S.G from congrArg (·.2.2.2.2.1) hr2,show r2 29=Value.int .i64 gd from congrArg (·.2.2.2.2.2) hr2]
    simp only[vBin_add,w1]
    refine hyes G3 hgp (λi hi=>?_) ?_
    ·have:=hb i hi
     have:=(hAu i).1
     unfold ordH at *
     unfold heldG;omega
    ·have e:=Rows2.congr (h:=h) (qh:=qh) (ql:=ql) (n:=n) (hd:=λi=>ordH hd (S.bk gd).l i+needA A i) (hd':=λi=>hd i+heldG S i gd) (lk:=λi j=>if j=gd then lockG S i gd else lk i j) (lk':=λi j=>if j=gd then lockG S i gd else lk i j)
      (λi hi=>by have:=(hAu i).1;unfold ordH heldG;omega) (λ_ _ _ _=>rfl)
     rw[<-e];exact H4
end
end Go.Pw
set_option linter.unusedSimpArgs false
set_option linter.unusedVariables false
namespace Go.Pw
open Go Go.Proofs
set_option maxRecDepth 100000 in
theorem arr4_neq {K:Value->Prop} (a0 a1 a2 a3 b0 b1 b2 b3:Int):vBin Tryz.prog .neq 59 (.agg #[.int .i64 a0,.int .i64 a1,.int .i64 a2,.int .i64 a3]) (.agg #[.int .i64 b0,.int .i64 b1,.int .i64 b2,.int .i64 b3]) K ↔
  K (.bool (!(decide (a0=b0)&&(decide (a1=b1)&&(decide (a2=b2)&&decide (a3=b3)))))):=by
 refine vBin_run λx y w=>?_
 have hg:=run_eqGuard_agg (P:=Tryz.prog) w .neq 59 x y #[.int .i64 a0,.int .i64 a1,.int .i64 a2,.int .i64 a3] #[.int .i64 b0,.int .i64 b1,.int .i64 b2,.int .i64 b3] (by kernel_rfl)
 rw[Sem.run_bind,hg]
 show (binOp .neq 59 _ _).run Tryz.prog w=_
 rw[run_neq_struct,show (10000:Nat)=9998+2 from rfl,eq_i4]
 rfl
section
variable {h g:PH} {R:AEnd->PH->Prop} {qh ql n gd x:Nat} {hd:Nat->Int} {lk:Nat->Nat->Int} {nm:Nm} {S:Hs}
theorem acct_6 (L:Led) (i:Nat):(acctCells L i).extract 6 (6+4)=#[.int .i64 (L.f i 6),.int .i64 (L.f i 7),.int .i64 (L.f i 8),.int .i64 (L.f i 9)]:=rfl
theorem lkC_ext {f:Nat->Nat->Int} {n i:Nat} (hi:i<n):(lkC f n).extract (i*4) (i*4+4)=#[.int .i64 (f i 0),.int .i64 (f i 1),.int .i64 (f i 2),.int .i64 (f i 3)]:=by
 apply Array.ext_getElem?
 intro j
 rw[Array.getElem?_extract,lkC_size]
 rcases Nat.lt_or_ge j 4 with hj | hj
 ·rw[if_pos (by omega),lkC_at hi hj]
  match j,hj with
  | 0,_=>rfl
  | 1,_=>rfl
  | 2,_=>rfl
  | 3,_=>rfl
 ·rw[if_neg (by omega),Array.getElem?_eq_none (by simpa using hj)]
theorem sSame_round {i:Nat} {Kp:List PanicEntry->PH->Prop} {x6 xr:Value->PH->Prop} {q:Value} {kn:(Value×Value×Value×Value)->(Value×Value)->PH->Prop}
  (Hx:HsN x nm S h) (hp:S.pre) (hn:S.L.n=n) (hi:i<n) (H:Rows2 h qh ql n hd lk g)
  (hno:∀G,Sub h G->¬(S.L.f i 1=hd i/\∀j,j<4->S.L.f i (6+j)=lk i j)->xr (.bool false) G)
  (hyes:∀G,(S.L.f i 1=hd i/\∀j,j<4->S.L.f i (6+j)=lk i j)->Rows2 h qh ql n hd lk G->kn (ptr x,.slice (some ⟨qh,0,none⟩) n n,.slice (some ⟨ql,0,none⟩) n n,.int .i64 n) (q,.int .i64 ((i:Int)+1)) G) :
  b56_32 Kp x6 xr (ptr x,.slice (some ⟨qh,0,none⟩) n n,.slice (some ⟨ql,0,none⟩) n n,.int .i64 n) kn (q,.int .i64 i) g:=by
 unfold b56_32
 have hcl:=hp.led.cl
 have hlt:(i:Int)<(n:Int):=by omega
 simp only[vBin_lss,hlt,decide_true,dIf_b,vNil_p,vFA_p]
 refine⟨λ_=>?_,λe=>absurd e (by simp)⟩
 have F:=(HsN.mono _ _ H.sub Hx).f
 rw[vLoad_1 F.hx (show (hsHd nm S)[0]?=some (ptr nm.l)from rfl)]
 refine acct_ok F.hl (by omega) ?_
 simp only[AEnd.elim,vExt_20,vExt_21]
 refine vNew_i λc hc=>?_
 refine vStore_to (cs:=acctCells S.L i) (ins_eq _ _ _) (by rfl) (by rfl) (by rfl) ?_
 rw[ins_ins]
 have H1:=Rows2.mono _ _ (sub_ins (.cells (acctCells S.L i) 61 (0,0)) hc) H
 have hcc:ins g c (.cells (acctCells S.L i) 61 (0,0)) c=some (.cells (acctCells S.L i) 61 (0,0)):=ins_eq _ _ _
 revert H1 hcc
 generalize ins g c (.cells (acctCells S.L i) 61 (0,0))=G
 intro H1 hcc
 have y1:=λK=>vLoad_1 (K:=K) hcc (show (acctCells S.L i)[1]?=some (.int .i64 (S.L.f i 1))from rfl)
 have y6:=λK=>vLoad_n (K:=K) hcc (off:=6) (n:=4) (by show 6+4<=10;omega)
 rw[acct_6]at y6
 have ix:∀K:Value->Prop,vIxS 1 (.slice (some ⟨qh,0,none⟩) n n) (.int .i64 i) K↔K (.pointer (some ⟨qh,i,none⟩)):=nb_ix i rfl hi
 have ixl:∀K:Value->Prop,vIxS 4 (.slice (some ⟨ql,0,none⟩) n n) (.int .i64 i) K↔K (.pointer (some ⟨ql,i*4,none⟩)):=λK=>by
  rw[vIxS_p]
  simp only[Int.toNat_natCast,Nat.zero_add]
  constructor
  ·exact λH=>H.2.2
  ·exact λH=>⟨by omega,by omega,H⟩
 have rl:=λK=>row_ld (K:=K) H1.gh hi
 have ll:=λK=>vLoad_n (K:=K) H1.gl (off:=i*4) (n:=4) (by rw[lkC_size];omega)
 rw[lkC_ext hi]at ll
 have w1:IntKind.i64.wrap ((i:Int)+1)=(i:Int)+1:=w64 (by omega) (by omega)
 by_cases c1:S.L.f i 1=hd i
 case' neg=>
  have:=hno G H1.sub λe=>c1 e.1
  simp[-vIxS_p,y1,ix,rl,c1,this]
 have hl4:(decide (S.L.f i 6=lk i 0)&&(decide (S.L.f i 7=lk i 1)&&(decide (S.L.f i 8=lk i 2)&&decide (S.L.f i 9=lk i 3))))=true↔∀j,j<4->S.L.f i (6+j)=lk i j:=by
  simp only[Bool.and_eq_true,decide_eq_true_eq]
  constructor
  ·rintro⟨h0,h1,h2,h3⟩ j hj
   match j,hj with
   | 0,_=>exact h0
   | 1,_=>exact h1
   | 2,_=>exact h2
   | 3,_=>exact h3
  ·exact λh=>⟨h 0 (by omega),h 1 (by omega),h 2 (by omega),h 3 (by omega)⟩
 have na:=λK=>arr4_neq (K:=K) (S.L.f i 6) (S.L.f i 7) (S.L.f i 8) (S.L.f i 9) (lk i 0) (lk i 1) (lk i 2) (lk i 3)
 revert hl4 na
 generalize (decide (S.L.f i 6=lk i 0)&&(decide (S.L.f i 7=lk i 1)&&(decide (S.L.f i 8=lk i 2)&&decide (S.L.f i 9=lk i 3))))=t
 intro hl4 na
 cases t with
 | false=>
  have:=hno G H1.sub λe=>absurd (hl4.2 e.2) (by simp)
  simp[-vIxS_p,y1,ix,rl,c1,y6,ixl,ll,na,this]
 | true=>
  have:=hyes G ⟨c1,hl4.1 rfl⟩ H1
  simp[-vIxS_p,y1,ix,rl,c1,y6,ixl,ll,na,w1,this]
theorem h_sound (Hx:HsN x nm S h) (hnm:nm.ok S) (hp:S.pre) (hno:¬(S.ok/\Snd S)->R (.ret (.bool false)) h) (hyes:S.ok->Snd S->R (.ret (.bool true)) h):ACalls Tryz.prog 56 #[ptr x] h R:=by
 refine ACalls.drop (call56 ?_)
 unfold sh56
 obtain⟨n,hn⟩:∃n,S.L.n=n:=⟨_,rfl⟩
 have hcl:=hp.led.cl
 have hgG:=hp.g
 have F:=Hx.f
 have f1:=λg (hs:Sub h g) K=>vLoad_1 (K:=K) (hs _ _ F.hx) (show (hsHd nm S)[1]?=some (.int .i64 S.L.n)from rfl)
 have f2:=λg (hs:Sub h g) K=>vLoad_1 (K:=K) (hs _ _ F.hx) (show (hsHd nm S)[2]?=some (.int .i64 S.L.goods)from rfl)
 rw[hn]at f1
 simp only[vNil_p,vFA_p,Nat.zero_add,f1 h (Sub.refl h)]
 refine⟨_,_,_,_,rfl,rfl,by omega,by omega,by omega,by omega,λqh hqh=>?_⟩
 simp only[Int.toNat_natCast,row_zero]
 rw[f1 _ (sub_ins _ hqh)]
 refine⟨_,_,_,_,rfl,rfl,by omega,by omega,by omega,by omega,λql hql=>?_⟩
 simp only[Int.toNat_natCast,lkC_zero]
 obtain⟨hql1,hqlh⟩:=fresh_of hql
 have H0:Rows2 h qh ql n (λ_=>0) (λ_ _=>0) (ins (ins h qh (rowO (λ_=>0) n)) ql (lkO (λ_ _=>0) n)):=by
  unfold Rows2
  have e:∀P Q S:PH->Prop,P•Q•S=Q•(P•S):=λ_ _ _=>by ac_rfl
  rw[e]
  exact pt_new hql (pt_new hqh (Sub.refl h))
 revert H0
 generalize ins (ins h qh (rowO (λ_=>0) n)) ql (lkO (λ_ _=>0) n)=g0
 intro H0
 rw[f2 g0 H0.sub,hgG.1]
 refine lf_intro (λm s' g=>∃gd:Nat,s'=(.bool false,.int .i64 gd)/\m=S.G-gd/\gd<=S.G/\(∀k,k<gd->goodP S n k)/\(∀i,i<n->sumN (heldG S i) gd<=1099511627776)/\Rows2 h qh ql n (λi=>sumN (heldG S i) gd) (λi j=>if j<gd then lockG S i j else 0) g) S.G
  ⟨0,rfl,rfl,by omega,λk hk=>absurd hk (by omega),λi hi=>by simp[sumN],by
   have e:=Rows2.congr (h:=h) (qh:=qh) (ql:=ql) (n:=n) (hd:=λ_=>0) (hd':=λi=>sumN (heldG S i) 0) (lk:=λ_ _=>0) (lk':=λi j=>if j<0 then lockG S i j else 0) (λi hi=>rfl) (λi j hi hj=>by simp)
   rw[<-e];exact H0⟩ ?_
 rintro m s' g ⟨gd,rfl,rfl,hgd,hall,hmx,H⟩
 have badR:∀(G:PH),Sub h G->¬(S.ok/\Snd S)->∃g,Sub g G/\R (.ret (.bool false)) g:=λG hs hb=>⟨h,hs,hno hb⟩
 by_cases hin:gd<S.G
 ·refine sGood_ok Hx hnm hp hn hin H (λi hi=>⟨sumN_nn gd λk hk=>heldG_nnp hp (by omega),hmx i hi⟩) (λi hi=>if_neg (by omega)) (λG hs hb=>?_) λG hgp hb HG=>?_
  ·intro r hr
   rw[show r 2=Value.bool false from congrArg (·.2.1) hr]
   refine badR G hs λ⟨hk,hsd⟩=>?_
   obtain⟨i,hi,h1⟩:=hb ⟨λo ho=>⟨by rw[<-hn];exact hk.own gd hin o ho,hsd.ids gd hin o ho⟩,λA w ha=>⟨(hk.au gd A w hin ha).2.1,hsd.sel gd A w hin ha,by rw[<-hn];exact (hk.au gd A w hin ha).2.2.1⟩⟩
   have:=heldS_le (i:=i) (k:=gd+1) hp hsd (by omega) (by omega)
   simp only[sumN]at this
   omega
  ·refine⟨rfl,S.G-(gd+1),by omega,gd+1,rfl,rfl,by omega,λk hk=>?_,λi hi=>hb i hi,?_⟩
   ·rcases Nat.lt_or_ge k gd with h1 | h1
    ·exact hall k h1
    ·have:k=gd:=by omega
     subst this;exact hgp
   ·have e:=Rows2.congr (h:=h) (qh:=qh) (ql:=ql) (n:=n) (hd:=λi=>sumN (heldG S i) gd+heldG S i gd) (hd':=λi=>sumN (heldG S i) (gd+1)) (lk:=λi j=>if j=gd then lockG S i gd else if j<gd then lockG S i j else 0) (lk':=λi j=>if j<gd+1 then lockG S i j else 0) (λi hi=>rfl) (λi j hi hj=>by
     by_cases e1:j=gd
     ·subst e1;simp
     ·by_cases e2:j<gd
      ·simp[e1,e2];intro;omega
      ·simp[e1,e2];intro;omega)
    rw[<-e];exact HG
 ·have e:gd=S.G:=by omega
  subst e
  unfold b56_4
  simp
  intro r hr
  rw[show r 0=ptr x from congrArg (·.1) hr,show r 2=Value.bool false from congrArg (·.2.1) hr,show r 3=Value.slice (some ⟨qh,0,none⟩) n n from congrArg (·.2.2.1) hr,show r 4=Value.slice (some ⟨ql,0,none⟩) n n from congrArg (·.2.2.2) hr]
  simp only[vLenS_s]
  refine lf_intro (λm s' g=>∃i:Nat,s'=(.bool false,.int .i64 i)/\m=n-i/\i<=n/\(∀k,k<i->S.L.f k 1=heldW S k/\∀j,j<4->S.L.f k (6+j)=(if j<S.G then lockG S k j else 0))/\Rows2 h qh ql n (λi=>sumN (heldG S i) S.G) (λi j=>if j<S.G then lockG S i j else 0) g) n
   ⟨0,rfl,rfl,by omega,λk hk=>absurd hk (by omega),H⟩ ?_
  rintro m s' g2 ⟨i,rfl,rfl,hi,hfs,H2⟩
  by_cases hin2:i<n
  ·refine sSame_round Hx hp hn hin2 H2 (λG hs hb=>?_) λG hb HG=>?_
   ·intro r2 hr2
    rw[show r2 2=Value.bool false from hr2]
    refine badR G hs λ⟨hk,hsd⟩=>hb ⟨hsd.held i (by omega),λj hj=>hsd.lock i j (by omega) hj⟩
   ·refine⟨rfl,n-(i+1),by omega,i+1,rfl,rfl,by omega,λk hk=>?_,HG⟩
    rcases Nat.lt_or_ge k i with h1 | h1
    ·exact hfs k h1
    ·have:k=i:=by omega
     subst this;exact hb
  ·have e:i=n:=by omega
   subst e
   unfold b56_32
   simp
   intro r2 hr2
   refine⟨h,H2.sub,hyes ⟨hp.led,hp.n1,hp.bk,λk hk o ho=>by rw[hn];exact ((hall k hk).1 o ho).1,λk A w hk ha=>?_,hp.now⟩ ⟨λk hk=>(hfs k (by omega)).1,λk j hk hj=>(hfs k (by omega)).2 j hj,λk hk o ho=>((hall k hk).1 o ho).2,λk A w hk ha=>((hall k hk).2 A w ha).2.1⟩⟩
   obtain⟨a1,a2,a3⟩:=hp.au k A w hk ha
   obtain⟨b1,b2,b3⟩:=(hall k hk).2 A w ha
   exact⟨a1,b1,by rw[hn];exact b3,a2,a3⟩
end
end Go.Pw
set_option linter.unusedSimpArgs false
set_option linter.unusedVariables false
namespace Go.Pw
open Go Go.Proofs
theorem encL_uniq:∀{N M:List Int},NumL N->NumL M->encL N=encL M->N=M
 | [],[],_,_,_=>rfl
 | [],b::M,_,_,h=>by
  simp only[encL,List.flatMap_cons,List.flatMap_nil]at h
  exact absurd h.symm (by simp[encN_ne])
 | a::N,[],_,_,h=>by
  simp only[encL,List.flatMap_cons,List.flatMap_nil]at h
  exact absurd h (by simp[encN_ne])
 | a::N,b::M,h1,h2,h=>by
  simp only[encL,List.flatMap_cons]at h
  obtain⟨e1,e2⟩:=encN_inj _ _ _ _ h
  have a1:=h1 a (by simp)
  have a2:=h2 b (by simp)
  rw[show a=b by omega,encL_uniq (λx hx=>h1 x (by simp[hx])) (λx hx=>h2 x (by simp[hx])) e2]
theorem bk_same {B C:Bk} (hB:B.ok) (hC:C.ok) (h:bkB B=bkB C):B=C:=by
 have e:bkNums B B.l.length=bkNums C C.l.length:=encL_uniq (bkNums_bd hB) (bkNums_bd hC) (by rw[bkB_nums h,bkB_nums rfl])
 obtain⟨a1,a2,a3,a4⟩:=bk_nums hB e
 obtain⟨b1,b2,b3,b4⟩:=bk_nums hC rfl
 have hl:B.l.length=C.l.length:=by omega
 have t1:=bk_to hB e B.l.length (Nat.le_refl _)
 have t2:=bk_to hC rfl C.l.length (Nat.le_refl _)
 rw[List.take_length]at t1 t2
 rw[hl,t2]at t1
 obtain⟨x,y⟩:=B
 obtain⟨z,w⟩:=C
 simp only at *
 rw[<-t1,<-a2,b2]
def aucLike (A B:Auc):Prop:=(∀bb,aucHd A bb=aucHd B bb)/\bidCells A=bidCells B
theorem auc_same {A B:Auc} (hA:A.ok) (hB:B.ok) (h:aucB A=aucB B):aucLike A B:=by
 have e:aucNums A A.n=aucNums B B.n:=encL_uniq (aucNums_bd hA _ (Nat.le_refl _)) (aucNums_bd hB _ (Nat.le_refl _)) (by rw[aucB_nums h,aucB_nums rfl])
 obtain⟨a1,a2,a3,a4,a5,a6,a7,a8⟩:=auc_nums e
 obtain⟨b1,b2,b3,b4,b5,b6,b7,b8⟩:=auc_nums (A:=B) rfl
 have hn:A.n=B.n:=by omega
 have w:∀i,i<A.n->A.was i=B.was i/\A.now i=B.now i:=λi hi=>by
  obtain⟨x1,x2⟩:=a8 i hi
  obtain⟨y1,y2⟩:=b8 i (by omega)
  exact⟨x1.symm.trans y1,x2.symm.trans y2⟩
 refine⟨λbb=>?_,?_⟩
 ·unfold aucHd
  rw[<-a2,b2,<-a3,b3,<-a4,b4,<-a5,b5,<-a6,b6,hn]
 ·apply Array.ext_getElem?
  intro k
  rcases Nat.lt_or_ge k (A.n*2)with hk | hk
  ·rw[bidCells_at A k hk,bidCells_at B k (by omega)]
   unfold bidCell
   obtain⟨x1,x2⟩:=w (k/2) (by omega)
   rw[x1,x2]
  ·rw[Array.getElem?_eq_none (by rw[bidCells_size];exact hk),Array.getElem?_eq_none (by rw[bidCells_size];omega)]
theorem AucAt.like {h:PH} {a bb:Nat} {A B:Auc} (hA:AucAt h a bb A) (hl:aucLike A B):AucAt h a bb B:=⟨by rw[<-hl.1 bb];exact hA.ha,by rw[<-hl.2];exact hA.hb⟩
def auLike (a b:Option (Auc×Int)):Prop:=(a=none/\b=none)\/∃A B w,a=some (A,w)/\b=some (B,w)/\aucLike A B
section
variable {h g:PH} {x:Nat} {nm:Nm} {S T:Hs} {C:PH->Prop}
theorem HsN.like (H:(HsN x nm S•C) h) (hL:Like S.L T.L) (hb:∀k,k<S.G->S.bk k=T.bk k) (ha:∀k,k<S.G->auLike (S.au k) (T.au k)) (hnow:S.now=T.now):(HsN x nm T•C) h:=by
 have eG:T.G=S.G:=by unfold Hs.G;rw[hL.g]
 refine sep_mono H (λg hg=>?_) λ_ h=>h
 unfold HsN at hg ⊢
 have e1:hsO nm T=hsO nm S:=by unfold hsO hsHd;rw[eG,hL.g,hL.n,hnow]
 have e2:saO nm T=saO nm S:=by
  unfold saO
  have:saleC nm T=saleC nm S:=by
   apply Array.ext_getElem?
   intro k
   rcases Nat.lt_or_ge k (S.G*2)with hk | hk
   ·rw[saleC_at (S:=T) (by omega),saleC_at hk]
    rcases ha (k/2) (by omega)with⟨x1,x2⟩ | ⟨A,B,w,x1,x2,_⟩
    ·unfold saleP saleW;rw[x1,x2]
    ·unfold saleP saleW;rw[x1,x2]
   ·rw[Array.getElem?_eq_none (by rw[saleC_size];omega),Array.getElem?_eq_none (by rw[saleC_size];exact hk)]
  rw[this]
 have e3:stars (bkP nm T) S.G=stars (bkP nm S) S.G:=stars_congr _ λk hk=>by unfold bkP;rw[hb k hk]
 rw[e1,e2,eG,e3]
 refine sep_mono hg (λ_ h=>h) λ_ h=>sep_mono h (λ_ h=>LedAt.like h hL) λ_ h=>sep_mono h (λ_ h=>h) λ_ h=>sep_mono h (λ_ h=>h) λ_ h=>sep_mono h (λ_ h=>h) λg2 h2=>?_
 have key:∀n,n<=S.G->∀g,stars (auP nm S) n g->stars (auP nm T) n g:=λn=>by
  induction n with
  | zero=>intro _ g hg;exact hg
  | succ n ih=>
   intro hn g hg
   unfold stars at hg ⊢
   refine sep_mono hg (λ_ h=>ih (by omega) _ h) λ_ h=>?_
   rcases ha n (by omega)with⟨x1,x2⟩ | ⟨A,B,w,x1,x2,x3⟩
   ·unfold auP at h ⊢;rw[x1]at h;rw[x2];exact h
   ·unfold auP at h ⊢;rw[x1]at h;rw[x2];exact AucAt.like h x3
 exact key _ (Nat.le_refl _) _ h2
theorem HsN.ledP {l lb:Nat} {L:Led} (H:(LedP l lb L•HsN x nm S•C) h) (hg:L.goods=S.L.goods) (hn:L.n=S.L.n):(HsN x {nm with l:=l,lb:=lb} (S.setL L)•C) (ins h x (hsO {nm with l:=l,lb:=lb} (S.setL L))):=by
 have eG:(S.setL L).G=S.G:=by unfold Hs.G Hs.setL;rw[hg]
 have e:∀(P P1 P2 P3 P4 P5 P6 C:PH->Prop),P•(P1•P2•P3•P4•P5•P6)•C=P1•P•(P2•((P3•P4•P5•P6)•C)):=λ_ _ _ _ _ _ _ _=>by ac_rfl
 have e':∀(P1 P2 P3 P4 P5 P6 C:PH->Prop),(P1•P2•P3•P4•P5•P6)•C=P1•P2•((P3•P4•P5•P6)•C):=λ_ _ _ _ _ _ _=>by ac_rfl
 unfold HsN at H ⊢
 rw[e]at H
 rw[e']
 have h2:saO {nm with l:=l,lb:=lb} (S.setL L)=saO nm S:=by unfold saO saleC;rw[eG];rfl
 rw[h2,eG]
 have H2:=pt_put (p:=hsO {nm with l:=l,lb:=lb} (S.setL L)) H
 exact sep_mono H2 (λ_ h=>h) λ_ hh=>sep_mono hh (λ_ h=>h) λ_ h3=>sep_r (mono_sep _ _) h3
theorem HsN.bookP {i b:Nat} {B:Bk} (hi:i<S.G) (H:(BkP b B•HsN x nm S•C) h) :
  (HsN x {nm with cb:=nm.cb.setIfInBounds i (ptr b),ba:=λk=>if k=i then b else nm.ba k} (S.setBk i B)•C) (ins h nm.bs (.cells (nm.cb.setIfInBounds i (ptr b)) 93 (0,0))):=by
 have e:∀(P P1 P2 P3 P4 P5 P6 C:PH->Prop),P•(P1•P2•P3•P4•P5•P6)•C=P3•(P•P5)•((P1•P2•P4•P6)•C):=λ_ _ _ _ _ _ _ _=>by ac_rfl
 have e':∀(P1 P2 P3 P4 P5 P6 C:PH->Prop),(P1•P2•P3•P4•P5•P6)•C=P3•P5•((P1•P2•P4•P6)•C):=λ_ _ _ _ _ _ _=>by ac_rfl
 unfold HsN at H ⊢
 rw[e]at H
 rw[e']
 have eG:(S.setBk i B).G=S.G:=rfl
 have H2:=pt_put (p:=.cells (nm.cb.setIfInBounds i (ptr b)) 93 (0,0)) H
 refine sep_mono H2 (λ_ h=>h) λ_ hh=>sep_mono hh (λg hg=>?_) λ_ h=>h
 rw[eG,stars_get hi BkP.mono]
 rw[stars_get hi BkP.mono]at hg
 have h1:bkP {nm with cb:=nm.cb.setIfInBounds i (ptr b),ba:=λk=>if k=i then b else nm.ba k} (S.setBk i B) i=BkP b B:=by unfold bkP Hs.setBk;simp
 have h2:upA (bkP {nm with cb:=nm.cb.setIfInBounds i (ptr b),ba:=λk=>if k=i then b else nm.ba k} (S.setBk i B)) i emp=upA (bkP nm S) i emp:=by
  funext k
  unfold upA
  split
  ·rfl
  ·rename_i hne;unfold bkP Hs.setBk;simp[hne]
 rw[h1,h2]
 exact sep_mono hg (λ_ h=>h) λ_ h=>sep_r (mono_stars _ _) h
theorem nm_bookP {i b:Nat} {B:Bk} (hn:nm.ok S) (hi:i<S.G):Nm.ok {nm with cb:=nm.cb.setIfInBounds i (ptr b),ba:=λk=>if k=i then b else nm.ba k} (S.setBk i B):=by
 refine⟨λk hk=>?_,hn.cap⟩
 have hk:k<S.G:=hk
 show (nm.cb.setIfInBounds i (ptr b))[k]?=some (ptr (if k=i then b else nm.ba k))
 have hs:=(Array.getElem?_eq_some_iff.1 (hn.cb i hi)).1
 by_cases e:k=i
 ·subst e;rw[if_pos rfl,Array.getElem?_setIfInBounds_self_of_lt hs]
 ·rw[if_neg e,Array.getElem?_setIfInBounds_ne (λh=>e h.symm)];exact hn.cb k hk
theorem led_new {l lb:Nat} {L:Led} (ha:h l=none) (hb:h lb=none) (hs:Sub h g) (hL:LedAt g l lb L) (hC:C h):(LedP l lb L•C) g:=by
 refine⟨ins (one lb (.cells (ledCells L) 132 (0,0))) l (.cells #[.int .i64 L.goods,.slice (some ⟨lb,0,none⟩) L.n L.n] 149 (0,0)),h,λx hx=>?_,λx p hp=>?_,hs,⟨ins_eq _ _ _,?_,hL.ne⟩,hC⟩
 ·by_cases e:x=l
  ·rw[e];exact ha
  ·rw[ins_ne _ _ e]at hx
   by_cases e2:x=lb
   ·rw[e2];exact hb
   ·exact absurd (by unfold one;rw[ins_ne _ _ e2]) hx
 ·by_cases e:x=l
  ·subst e;rw[ins_eq]at hp;cases hp;exact hL.hx
  ·rw[ins_ne _ _ e]at hp
   exact one_sub hL.hb x p hp
 ·rw[ins_ne _ _ (λe=>hL.ne e.symm)];exact ins_eq _ _ _
end
section
variable {h:PH}
theorem RecsAt.slice {v:Value} {l:List Rec} (hv:RecsAt h v l) {lo hi:Nat} (hlh:lo<=hi) (hhl:hi<=l.length) {vlo vhi:Option Value} (e1:vlo=some (.int .i64 lo)\/(vlo=none/\lo=0)) (e2:vhi=some (.int .i64 hi)\/(vhi=none/\hi=l.length)) {K:Value->Prop}
  (hk:∀v',RecsAt h v' ((l.take hi).drop lo)->K v'):vSl 2 vlo vhi v K:=by
 obtain⟨p,cap,rfl,hcap,hel⟩:=hv
 refine⟨p,l.length,cap,rfl,?_⟩
 have hlen:((l.take hi).drop lo).length=hi-lo:=by rw[List.length_drop,List.length_take];omega
 have fin:K (.slice (if cap=lo then p else p.map (·.add (lo*2))) (hi-lo) (cap-lo)):=by
  refine hk _ ⟨if cap=lo then p else p.map (·.add (lo*2)),cap-lo,by rw[hlen],by rw[hlen];omega,λi a ha=>?_⟩
  have hi2:=(List.getElem?_eq_some_iff.1 ha).1
  rw[hlen]at hi2
  rw[List.getElem?_drop,List.getElem?_take,if_pos (by omega)]at ha
  obtain⟨b,off,c,e,fr,rfl,q1,q2,q3⟩:=hel (lo+i) a ha
  rw[if_neg (by omega)]
  refine⟨b,off+lo*2,c,e,fr,by simp[Addr.add],q1,by omega,?_⟩
  rw[show off+lo*2+i*2=off+(lo+i)*2 by omega]
  exact q3
 have mid:intBetween vlo 0 hi 0 λl=>K (.slice (if cap=l then p else p.map (·.add (l*2))) (hi-l) (cap-l)):=by
  rcases e1 with rfl | ⟨rfl,rfl⟩
  ·exact⟨.i64,lo,rfl,by omega,by omega,by rw[Int.toNat_natCast];exact fin⟩
  ·exact fin
 rcases e2 with rfl | ⟨rfl,rfl⟩
 ·exact⟨.i64,hi,rfl,by omega,by omega,by rw[Int.toNat_natCast];exact mid⟩
 ·exact mid
end
end Go.Pw
set_option linter.unusedSimpArgs false
set_option linter.unusedVariables false
namespace Go.Pw
open Go Go.Proofs
section
variable {h g:PH} {x:Nat} {nm:Nm} {S:Hs} {C:PH->Prop}
theorem RecsAt.at_ {v:Value} {l:List Rec} (hv:RecsAt h v l) {i:Nat} {a:Rec} (ha:l[i]?=some a):∃b o,(∀K,vIxS 2 v (.int .i64 i) K↔K (.pointer (some ⟨b,o,none⟩)))/\∀G,Sub h G->(∀K,vLoad none (.pointer (some ⟨b,o,none⟩)) G K↔K (.string a.1))/\∀K,vLoad none (.pointer (some ⟨b,o+1,none⟩)) G K↔K (.string a.2):=by
 obtain⟨p,cap,rfl,hcap,hel⟩:=hv
 obtain⟨b,off,c,e,fr,rfl,hb,hs,he⟩:=hel i a ha
 have hi:=(List.getElem?_eq_some_iff.1 ha).1
 have hc0:c[off+i*2]?=some (.string a.1):=by
  have h1:(c.extract (off+i*2) (off+i*2+2))[0]?=some (.string a.1):=by rw[he];rfl
  rw[Array.getElem?_extract,if_pos (by omega)]at h1
  exact h1
 have hc1:c[off+i*2+1]?=some (.string a.2):=by
  have h1:(c.extract (off+i*2) (off+i*2+2))[1]?=some (.string a.2):=by rw[he];rfl
  rw[Array.getElem?_extract,if_pos (by omega)]at h1
  exact h1
 refine⟨b,off+i*2,λK=>?_,λG hs=>⟨λK=>vLoad_1 (hs _ _ hb) hc0,λK=>vLoad_1 (hs _ _ hb) hc1⟩⟩
 rw[vIxS_p,show off+(i:Int).toNat*2=off+i*2 by omega]
 exact⟨λhh=>hh.2.2,λhh=>⟨by omega,by omega,hh⟩⟩
theorem ofBook_round {i:Nat} {a:Rec} {vr v0 v1:Value} {rest:List Rec} {Kp:List PanicEntry->PH->Prop} {x0 xr:(Value×Value×Value×Value×Value×Value)->PH->Prop} {kn:(Value×Value×Value×Value×Value)->(Value×Value×Value)->PH->Prop}
  (hv:RecsAt h vr rest) (ha:rest[i]?=some a) (hsz:a.2.size<4611686018427387000) (hi:i<S.G) (hG4:S.G<=4) (hn:nm.ok S) (H:(HsN x nm S•(λg=>Sub h g)) g)
  (hno:∀G,Sub h G->(¬∃B:Bk,B.ok/\a=(keyS bookK i,bkB B))->xr (v0,v1,vr,.pointer none,.int .i64 92,ptr x) G)
  (hyes:∀G nm' B,B.ok->a=(keyS bookK i,bkB B)->nm'.ok (S.setBk i B)->(HsN x nm' (S.setBk i B)•(λg=>Sub h g)) G->kn (v0,v1,vr,ptr x,.int .i64 S.G) (.pointer none,.int .i64 0,.int .i64 ((i:Int)+1)) G) :
  b28_11 Kp x0 xr (v0,v1,vr,ptr x,.int .i64 S.G) kn (.pointer none,.int .i64 0,.int .i64 i) g:=by
 unfold b28_11
 have hlt:(i:Int)<(S.G:Int):=by omega
 simp only[vBin_lss,hlt,decide_true,dIf_b]
 refine⟨λ_=>?_,λe=>absurd e (by simp)⟩
 have hsg:=sep_r (mono_sub h) H
 obtain⟨b,o,ix,ld⟩:=hv.at_ ha
 obtain⟨k0,k1⟩:=ld g hsg
 simp only[ix,vFA_p,Nat.add_zero,k1]
 have hw:IntKind.i64.wrap ((i:Int)+1)=(i:Int)+1:=w64 (by omega) (by omega)
 refine call_of hsz (λG hs hne=>?_) λB b2 G hB hbB HG hb0=>?_
 ·have hsG:=hsg.trans hs
  simp only[AEnd.elim,vExt_20,vExt_21,ix,vFA_p,Nat.add_zero,(ld G hsG).1]
  refine hkey_ok (p:=bookK) (by omega) (by simp[bookK]) ?_
  simp only[AEnd.elim,(ld G hsG).1]
  have:=hno G hsG λ⟨B,h1,h2⟩=>hne ⟨B,h1,by rw[h2]⟩
  by_cases ck:a.1=keyS bookK i
  ·simp[ck,this]
  ·simp[ck,this]
 ·have H2:(BkP b2 B•HsN x nm S•(λg=>Sub h g)) G:=sep_mono HG (λ_ h=>h) λ_ hs=>sep_sub H hs
  have hsG:=sep_r (mono_sub h) (sep_r (mono_sep _ _) H2)
  simp only[AEnd.elim,vExt_20,vExt_21,ix,vFA_p,Nat.add_zero,(ld G hsG).1]
  refine hkey_ok (p:=bookK) (by omega) (by simp[bookK]) ?_
  simp only[AEnd.elim,(ld G hsG).1]
  by_cases ck:a.1=keyS bookK i
  case' neg=>
   have:=hno G hsG λ⟨B,h1,h2⟩=>ck (by rw[h2])
   simp[ck,this]
  have F:=(sep_l HsN.mono (sep_r (mono_sep _ _) H2)).f
  have l4:=λK=>vLoad_1 (K:=K) F.hx (show (hsHd nm S)[4]?=some (.slice (some ⟨nm.bs,0,none⟩) S.G nm.bcap)from rfl)
  have hcs:=(Array.getElem?_eq_some_iff.1 (hn.cb i hi)).1
  have ixb:∀K:Value->Prop,vIxS 1 (.slice (some ⟨nm.bs,0,none⟩) S.G nm.bcap) (.int .i64 i) K↔K (.pointer (some ⟨nm.bs,i,none⟩)):=nb_ix i rfl hi
  have H3:=HsN.bookP hi H2
  have:=hyes _ _ B hB (Prod.ext ck hbB.symm) (nm_bookP (b:=b2) (B:=B) hn hi) H3
  simp[-vIxS_p,ck,l4,ixb]
  rw[vStore_1 F.hb hcs rfl,hw]
  exact this
theorem ofBooks {vr v0 v1:Value} {rest:List Rec} {Kp:List PanicEntry->PH->Prop} {x0 xr:(Value×Value×Value×Value×Value×Value)->PH->Prop}
  (hv:RecsAt h vr rest) (hsz:∀a∈rest,a.2.size<4611686018427387000) (hlen:S.G<=rest.length) (hG4:S.G<=4) (hn:nm.ok S) (hbk:∀k,k<S.G->(S.bk k).ok) (H:(HsN x nm S•(λg=>Sub h g)) g)
  (hno:∀G,Sub h G->(∃k,k<S.G/\¬∃B:Bk,B.ok/\rest[k]?=some (keyS bookK k,bkB B))->xr (v0,v1,vr,.pointer none,.int .i64 92,ptr x) G)
  (hyes:∀G nm' T,T.L=S.L->T.now=S.now->T.au=S.au->(∀k,k<S.G->(T.bk k).ok/\rest[k]?=some (bkR T k))->nm'.ok T->(HsN x nm' T•(λg=>Sub h g)) G->x0 (v0,v1,vr,.pointer none,.int .i64 0,ptr x) G) :
  lf (b28_11 Kp x0 xr) (v0,v1,vr,ptr x,Value.int .i64 S.G) (Value.pointer none,Value.int .i64 0,.int .i64 0) g:=by
 refine lf_intro (λm s' g=>∃(i:Nat) (nm':Nm) (T:Hs),s'=(.pointer none,.int .i64 0,.int .i64 i)/\m=S.G-i/\i<=S.G/\T.L=S.L/\T.now=S.now/\T.au=S.au/\(∀k,k<S.G->(T.bk k).ok)/\(∀k,k<i->rest[k]?=some (bkR T k))/\nm'.ok T/\(HsN x nm' T•(λg=>Sub h g)) g) S.G
  ⟨0,nm,S,rfl,rfl,by omega,rfl,rfl,rfl,hbk,λk hk=>absurd hk (by omega),hn,H⟩ ?_
 rintro m s' g ⟨i,nm',T,rfl,rfl,hi,e1,e2,e3,hb,hr,hn',HT⟩
 have eG:T.G=S.G:=by unfold Hs.G;rw[e1]
 by_cases hin:i<S.G
 ·obtain⟨a,ha⟩:∃a,rest[i]?=some a:=⟨_,List.getElem?_eq_getElem (by omega)⟩
  rw[<-eG]
  refine ofBook_round hv ha (hsz a (List.mem_of_getElem? ha)) (by omega) (by omega) hn' HT (λG hs hb=>hno G hs ⟨i,hin,λ⟨B,h1,h2⟩=>hb ⟨B,h1,by rw[ha]at h2;exact Option.some.inj h2⟩⟩) λG nm2 B hB hab hn2 HG=>?_
  rw[eG]
  refine⟨rfl,S.G-(i+1),by omega,i+1,nm2,T.setBk i B,rfl,rfl,by omega,e1,e2,e3,λk hk=>?_,λk hk=>?_,hn2,HG⟩
  ·show (if k=i then B else T.bk k).ok
   split
   ·exact hB
   ·exact hb k hk
  ·by_cases e:k=i
   ·subst e
    rw[ha,hab]
    unfold bkR Hs.setBk;simp
   ·rw[hr k (by omega)]
    unfold bkR Hs.setBk;simp[e]
 ·have e:i=S.G:=by omega
  subst e
  unfold b28_11
  simp
  exact hyes g nm' T e1 e2 e3 (λk hk=>⟨hb k hk,hr k hk⟩) hn' HT
end
end Go.Pw
set_option linter.unusedSimpArgs false
set_option linter.unusedVariables false
namespace Go.Pw
open Go Go.Proofs
def auV (A:Auc) (w:Int):ByteArray:=⟨(encN w.toNat++(aucB A).data.toList).toArray⟩
theorem ext_list (s:ByteArray) (k:Nat):(s.extract k s.size).data.toList=s.data.toList.drop k:=by
 rw[ByteArray.data_extract,Array.toList_extract,List.extract_eq_take_drop]
 apply List.take_of_length_le
 rw[List.length_drop,Array.length_toList]
 exact Nat.le_refl _
theorem ba_eq {s t:ByteArray} (h:s.data.toList=t.data.toList):s=t:=ByteArray.ext (Array.toList_inj.1 h)
section
variable {h g:PH} {x:Nat} {nm:Nm} {S:Hs} {C:PH->Prop}
theorem vBuild_sale {p:Addr} {n:Int} {K:Value->Prop} (hk:K (.agg #[.pointer (some p),.int .i64 n])):vBuild [(0,1),(1,1)] #[.pointer none,.int .i64 0] [(0,.pointer (some p)),(1,.int .i64 n)] K:=⟨_,by kernel_rfl,hk⟩
theorem sale_st {i a bb:Nat} {A:Auc} {w:Int} {K:PH->Prop} (hi:i<S.G) (ha:S.au i=none) (H:(AucP a bb A•HsN x nm S•C) g)
  (hk:(HsN x (nm.auc i a bb) (S.setAu i (some (A,w)))•C) (ins g nm.ss (saO (nm.auc i a bb) (S.setAu i (some (A,w)))))->K (ins g nm.ss (saO (nm.auc i a bb) (S.setAu i (some (A,w)))))) :
  vStore 2 (.pointer (some ⟨nm.ss,i*2,none⟩)) (.agg #[ptr a,.int .i64 w]) g K:=by
 have F:=(sep_l HsN.mono (sep_r (mono_sep _ _) H)).f
 refine (vStore_p (n:=2) F.hs rfl (by rw[saleC_size];omega) rfl).2 ?_
 have e1:saleP (nm.auc i a bb) (S.setAu i (some (A,w))) i=ptr a:=by unfold saleP Hs.setAu Nm.auc;simp
 have e2:saleW (S.setAu i (some (A,w))) i=w:=by unfold saleW Hs.setAu;simp
 have e:=saleC_set (nm:=nm) (S:=S) (nm':=nm.auc i a bb) (S':=S.setAu i (some (A,w))) hi rfl (λk hk=>by
  unfold saleP Hs.setAu Nm.auc;simp[hk]) (λk hk=>by unfold saleW Hs.setAu;simp[hk])
 rw[e1,e2]at e
 rw[show (Value.cells (.agg #[ptr a,.int .i64 w])).toList = [ptr a,.int .i64 w]from rfl,e]
 exact hk (HsN.offer hi ha H)
theorem ofSale_round {i c:Nat} {a:Rec} {cur:Value} {lc:List Rec} {Kp:List PanicEntry->PH->Prop} {x2 xr:(Value×Value×Value×Value)->PH->Prop} {kn:(Value×Value×Value)->(Value×Value×Value×Value)->PH->Prop}
  (hv:RecsAt h cur (a::lc)) (hsz:a.2.size<4611686018427387000) (hi:i<S.G) (hG4:S.G<=4) (hn:nm.ok S) (hau:S.au i=none) (H:(HsN x nm S•(λg=>Sub h g)) g)
  (hskip:∀G,¬(a.1=keyS clockK i/\0<lc.length)->(HsN x nm S•(λg=>Sub h g)) G->kn (.int .i64 c,ptr x,.int .i64 S.G) (cur,.pointer none,.int .i64 0,.int .i64 ((i:Int)+1)) G)
  (hno:∀G,Sub h G->a.1=keyS clockK i->0<lc.length->(¬∃A w,A.ok/\A.ste=0/\0<=w/\w<(c:Int)/\w<=9007199254740992/\a.2=auV A w)->xr (cur,.pointer none,.int .i64 92,ptr x) G)
  (hyes:∀G cur' nm' A w,a.1=keyS clockK i->0<lc.length->A.ok->0<=w->w<(c:Int)->a.2=auV A w->RecsAt h cur' lc->nm'.ok (S.setAu i (some (A,w)))->(HsN x nm' (S.setAu i (some (A,w)))•(λg=>Sub h g)) G ->
   kn (.int .i64 c,ptr x,.int .i64 S.G) (cur',.pointer none,.int .i64 0,.int .i64 ((i:Int)+1)) G) :
  b28_20 Kp x2 xr (.int .i64 c,ptr x,.int .i64 S.G) kn (cur,.pointer none,.int .i64 0,.int .i64 i) g:=by
 unfold b28_20
 have hlt:(i:Int)<(S.G:Int):=by omega
 simp only[vBin_lss,hlt,decide_true,dIf_b]
 refine⟨λ_=>?_,λe=>absurd e (by simp)⟩
 have hsg:=sep_r (mono_sub h) H
 obtain⟨b,o,ix,ld⟩:=hv.at_ (i:=0) (a:=a) rfl
 obtain⟨k0,k1⟩:=ld g hsg
 have hw:IntKind.i64.wrap ((i:Int)+1)=(i:Int)+1:=w64 (by omega) (by omega)
 have ix0:∀K:Value->Prop,vIxS 2 cur (.int .i64 0) K↔K (.pointer (some ⟨b,o,none⟩)):=ix
 simp only[ix0,vFA_p,Nat.add_zero,k0]
 refine hkey_ok (p:=clockK) (by omega) (by simp[clockK]) ?_
 simp only[AEnd.elim,k0]
 refine⟨trivial,?_⟩
 have hln:=λK=>hv.len (K:=K)
 simp only[List.length_cons]at hln
 by_cases ck:a.1=keyS clockK i
 case' neg=>
  simp[ck,hw]
  exact hskip g (λh=>ck h.1) H
 by_cases cl:0<lc.length
 case' neg=>
  have cl':¬(1:Int)<((lc.length+1:Nat):Int):=by omega
  have:=hskip g (λh=>cl h.2) H
  simp only[vBin_seq,ck,decide_true,boolOf_b,gq_b,hln,vBin_gtr,cl',decide_false,vPick_b,cond_true,dIf_b,vBin_add,hw]
  simp[this]
 have cl':(1:Int)<((lc.length+1:Nat):Int):=by omega
 have hno:=λG hs=>hno G hs ck cl
 simp only[vBin_seq,ck,decide_true,boolOf_b,gq_b,hln,vBin_gtr,cl',vPick_b,cond_true,dIf_b,ix0,vFA_p,k1,vBin_add,hw]
 simp only[ne_eq,not_true_eq_false,Bool.true_eq_false,reduceCtorEq,false_implies,true_implies,not_false_eq_true,forall_const,and_true,true_and]
 refine getInt_ok (by omega) ?_
 rw[if_neg (by omega)]
 have hdl:a.2.data.toList.drop 0=a.2.data.toList:=List.drop_zero
 cases hr:rdNum a.2.data.toList (0:Int).toNat with
 | bad e=>
  have he:e≠0:=rdN_bq _ _ _ _ hr
  have hne:¬∃A w,A.ok/\A.ste=0/\0<=w/\w<(c:Int)/\w<=9007199254740992/\a.2=auV A w:=by
   rintro⟨A,w,h1,h2,h3,h4,h5,h6⟩
   have:a.2.data.toList.drop 0=encN w.toNat++(aucB A).data.toList:=by rw[hdl,h6];rfl
   have:=rdNum_of this (by omega)
   rw[show (0:Int).toNat=0 from rfl,this]at hr
   cases hr
  simp only[AEnd.elim,vExt_30,vExt_31,vExt_32,k1]
  refine⟨a.2,rfl,⟨.i64,0,rfl,by omega,by omega,?_⟩⟩
  have hex:(a.2.extract 0 a.2.size).size<4611686018427387000:=by rw[ByteArray.size_extract];omega
  refine clock_of hex (λG hs _=>?_) λA a2 b2 G _ _ _ hs _ _=>?_
  ·have:=hno G (hsg.trans hs) hne
   simp[AEnd.elim,he,this]
  ·have:=hno G (hsg.trans hs) hne
   simp[AEnd.elim,he,this]
 | ok n next=>
  have hb:=rdN_lq _ _ _ _ _ _ hr
  rw[Array.length_toList]at hb
  have henc:=rdNum_enc hr
  rw[show (0:Int).toNat=0 from rfl,hdl]at henc
  simp only[AEnd.elim,vExt_30,vExt_31,vExt_32,k1]
  have hnx:next<=a.2.size:=hb.1
  refine⟨a.2,rfl,⟨.i64,next,rfl,by omega,by omega,?_⟩⟩
  rw[Int.toNat_natCast]
  have hex:(a.2.extract next a.2.size).size<4611686018427387000:=by rw[ByteArray.size_extract];omega
  have uniq:∀A w,A.ok->0<=w->a.2=auV A w->w=(n:Int)/\aucB A=a.2.extract next a.2.size:=λA w h1 h2 h3=>by
   have h4:a.2.data.toList=encN w.toNat++(aucB A).data.toList:=by rw[h3];rfl
   rw[henc]at h4
   obtain⟨e1,e2⟩:=encN_inj _ _ _ _ h4
   exact⟨by omega,ba_eq (by rw[ext_list];exact e2.symm)⟩
  refine clock_of hex (λG hs hne=>?_) λA a2 b2 G hA hAB hAt hs ha2 hb2=>?_
  ·have:=hno G (hsg.trans hs) (by
    rintro⟨A,w,h1,h2,h3,h4,h5,h6⟩
    exact hne ⟨A,h1,h2,(uniq A w h1 h3 h6).2⟩)
   simp[AEnd.elim,this]
  ·have hsG:=hsg.trans hs
   have H2:=auc_new (C:=HsN x nm S•(λg=>Sub h g)) ha2 hb2 hs hAt H
   by_cases hc:(c:Int)<=(n:Int)
   ·have:=hno G hsG (by
     rintro⟨A,w,h1,h2,h3,h4,h5,h6⟩
     have:=(uniq A w h1 h3 h6).1
     omega)
    simp[AEnd.elim,hc,this]
   ·have F:=(sep_l HsN.mono (sep_r (mono_sep _ _) H2)).f
    have l5:=λK=>vLoad_1 (K:=K) F.hx (show (hsHd nm S)[5]?=some (.slice (some ⟨nm.ss,0,none⟩) S.G S.G)from rfl)
    have ixs:∀K:Value->Prop,vIxS 2 (.slice (some ⟨nm.ss,0,none⟩) S.G S.G) (.int .i64 i) K↔K (.pointer (some ⟨nm.ss,i*2,none⟩)):=λK=>by
     rw[vIxS_p]
     simp only[Int.toNat_natCast,Nat.zero_add]
     constructor
     ·exact λH=>H.2.2
     ·exact λH=>⟨by omega,by omega,H⟩
    simp[-vIxS_p,AEnd.elim,hc,l5]
    refine vBuild_sale ?_
    rw[ixs]
    refine sale_st hi hau H2 λH3=>?_
    have hs3:=sep_r (mono_sub h) H3
    refine RecsAt.slice (hv) (lo:=1) (hi:=lc.length+1) (by omega) (by simp) (.inl rfl) (.inr ⟨rfl,by simp⟩) λv' hv'=>?_
    refine hyes _ v' (nm.auc i a2 b2) A n ck cl hA (by omega) (by omega) (ba_eq ?_) ?_ ⟨λk hk=>hn.cb k hk,hn.cap⟩ H3
    ·rw[henc]
     show _=encN (n:Int).toNat++(aucB A).data.toList
     rw[hAB,ext_list,Int.toNat_natCast]
    ·have e:((a::lc).take (lc.length+1)).drop 1=lc:=by
      rw[List.take_of_length_le (by simp)];rfl
     rw[e]at hv'
     exact hv'
end
end Go.Pw
set_option linter.unusedSimpArgs false
set_option linter.unusedVariables false
namespace Go.Pw
open Go Go.Proofs
def auFrom (S:Hs) (i:Nat):Nat->List Rec
 | 0=>[]
 | m+1=>auR S i++auFrom S (i+1) m
theorem auRs_from (S:Hs):∀m i,auRs S (i+m)=auRs S i++auFrom S i m
 | 0,i=>by simp[auFrom]
 | m+1,i=>by
  have:=auRs_from S m (i+1)
  rw[show i+(m+1)=i+1+m by omega,this]
  simp[auFrom,auRs]
theorem auRs_congr {S T:Hs}:∀k,(∀j,j<k->S.au j=T.au j)->auRs S k=auRs T k
 | 0,_=>rfl
 | k+1,h=>by
  unfold auRs
  rw[auRs_congr k λj hj=>h j (by omega)]
  unfold auR
  rw[h k (by omega)]
theorem keyS_inj {p:List UInt8} {i j:Nat} (hi:i<100) (hj:j<100) (h:keyS p i=keyS p j):i=j:=by
 have h1:(keyS p i).data.toList=(keyS p j).data.toList:=by rw[h]
 have h2:p ++ [UInt8.ofNat (48+i)]=p ++ [UInt8.ofNat (48+j)]:=h1
 have h3:=List.append_cancel_left h2
 have h4:UInt8.ofNat (48+i)=UInt8.ofNat (48+j):=by simpa using h3
 have h5:=congrArg UInt8.toNat h4
 rw[UInt8.toNat_ofNat',UInt8.toNat_ofNat']at h5
 omega
theorem auR_key {S:Hs} {i:Nat} {a:Rec} (h:a∈auR S i):a.1=keyS clockK i:=by
 unfold auR at h
 split at h
 ·simp at h;rw[h]
 ·cases h
theorem auFrom_key {S:Hs}:∀m i (a:Rec),a∈auFrom S i m->∃j,i<=j/\j<i+m/\a.1=keyS clockK j
 | 0,i,a,h=>by cases h
 | m+1,i,a,h=>by
  unfold auFrom at h
  rcases List.mem_append.1 h with h | h
  ·exact⟨i,by omega,by omega,auR_key h⟩
  ·obtain⟨j,h1,h2,h3⟩:=auFrom_key m (i+1) a h
   exact⟨j,by omega,by omega,h3⟩
theorem auR_some {S:Hs} {i:Nat} {A:Auc} {w:Int} (h:S.au i=some (A,w)):auR S i = [(keyS clockK i,auV A w)]:=by unfold auR;rw[h];rfl
theorem auR_none {S:Hs} {i:Nat} (h:S.au i=none):auR S i = []:=by unfold auR;rw[h]
theorem au_no {S:Hs} {i m:Nat} {a n:Rec} {t:List Rec} (him:i+1+m<=10) (h:a::t=auFrom S (i+1) m ++ [n]) (hk:a.1=keyS clockK i):t = []:=by
 cases hf:auFrom S (i+1) m with
 | nil=>
  rw[hf]at h
  simp at h
  exact h.2
 | cons b u=>
  rw[hf]at h
  simp only[List.cons_append,List.cons.injEq]at h
  obtain⟨j,h1,h2,h3⟩:=auFrom_key m (i+1) b (by rw[hf];simp)
  rw[h.1]at hk
  rw[h3]at hk
  have:=keyS_inj (by omega) (by omega) hk
  omega
theorem auV_inj {A B:Auc} {v w:Int} (h:auV A v=auV B w) (hv:0<=v) (hw:0<=w):v=w/\aucB A=aucB B:=by
 have h4:(auV A v).data.toList=(auV B w).data.toList:=by rw[h]
 obtain⟨e1,e2⟩:=encN_inj _ _ _ _ h4
 exact⟨by omega,ba_eq e2⟩
structure Tail (S:Hs) (c G:Nat) (l:List Rec):Prop where
 ok:S.ok
 n:S.L.n=c
 g:S.G=G
 l:l=auRs S G ++ [nowR S]
section
variable {h g:PH} {x:Nat} {nm:Nm} {S:Hs} {C:PH->Prop}
theorem ofSales {c:Nat} {cur:Value} {rest:List Rec} {Kp:List PanicEntry->PH->Prop} {x2 xr:(Value×Value×Value×Value)->PH->Prop}
  (hv:RecsAt h cur rest) (hsz:∀a∈rest,a.2.size<4611686018427387000) (hne:rest≠[]) (hG4:S.G<=4) (hn:nm.ok S) (hau:∀k,S.au k=none) (H:(HsN x nm S•(λg=>Sub h g)) g)
  (hno:∀G cur',Sub h G->(¬∃T,Tail T c S.G rest)->xr (cur',.pointer none,.int .i64 92,ptr x) G)
  (hyes:∀G nm' T cur' lc,T.L=S.L->T.now=S.now->T.bk=S.bk->(∀k A w,k<S.G->T.au k=some (A,w)->A.ok/\0<=w/\w<(c:Int))->RecsAt h cur' lc->lc≠[]->(∀a∈lc,a∈rest)->rest=auRs T S.G++lc ->
   (∀T0,Tail T0 c S.G rest->(∀k,k<S.G->auLike (T.au k) (T0.au k))/\lc = [nowR T0])->nm'.ok T->(HsN x nm' T•(λg=>Sub h g)) G->x2 (cur',.pointer none,.int .i64 0,ptr x) G) :
  lf (b28_20 Kp x2 xr) (Value.int .i64 c,ptr x,Value.int .i64 S.G) (cur,Value.pointer none,Value.int .i64 0,.int .i64 0) g:=by
 refine lf_intro (λm s' g=>∃(i:Nat) (nm':Nm) (T:Hs) (cur':Value) (lc:List Rec),s'=(cur',.pointer none,.int .i64 0,.int .i64 i)/\m=S.G-i/\i<=S.G/\T.L=S.L/\T.now=S.now/\T.bk=S.bk/\(∀k,i<=k->T.au k=none)/\(∀k A w,k<S.G->T.au k=some (A,w)->A.ok/\0<=w/\w<(c:Int))/\RecsAt h cur' lc/\lc≠[]/\(∀a∈lc,a∈rest)/\rest=auRs T i++lc /\
   (∀T0,Tail T0 c S.G rest->(∀k,k<i->auLike (T.au k) (T0.au k))/\lc=auFrom T0 i (S.G-i) ++ [nowR T0])/\nm'.ok T/\(HsN x nm' T•(λg=>Sub h g)) g) S.G
  ⟨0,nm,S,cur,rest,rfl,rfl,by omega,rfl,rfl,rfl,λk _=>hau k,λk A w _ h=>by rw[hau]at h;(cases h),hv,hne,λa h=>h,rfl,λT0 hT=>⟨λk hk=>absurd hk (by omega),by
   have:=auRs_from T0 S.G 0
   rw[Nat.zero_add]at this
   have h2:=hT.l
   rw[this]at h2
   exact h2⟩,hn,H⟩ ?_
 rintro m s' g ⟨i,nm',T,cur',lc,rfl,rfl,hi,e1,e2,e3,ha,hA,hv',hne',hsub,hrest,hall,hn',HT⟩
 have eG:T.G=S.G:=by unfold Hs.G;rw[e1]
 by_cases hin:i<S.G
 ·obtain⟨a,t,rfl⟩:∃a t,lc=a::t:=by
   cases lc with
   | nil=>exact absurd rfl hne'
   | cons a t=>exact⟨a,t,rfl⟩
  obtain⟨d,hd⟩:∃d,S.G-i=d+1:=⟨S.G-i-1,by omega⟩
  have hd2:S.G-(i+1)=d:=by omega
  rw[<-eG]
  refine ofSale_round hv' (hsz a (hsub a (by simp))) (by omega) (by omega) hn' (ha i (Nat.le_refl _)) HT (λG hskip HG=>?_) (λG hs hk hl hnone=>?_) λG cur2 nm2 A w hk hl hAo hw0 hwc hval hv2 hn2 HG=>?_
  ·rw[eG]
   refine⟨rfl,S.G-(i+1),by omega,i+1,nm',T,cur',a::t,rfl,rfl,by omega,e1,e2,e3,λk hk=>ha k (by omega),hA,hv',hne',hsub,?_,λT0 hT=>?_,hn',HG⟩
   ·show _=(auRs T i++auR T i)++_
    rw[auR_none (ha i (Nat.le_refl _)),List.append_nil];exact hrest
   ·obtain⟨h1,h2⟩:=hall T0 hT
    rw[hd]at h2
    rw[hd2]
    unfold auFrom at h2
    cases hau0:T0.au i with
    | none=>
     rw[auR_none hau0,List.nil_append]at h2
     refine⟨λk hk=>?_,h2⟩
     by_cases e:k=i
     ·subst e;exact .inl ⟨ha k (Nat.le_refl _),hau0⟩
     ·exact h1 k (by omega)
    | some p=>
     obtain⟨A0,w0⟩:=p
     rw[auR_some hau0]at h2
     simp only[List.cons_append,List.nil_append,List.cons.injEq]at h2
     refine absurd ⟨by rw[h2.1],?_⟩ hskip
     rw[h2.2];simp
  ·refine hno G cur' hs λ⟨T0,hT⟩=>?_
   obtain⟨h1,h2⟩:=hall T0 hT
   rw[hd]at h2
   unfold auFrom at h2
   cases hau0:T0.au i with
   | none=>
    rw[auR_none hau0,List.nil_append]at h2
    have:=au_no (by omega) h2 hk
    rw[this]at hl
    exact absurd hl (by simp)
   | some p=>
    obtain⟨A0,w0⟩:=p
    rw[auR_some hau0]at h2
    simp only[List.cons_append,List.nil_append,List.cons.injEq]at h2
    obtain⟨o1,o2,o3,o4,o5⟩:=hT.ok.au i A0 w0 (by rw[hT.g];exact hin) hau0
    have hcl:=hT.ok.cl
    have hnn:=hT.n
    exact hnone ⟨A0,w0,o1,o2,o4,by omega,by omega,by rw[h2.1]⟩
  ·rw[eG]
   refine⟨rfl,S.G-(i+1),by omega,i+1,nm2,T.setAu i (some (A,w)),cur2,t,rfl,rfl,by omega,e1,e2,e3,λk hk=>?_,λk A' w' hk' h'=>?_,hv2,λe=>by rw[e]at hl;exact absurd hl (by simp),λb hb=>hsub b (by simp[hb]),?_,λT0 hT=>?_,hn2,HG⟩
   ·show (if k=i then _ else T.au k)=none
    rw[if_neg (by omega)];exact ha k (by omega)
   ·have h'':(if k=i then some (A,w)else T.au k)=some (A',w'):=h'
    by_cases e:k=i
    ·rw[if_pos e]at h'';cases h'';exact⟨hAo,hw0,hwc⟩
    ·rw[if_neg e]at h'';exact hA k A' w' hk' h''
   ·show _=(auRs _ i++auR _ i)++_
    have h1:(T.setAu i (some (A,w))).au i=some (A,w):=by unfold Hs.setAu;simp
    have h2:auRs (T.setAu i (some (A,w))) i=auRs T i:=auRs_congr i λj hj=>by
     show (if j=i then _ else T.au j)=T.au j
     rw[if_neg (by omega)]
    rw[auR_some h1,h2,hrest,List.append_assoc]
    have:a=(keyS clockK i,auV A w):=Prod.ext hk hval
    rw[this];rfl
   ·obtain⟨h1,h2⟩:=hall T0 hT
    rw[hd]at h2
    rw[hd2]
    unfold auFrom at h2
    cases hau0:T0.au i with
    | none=>
     rw[auR_none hau0,List.nil_append]at h2
     have:=au_no (by omega) h2 hk
     rw[this]at hl
     exact absurd hl (by simp)
    | some p=>
     obtain⟨A0,w0⟩:=p
     rw[auR_some hau0]at h2
     simp only[List.cons_append,List.nil_append,List.cons.injEq]at h2
     obtain⟨o1,o2,o3,o4,o5⟩:=hT.ok.au i A0 w0 (by rw[hT.g];exact hin) hau0
     have hvv:auV A w=auV A0 w0:=by rw[<-hval,h2.1]
     obtain⟨q1,q2⟩:=auV_inj hvv hw0 o4
     refine⟨λk hk=>?_,h2.2⟩
     show auLike (if k=i then _ else T.au k) _
     by_cases e:k=i
     ·subst e
      rw[if_pos rfl]
      exact .inr ⟨A,A0,w,rfl,by rw[hau0,q1],auc_same hAo o1 q2⟩
     ·rw[if_neg e];exact h1 k (by omega)
 ·have e:i=S.G:=by omega
  subst e
  unfold b28_20
  simp
  refine hyes g nm' T cur' lc e1 e2 e3 hA hv' hne' hsub hrest (λT0 hT=>?_) hn' HT
  obtain⟨h1,h2⟩:=hall T0 hT
  refine⟨h1,?_⟩
  rw[Nat.sub_self]at h2
  exact h2
end
end Go.Pw
set_option linter.unusedSimpArgs false
set_option linter.unusedVariables false
namespace Go.Pw
open Go Go.Proofs
structure Full (c g:Nat) (l:List Rec) (T:Hs):Prop where
 ok:T.ok
 snd:Snd T
 zer:Zer T.L
 mute:MuteH T.L
 n:T.L.n=c
 g:T.L.goods=g
 recs:hsRecs T=l
theorem Full.G {c g:Nat} {l:List Rec} {T:Hs} (h:Full c g l T):T.G=g:=by unfold Hs.G;rw[h.g];rfl
theorem Full.split {c g:Nat} {l:List Rec} {T:Hs} (h:Full c g l T):l.take c=recsOf T.L T.L.n/\(l.drop c).take g=(List.range g).map (bkR T)/\(l.drop c).drop g=auRs T g ++ [nowR T]/\c+g+1<=l.length:=by
 have hr:=h.recs
 unfold hsRecs at hr
 rw[h.G]at hr
 subst hr
 have h1:(recsOf T.L T.L.n).length=c:=by rw[recsOf_len,h.n]
 have h2:((List.range g).map (bkR T)).length=g:=by simp
 rw[List.append_assoc,List.append_assoc]
 refine⟨by rw[<-h1,List.take_left],?_,?_,?_⟩
 ·rw[show (recsOf T.L T.L.n++((List.range g).map (bkR T)++(auRs T g ++ [nowR T]))).drop c=(List.range g).map (bkR T)++(auRs T g ++ [nowR T])by rw[<-h1,List.drop_left]]
  have:=List.take_left (l₁:=(List.range g).map (bkR T)) (l₂:=auRs T g ++ [nowR T])
  rw[h2]at this
  exact this
 ·rw[show (recsOf T.L T.L.n++((List.range g).map (bkR T)++(auRs T g ++ [nowR T]))).drop c=(List.range g).map (bkR T)++(auRs T g ++ [nowR T])by rw[<-h1,List.drop_left]]
  have:=List.drop_left (l₁:=(List.range g).map (bkR T)) (l₂:=auRs T g ++ [nowR T])
  rw[h2]at this
  exact this
 ·simp only[List.length_append,h1,h2,List.length_cons,List.length_nil];omega
theorem Full.tail {c g:Nat} {l:List Rec} {T:Hs} (h:Full c g l T):Tail T c g ((l.drop c).drop g):=⟨h.ok,h.n,h.G,h.split.2.2.1⟩
section
variable {h g:PH} {x:Nat} {nm:Nm} {S:Hs} {C:PH->Prop}
theorem HsN.putx (H:(HsN x nm S•(λg=>Sub h g)) g) (o:Obj):Sub h (ins g x o):=by
 unfold HsN at H
 rw[sep_assoc]at H
 exact sep_r (mono_sub h) (sep_r (mono_sep _ _) (pt_put (p:=o) H))
theorem nm_like {T:Hs} (hn:nm.ok S) (hG:T.G=S.G):nm.ok T:=⟨λk hk=>hn.cb k (by omega),by rw[hG];exact hn.cap⟩
structure Got (h g:PH) (x:Nat) (nm:Nm) (c G:Nat) (l:List Rec) (W:Hs) (n:Int):Prop where
 pre:W.pre
 nmok:nm.ok W
 mem:(HsN x nm W•(λg=>Sub h g)) g
 ln:W.L.n=c
 lg:W.L.goods=G
 recs:hsRecs (W.setNow n)=l
 ex:(∃T,Full c G l T)->W.ok/\Snd W
 like:∀T,Full c G l T->Like W.L T.L/\(∀k,k<W.G->W.bk k=T.bk k)/\(∀k,k<W.G->auLike (W.au k) (T.au k))/\n=T.now
theorem auLike.trans {a b c:Option (Auc×Int)} (h1:auLike a b) (h2:auLike a c):auLike b c:=by
 rcases h1 with⟨x1,x2⟩ | ⟨A,B,w,x1,x2,x3⟩
 ·rcases h2 with⟨y1,y2⟩ | ⟨A',B',w',y1,_⟩
  ·exact .inl ⟨x2,y2⟩
  ·rw[x1]at y1;cases y1
 ·rcases h2 with⟨y1,y2⟩ | ⟨A',B',w',y1,y2,y3⟩
  ·rw[x1]at y1;cases y1
  ·rw[x1]at y1;cases y1
   exact .inr ⟨B,B',w,x2,y2,λbb=>(x3.1 bb).symm.trans (y3.1 bb),x3.2.symm.trans y3.2⟩
theorem Like.join {L M N:Led} (h1:Like L M) (h2:Like L N):Like M N:=⟨h2.g.trans h1.g.symm,h2.n.trans h1.n.symm,λi j hi hj=>(h2.f i j (by rw[<-h1.n];exact hi) hj).trans (h1.f i j (by rw[<-h1.n];exact hi) hj).symm,λi hi=>(h2.r i (by rw[<-h1.n];exact hi)).trans (h1.r i (by rw[<-h1.n];exact hi)).symm⟩
theorem got_of {c G:Nat} {l:List Rec} {T:Hs} {n:Int} (hp:T.pre) (hn:nm.ok T) (H:(HsN x nm T•(λg=>Sub h g)) g) (h1:T.L.n=c) (h2:T.L.goods=G) (hr:hsRecs (T.setNow n)=l) (h0:T.now=0)
  (hl:∀T0,Full c G l T0->Like T.L T0.L/\(∀k,k<T.G->T.bk k=T0.bk k)/\(∀k,k<T.G->auLike (T.au k) (T0.au k))/\n=T0.now):∃W,Got h g x nm c G l W n:=by
 by_cases hex:∃T0,Full c G l T0
 ·obtain⟨T0,hT⟩:=hex
  obtain⟨a1,a2,a3,a4⟩:=hl T0 hT
  have eG:T.G=T0.G:=by unfold Hs.G;rw[h2,hT.g]
  have hk0:(T0.setNow 0).ok:=setNow_ok hT.ok (by omega)
  refine⟨T0.setNow 0,⟨hk0.led,hk0.n1,hk0.bk,λi A w hi ha=>by
   have:=hk0.au i A w hi ha
   exact⟨this.1,this.2.2.2⟩,hk0.now⟩,nm_like hn eG.symm,HsN.like (T:=T0.setNow 0) H a1 a2 a3 h0,hT.n,hT.g,?_,λ_=>⟨hk0,?_⟩,λT1 hT1=>?_⟩
  ·rw[a4];exact hT.recs
  ·exact⟨hT.snd.held,hT.snd.lock,hT.snd.ids,hT.snd.sel⟩
  ·obtain⟨b1,b2,b3,b4⟩:=hl T1 hT1
   have eG1:(T0.setNow 0).G=T.G:=eG.symm
   exact⟨Like.join a1 b1,λk hk=>(a2 k (by omega)).symm.trans (b2 k (by omega)),λk hk=>auLike.trans (a3 k (by omega)) (b3 k (by omega)),b4⟩
 ·exact⟨T,hp,hn,H,h1,h2,hr,λh=>absurd h hex,λT0 hT=>absurd ⟨T0,hT⟩ hex⟩
end
end Go.Pw
set_option linter.unusedSimpArgs false
set_option linter.unusedVariables false
namespace Go.Pw
open Go Go.Proofs
def nowK:ByteArray:=⟨#[110,111,119]⟩
section
variable {h g:PH} {R:AEnd->PH->Prop}
theorem rows_eq {α:Type} {f:Nat->α} {l:List α} {n:Nat} (hl:l.length=n) (h:∀k,k<n->l[k]?=some (f k)):l=(List.range n).map f:=by
 apply List.ext_getElem?
 intro k
 rw[List.getElem?_map]
 rcases Nat.lt_or_ge k n with hk | hk
 ·rw[h k hk,List.getElem?_range hk];rfl
 ·rw[List.getElem?_eq_none (by omega),List.getElem?_eq_none (by simp;omega)];rfl
theorem now_rd {T:Hs} (hT:T.ok):rdNum (nowR T).2.data.toList 0 = .ok T.now.toNat (nowR T).2.size:=by
 have h1:(nowR T).2.data.toList.drop 0=encN T.now.toNat ++ []:=by
  rw[List.drop_zero,List.append_nil];rfl
 have h2:=rdNum_of h1 (by have:=hT.now;omega)
 rw[h2,Nat.zero_add]
 have:(nowR T).2.size=(encN T.now.toNat).length:=by
  show (encN T.now.toNat).toArray.size=_
  exact List.size_toArray
 rw[this]
theorem h_of {v:Value} {l:List Rec} {c gn:Nat} (hv:RecsAt h v l) (hsz:∀a∈l,a.2.size<4611686018427387000) (hlb:l.length<1000000) (hc1:1<=c) (hc2:c<=16) (hg1:1<=gn) (hg2:gn<=4)
  (hno:(¬∃T,Full c gn l T)->R (.ret (.tuple #[.pointer none,.int .i64 92])) h)
  (hyes:∀W G x nm,W.ok->Snd W->W.L.n=c->W.L.goods=gn->hsRecs W=l->nm.ok W->(HsN x nm W•(λg=>Sub h g)) G->(∀T,Full c gn l T->nm.ok T/\(HsN x nm T•(λg=>Sub h g)) G)->R (.ret (.tuple #[ptr x,.int .i64 0])) G) :
  ACalls Tryz.prog 28 #[.int .i64 c,.int .i64 gn,v] h R:=by
 refine ACalls.drop (call28 ?_)
 unfold sh28
 refine h_new (by omega) (by omega) (by omega) (by omega) λg1 x nm hC hn=>?_
 have H1:=hC (λg=>Sub h g) (Sub.refl h)
 have bad:∀G,Sub h G->(¬∃T,Full c gn l T)->∃g,Sub g G/\R (.ret (.tuple #[.pointer none,.int .i64 92])) g:=λG hs hb=>⟨h,hs,hno hb⟩
 have hs1:=sep_r (mono_sub h) H1
 simp only[AEnd.elim,vExt_20,vExt_21,vBin_neq,decide_true,Bool.not_true,dIf_b]
 refine⟨λe=>absurd e (by simp),λ_=>?_⟩
 simp only[hv.len,vBin_add]
 have w1:IntKind.i64.wrap ((c:Int)+(gn:Int))=(c:Int)+gn:=w64 (by omega) (by omega)
 have w2:IntKind.i64.wrap ((c:Int)+(gn:Int)+1)=(c:Int)+gn+1:=w64 (by omega) (by omega)
 rw[w1,w2]
 simp only[vBin_lss,dIf_b,decide_eq_true_eq,decide_eq_false_iff_not]
 refine⟨λhlt=>bad g1 hs1 λ⟨T,hT⟩=>by have:=hT.split.2.2.2;omega,λhlen=>?_⟩
 refine hv.slice (lo:=0) (hi:=c) (by omega) (by omega) (.inr ⟨rfl,rfl⟩) (.inl rfl) λv1 hv1=>?_
 rw[List.drop_zero]at hv1
 have eGn:(newHs (c:Int) (gn:Int)).G=gn:=by unfold Hs.G newHs newLed;simp
 have F1:=(sep_l HsN.mono H1).f
 have hx1:∀(val:Value),val.oneCell'=true->∀(g2:PH),Sub g1 g2->∀K:PH->Prop,(∀o,K (ins g2 x o))->vStore 1 (.pointer (some ⟨x,0,none⟩)) val g2 K:=λval hval g2 hs K hk=>
  (vStore_1 (hs _ _ F1.hx) (by show 0<6;omega) hval).2 (hk _)
 refine of_ok (hv1.sub hs1) (λa ha=>hsz a (List.mem_of_mem_take ha)) (λhb=>absurd ⟨by omega,by omega,by omega,by omega⟩ hb) (λ_ hof=>?_) λ_ L hof lx lb g2 hs2 hL hlx hlb2=>?_
 ·simp only[AEnd.elim,vExt_20,vExt_21,vNil_p,vFA_p,Nat.zero_add]
  refine hx1 _ rfl g1 (Sub.refl _) _ λo=>?_
  have:=bad _ (HsN.putx H1 o) λ⟨T,hT⟩=>by
   obtain⟨M,hM,_⟩:=ofR_recs hT.ok.led hT.mute hT.zer
   rw[hT.n,hT.g,<-hT.n,<-hT.split.1,hT.n]at hM
   rw[hM]at hof;cases hof
  simp[this]
 have H2:(LedP lx lb L•HsN x nm (newHs c gn)•(λg=>Sub h g)) g2:=led_new hlx hlb2 hs2 hL H1
 obtain⟨iL,iLn,iLc,iLg,iLr⟩:=ofR_inv (by omega) (by omega) (by omega) (by omega) hof
 have hLn:L.n=c:=by omega
 have H3:=HsN.ledP H2 (by rw[iLg];rfl) (by rw[iLc];rfl)
 have hrec:recsOf L L.n=l.take c:=(rows_eq (f:=λi=>(keyB i,(⟨(payB L i).toArray⟩:ByteArray))) (by rw[List.length_take];omega) λk hk=>by
  obtain⟨a,b1,b2,b3⟩:=iLr k hk
  rw[b1]
  refine congrArg some (Prod.ext b2 (ba_eq ?_))
  rw[<-b3]).symm
 simp only[AEnd.elim,vExt_20,vExt_21,vNil_p,vFA_p,Nat.zero_add]
 have F2:=(sep_l HsN.mono (sep_r (mono_sep _ _) H2)).f
 refine (vStore_1 F2.hx (by show 0<6;omega) rfl).2 ?_
 have e3:(hsHd nm (newHs (c:Int) gn)).setIfInBounds 0 (ptr lx)=hsHd {nm with l:=lx,lb:=lb} ((newHs (c:Int) gn).setL L):=by
  unfold hsHd
  have e1:((newHs (c:Int) gn).setL L).G=(newHs (c:Int) gn).G:=by unfold Hs.G Hs.setL;rw[iLg];rfl
  have e2:(((newHs (c:Int) gn).setL L).L.n:Int)=(newHs (c:Int) gn).L.n:=by
   show (L.n:Int)=((c:Int).toNat:Nat)
   omega
  have e4:((newHs (c:Int) gn).setL L).L.goods=(newHs (c:Int) gn).L.goods:=iLg
  rw[e1,e2,e4];rfl
 rw[e3]
 revert H3
 generalize ins g2 x (hsO {nm with l:=lx,lb:=lb} ((newHs (c:Int) gn).setL L))=g3
 generalize hnm2:({nm with l:=lx,lb:=lb}:Nm)=nm2
 intro H3
 have eG3:((newHs (c:Int) gn).setL L).G=gn:=by unfold Hs.G Hs.setL;rw[iLg];rfl
 have hn2:nm2.ok ((newHs (c:Int) gn).setL L):=by
  rw[<-hnm2]
  exact⟨λk hk=>hn.cb k (by omega),by rw[eG3,<-eGn];exact hn.cap⟩
 simp only[vBin_neq,decide_true,Bool.not_true,dIf_b]
 refine⟨λe=>absurd e (by simp),λ_=>?_⟩
 refine hv.slice (lo:=c) (hi:=l.length) (by omega) (by omega) (.inl rfl) (.inr ⟨rfl,rfl⟩) λv2 hv2=>?_
 rw[List.take_length]at hv2
 have hgi:(Value.int .i64 (gn:Int)) = .int .i64 (((newHs (c:Int) gn).setL L).G:Int):=by rw[eG3]
 have hl2:(l.drop c).length=l.length-c:=List.length_drop
 rw[hgi]
 refine ofBooks hv2 (λa ha=>hsz a (List.mem_of_mem_drop ha)) (by rw[eG3,hl2];omega) (by omega) hn2 (λk _=>bk0_ok) H3 (λG hs hb=>?_) λG nm3 T e1 e2 e3 hbk hn3 H4=>?_
 ·intro r hr
  rw[show r 6=Value.pointer none from congrArg (·.2.2.2.1) hr,show r 7=Value.int .i64 92 from congrArg (·.2.2.2.2.1) hr]
  refine bad G hs λ⟨T,hT⟩=>?_
  obtain⟨k,hk,hb⟩:=hb
  rw[eG3]at hk
  refine hb ⟨T.bk k,hT.ok.bk k (by rw[hT.G];exact hk),?_⟩
  have h1:=hT.split.2.1
  have h2:((l.drop c).take gn)[k]?=some (bkR T k):=by rw[h1,List.getElem?_map,List.getElem?_range hk];rfl
  rw[List.getElem?_take,if_pos hk]at h2
  exact h2
 ·intro r hr
  rw[show r 0=Value.int .i64 c from congrArg (·.1) hr,show r 1=Value.int .i64 (((newHs (c:Int) gn).setL L).G:Int)from congrArg (·.2.1) hr,show r 2=v2 from congrArg (·.2.2.1) hr,show r 6=Value.pointer none from congrArg (·.2.2.2.1) hr,show r 7=Value.int .i64 0 from congrArg (·.2.2.2.2.1) hr,show r 8=ptr x from congrArg (·.2.2.2.2.2) hr]
  rw[eG3]at hbk ⊢
  have eT:T.G=gn:=by unfold Hs.G;rw[e1];exact eG3
  refine hv2.slice (lo:=gn) (hi:=(l.drop c).length) (by omega) (by omega) (.inl rfl) (.inr ⟨rfl,rfl⟩) λv3 hv3=>?_
  rw[List.take_length]at hv3
  have hgi2:(Value.int .i64 (gn:Int)) = .int .i64 (T.G:Int):=by rw[eT]
  rw[hgi2]
  have hne:(l.drop c).drop gn≠[]:=λe=>by
   have:((l.drop c).drop gn).length=l.length-c-gn:=by rw[List.length_drop,List.length_drop]
   rw[e]at this
   simp at this
   omega
  refine ofSales (c:=c) hv3 (λa ha=>hsz a (List.mem_of_mem_drop (List.mem_of_mem_drop ha))) hne (by omega) hn3 (λk=>by rw[e3];rfl) H4 (λG cur' hs hb=>?_) λG nm4 U cur' lc u1 u2 u3 hA hv4 hne4 hsub hrest hall hn4 H5=>?_
  ·intro r2 hr2
   rw[show r2 6=Value.pointer none from congrArg (·.2.1) hr2,show r2 7=Value.int .i64 92 from congrArg (·.2.2.1) hr2]
   exact bad G hs λ⟨T0,hT⟩=>hb ⟨T0,by rw[eT];exact hT.tail⟩
  ·intro r2 hr2
   rw[show r2 2=cur' from congrArg (·.1) hr2,show r2 8=ptr x from congrArg (·.2.2.2) hr2]
   obtain⟨a,t,rfl⟩:∃a t,lc=a::t:=by
    cases lc with
    | nil=>exact absurd rfl hne4
    | cons a t=>exact⟨a,t,rfl⟩
   have hs5:=sep_r (mono_sub h) H5
   have hsa:=hsz a (List.mem_of_mem_drop (List.mem_of_mem_drop (hsub a (by simp))))
   have hfull:∀T0,Full c gn l T0->(∀k,k<T.G->auLike (U.au k) (T0.au k))/\a=nowR T0/\t = []:=λT0 hT=>by
    obtain⟨h1,h2⟩:=hall T0 (by rw[eT];exact hT.tail)
    simp only[List.cons.injEq]at h2
    exact⟨h1,h2.1,h2.2⟩
   obtain⟨b,o,ix,ld⟩:=hv4.at_ (i:=0) (a:=a) rfl
   have ix0:∀K:Value->Prop,vIxS 2 cur' (.int .i64 0) K↔K (.pointer (some ⟨b,o,none⟩)):=ix
   obtain⟨k0,k1⟩:=ld G hs5
   have hln:=λK=>hv4.len (K:=K)
   simp only[List.length_cons]at hln
   simp only[ix0,vFA_p,k1]
   refine getInt_ok (by omega) ?_
   rw[if_neg (by omega)]
   cases hr:rdNum a.2.data.toList (0:Int).toNat with
   | bad e=>
    have he:e≠0:=rdN_bq _ _ _ _ hr
    have:=bad G hs5 λ⟨T0,hT⟩=>by
     have h1:=(hfull T0 hT).2.1
     have h2:=now_rd hT.ok
     rw[<-h1]at h2
     rw[show (0:Int).toNat=0 from rfl,h2]at hr
     cases hr
    simp only[AEnd.elim,vExt_30,vExt_31,vExt_32]
    by_cases ht:t.length=0
    ·by_cases hk:a.1=nowK
     ·have hk':a.1=⟨#[110,111,119]⟩:=hk
      simp[hln,ht,ix0,k0,hk',he,this]
     ·have hk':¬a.1=⟨#[110,111,119]⟩:=hk
      simp[hln,ht,ix0,k0,hk',this]
    ·have ht':¬(t.length:Int)=0:=by omega
     have ht2:¬(t.length:Int)+1=1:=by omega
     simp[hln,ht,ht',ht2,this]
   | ok n next=>
    simp only[AEnd.elim,vExt_30,vExt_31,vExt_32]
    have bad2:¬(t.length=0/\a.1=nowK/\next=a.2.size)->∃g,Sub g G/\R (.ret (.tuple #[.pointer none,.int .i64 92])) g:=λhb=>bad G hs5 λ⟨T0,hT⟩=>by
     obtain⟨_,h1,h3⟩:=hfull T0 hT
     have h2:=now_rd hT.ok
     rw[<-h1]at h2
     rw[show (0:Int).toNat=0 from rfl,h2]at hr
     refine hb ⟨by rw[h3];rfl,by rw[h1];rfl,?_⟩
     cases hr;rfl
    by_cases ht:t.length=0
    case' neg=>
     have:=bad2 λe=>ht e.1
     have ht':¬(t.length:Int)=0:=by omega
     have ht2:¬(t.length:Int)+1=1:=by omega
     simp[hln,ht,ht',ht2,this]
    by_cases hk:a.1=nowK
    case' neg=>
     have:=bad2 λe=>hk e.2.1
     have hk':¬a.1=⟨#[110,111,119]⟩:=hk
     simp[hln,ht,ix0,k0,hk',this]
    have hk':a.1=⟨#[110,111,119]⟩:=hk
    by_cases hx:next=a.2.size
    case' neg=>
     have:=bad2 λe=>hx e.2.2
     have hx':¬(next:Int)=(a.2.size:Int):=by omega
     simp[hln,ht,ix0,k0,k1,hk',hx',hx,this]
    simp[hln,ht,ix0,k0,k1,hk',hx]
    have hb53:=rdN_lq _ _ _ _ _ _ hr
    have hval:a.2=⟨(encN n).toArray⟩:=ba_eq (by
     have h1:=rdNum_enc hr
     rw[show (0:Int).toNat=0 from rfl,List.drop_zero,hx,List.drop_eq_nil_of_le (by rw[Array.length_toList];exact Nat.le_refl _),List.append_nil]at h1
     rw[h1])
    have htn:t = []:=List.length_eq_zero_iff.1 ht
    have hanow:a=nowR (U.setNow n):=Prod.ext hk hval
    have uL:U.L=L:=u1.trans e1
    have uG:U.G=gn:=by unfold Hs.G;rw[uL,iLg];rfl
    have ubk:U.bk=T.bk:=u3
    have hgot:∃W,Got h G x nm4 c gn l W n:=by
     refine got_of (T:=U) ⟨by rw[uL];exact iL,by rw[uL,hLn];exact hc1,λk hk=>by rw[ubk];exact (hbk k (by omega)).1,λk A w hk ha=>?_,?_⟩ hn4 H5 (by rw[uL];exact hLn) (by rw[uL];exact iLg) ?_ ?_ λT0 hT=>?_
     ·have:=hA k A w (by omega) ha
      rw[uL,hLn];exact this
     ·rw[u2,e2]
      show (0:Int)<=0/\(0:Int)<=9007199254740992
      omega
     ·unfold hsRecs
      have q1:recsOf (U.setNow n).L (U.setNow n).L.n=l.take c:=by
       show recsOf U.L U.L.n=_
       rw[uL];exact hrec
      have q2:(List.range (U.setNow n).G).map (bkR (U.setNow n))=(l.drop c).take gn:=by
       show (List.range U.G).map (bkR (U.setNow n))=_
       rw[uG]
       refine (rows_eq (by rw[List.length_take,hl2];omega) λk hk=>?_).symm
       rw[List.getElem?_take,if_pos hk,(hbk k hk).2]
       unfold bkR
       show some (keyS bookK k,bkB (T.bk k))=some (keyS bookK k,bkB (U.bk k))
       rw[ubk]
      have q3:auRs (U.setNow n) (U.setNow n).G ++ [nowR (U.setNow n)]=(l.drop c).drop gn:=by
       rw[hrest,htn,<-hanow]
       congr 1
       show auRs (U.setNow n) U.G=auRs U T.G
       rw[uG,eT]
       exact auRs_congr _ λj _=>rfl
      rw[q1,q2,List.append_assoc,List.append_assoc,q3,List.take_append_drop,List.take_append_drop]
     ·rw[u2,e2];rfl
     ·obtain⟨h1,h2,h3⟩:=hfull T0 hT
      refine⟨?_,λk hk=>?_,λk hk=>h1 k (by omega),?_⟩
      ·obtain⟨M,hM,hl⟩:=ofR_recs hT.ok.led hT.mute hT.zer
       rw[hT.n,hT.g,<-hT.n,<-hT.split.1,hT.n]at hM
       rw[hM]at hof
       cases hof
       rw[uL];exact hl
      ·rw[uG]at hk
       have h4:=(hbk k hk).2
       have h5:((l.drop c).take gn)[k]?=some (bkR T0 k):=by rw[hT.split.2.1,List.getElem?_map,List.getElem?_range hk];rfl
       rw[List.getElem?_take,if_pos hk,h4]at h5
       have h6:bkB (T.bk k)=bkB (T0.bk k):=congrArg (·.2) (Option.some.inj h5)
       rw[ubk]
       exact bk_same (hbk k hk).1 (hT.ok.bk k (by rw[hT.G];exact hk)) h6
      ·have h4:=now_rd hT.ok
       rw[<-h2]at h4
       rw[show (0:Int).toNat=0 from rfl,h4]at hr
       have hnow:=hT.ok.now
       have h5:T0.now.toNat=n:=by cases hr;rfl
       omega
    obtain⟨W,hW⟩:=hgot
    have HW:=sep_l HsN.mono hW.mem
    refine h_sound HW hW.nmok hW.pre (λhb=>?_) λhWok hWs=>?_
    ·have:=bad G hs5 λhex=>hb (hW.ex hex)
     simp[AEnd.elim,this]
    ·simp[AEnd.elim]
     refine (vStore_1 HW.f.hx (by show 3<6;omega) rfl).2 ?_
     have HN:=HsN.now hW.mem (n:Int)
     refine⟨_,Sub.refl _,hyes (W.setNow n) _ x nm4 (setNow_ok hWok (by omega)) ⟨hWs.held,hWs.lock,hWs.ids,hWs.sel⟩ hW.ln hW.lg hW.recs ⟨hW.nmok.cb,hW.nmok.cap⟩ HN λT0 hT=>?_⟩
     obtain⟨a1,a2,a3,a4⟩:=hW.like T0 hT
     refine⟨nm_like hW.nmok (by unfold Hs.G;rw[hT.g,hW.lg]),HsN.like HN a1 a2 a3 a4⟩
end
end Go.Pw
set_option linter.unusedSimpArgs false
set_option linter.unusedVariables false
namespace Go.Pw
open Go Go.Proofs
theorem numL_size {N:List Int} (hN:NumL N) {k:Nat} (hk:N.length<=k):(encL N).length<=10*k:=by
 have:=encL_len2 hN
 omega
theorem bkB_size {B:Bk} (hB:B.ok):(bkB B).size<=4000:=by
 have h1:=numL_size (bkNums_bd hB (k:=B.l.length)) (k:=386) (by rw[bkNums_len B (Nat.le_refl _)];have:=hB.len;omega)
 show (encL (bkNums B B.l.length)).toArray.size<=4000
 rw[List.size_toArray];omega
theorem auV_size {A:Auc} (hA:A.ok) {w:Int} (hw:0<=w/\w<100):(auV A w).size<=4000:=by
 have h1:=numL_size (aucNums_bd hA A.n (Nat.le_refl _)) (k:=38) (by rw[aucNums_len];have:=hA.n;omega)
 have h2:=encN_10 (n:=w.toNat) (by omega)
 show (encN w.toNat++encL (aucNums A A.n)).toArray.size<=4000
 rw[List.size_toArray,List.length_append];omega
theorem payB_size {L:Led} (hi:Inv L) {i:Nat} (hin:i<L.n):(payB L i).length<=4000:=by
 have h1:=numL_size (N:=numsOf L i) (λx hx=>by have:=numsOf_bd hi hin x hx;omega) (k:=11) (by rw[numsOf_len];have:=hi.gd;have:=hi.g0;omega)
 have h2:=encN_10 (n:=(L.r i).size) (by have:=hi.rep i hin;omega)
 have h3:=hi.rep i hin
 unfold payB
 rw[List.length_append,List.length_append]
 have:(L.r i).data.toList.length=(L.r i).size:=Array.length_toList
 omega
theorem auRs_mem {S:Hs} {a:Rec}:∀k,a∈auRs S k->∃i A w,i<k/\S.au i=some (A,w)/\a=(keyS clockK i,auV A w)
 | 0,h=>by cases h
 | k+1,h=>by
  unfold auRs at h
  rcases List.mem_append.1 h with h | h
  ·obtain⟨i,A,w,h1,h2,h3⟩:=auRs_mem k h
   exact⟨i,A,w,by omega,h2,h3⟩
  ·cases ha:S.au k with
   | none=>rw[auR_none ha]at h;cases h
   | some p=>
    obtain⟨A,w⟩:=p
    rw[auR_some ha]at h
    simp at h
    exact⟨k,A,w,by omega,ha,h⟩
theorem hsRecs_sz {S:Hs} (hk:S.ok):∀a∈hsRecs S,a.2.size<4611686018427387000:=by
 intro a ha
 have hcl:=hk.cl
 unfold hsRecs at ha
 have:a.2.size<=4000:=by
  rcases List.mem_append.1 ha with h | h
  ·rcases List.mem_append.1 h with h | h
   ·rcases List.mem_append.1 h with h | h
    ·obtain⟨i,hi,rfl⟩:=List.mem_map.1 h
     have:=payB_size hk.led (List.mem_range.1 hi)
     show (payB S.L i).toArray.size<=4000
     rw[List.size_toArray];exact this
    ·obtain⟨i,hi,rfl⟩:=List.mem_map.1 h
     exact bkB_size (hk.bk i (List.mem_range.1 hi))
   ·obtain⟨i,A,w,h1,h2,rfl⟩:=auRs_mem _ h
    obtain⟨q1,q2,q3,q4,q5⟩:=hk.au i A w h1 h2
    exact auV_size q1 (by omega)
  ·simp at h
   subst h
   have:=encN_10 (n:=S.now.toNat) (by have:=hk.now;omega)
   show (encN S.now.toNat).toArray.size<=4000
   rw[List.size_toArray];omega
 omega
section
variable {h g:PH} {R:AEnd->PH->Prop}
theorem AsksAt.len {v:Value} {l:List Ask} (hv:AsksAt h v l) {K:Value->Prop}:vLenS v K↔K (.int .i64 l.length):=by
 obtain⟨p,cap,rfl,_⟩:=hv
 exact vLenS_s _ _ _
end
end Go.Pw
set_option linter.unusedSimpArgs false
set_option linter.unusedVariables false
namespace Go.Pw
open Go Go.Proofs
section
variable {h g:PH} {R:AEnd->PH->Prop} {e:TypeId} {esz n:Nat} {s:Value} {l:List Value} {C:PH->Prop} {x:Nat} {nm:Nm} {S:Hs}
theorem os_st {j:Nat} {v:Value} (H:(OS e esz s n l•C) h) (hj:j<n*esz) (hv:v.oneCell'=true):∃b cap,s = .slice (some ⟨b,0,none⟩) n cap/\∀K:PH->Prop,(∀h',(OS e esz s n (l.set j v)•C) h'->K h')->vStore 1 (.pointer (some ⟨b,j,none⟩)) v h K:=by
 obtain⟨h1,h2,d,s1,s2,o,c⟩:=H
 rcases o.buf with⟨_,e0,_⟩ | ⟨b,cl,cap,rfl,hg,hcs,hle,htk⟩
 ·rw[e0,Nat.zero_mul]at hj;omega
 ·have hle2:n*esz<=cap*esz:=Nat.mul_le_mul_right _ hle
  have h2b:h2 b=none:=d b (by rw[hg];simp)
  refine⟨b,cap,rfl,λK hk=>(vStore_1 (s1 _ _ hg) (by omega) hv).2 (hk _ ?_)⟩
  refine⟨ins h1 b (.cells (cl.setIfInBounds j v) e (0,0)),h2,λx hx=>?_,s1.both,λx p hx=>?_,⟨by rw[List.length_set];exact o.len,.inr ⟨b,_,cap,rfl,ins_eq _ _ _,by rw[Array.size_setIfInBounds];exact hcs,hle,?_⟩⟩,c⟩
  ·by_cases ex:x=b
   ·subst ex;exact h2b
   ·rw[ins_ne _ _ ex]at hx;exact d x hx
  ·rw[ins_ne _ _ (λex=>by rw[ex,h2b]at hx;cases hx)];exact s2 _ _ hx
  ·rw[Array.toList_setIfInBounds,List.take_set,htk]
end
end Go.Pw
set_option linter.unusedSimpArgs false
set_option linter.unusedVariables false
namespace Go.Pw
open Go Go.Proofs
structure TurnV where
 n:Int
 val:ByteArray
 out:Bool
def TurnV.a (t:TurnV):Array Value:=#[.int .i64 t.n,.string t.val,.bool t.out]
abbrev TurnV.v (t:TurnV):Value:=.agg t.a
def readsTail (vl:Value) (h:PH) (R:AEnd->PH->Prop):Prop:=
 vCall Tryz.prog 28 #[(.int .i64 3),(.int .i64 2),vl] h (λt51 h_5=>
 vExt t51 0 λt52=>
 vExt t51 1 λt53=>
 vBin Tryz.prog .neq 30 t53 (.int .i64 0) λt55=>
 dIf t55 (vBin Tryz.prog .eql 30 t53 (.int .i64 92) λt57=>
 gq (boolOf t57) true (λK=>
 K t52 h_5)
 (λt59 h_6=>
 gq (boolOf t57) true (λK_1=>
 vBin Tryz.prog .eql 28 t59 (.pointer none) λu=>
 K_1 u h_6)
 (λt60 h_7=>
 vPick t57 t60 (.bool false) λt61=>
 gq (boolOf t61) true (λK_2=>
 vCall Tryz.prog 16 #[] h_7 (λu_1 h_8=>
 K_2 u_1 h_8)
 (λc h=>R (.pan c) h))
 (λt63 h_9=>
 vPick t61 t63 (.bool false) λt64=>
 R (.ret t64) h_9) h_7) h_6) h_5)
 (vBin Tryz.prog .eql 28 t52 (.pointer none) λt66=>
 gq (boolOf t66) false (λK_3=>
 K_3 t52 h_5)
 (λt68 h_10=>
 gq (boolOf t66) false (λK_4=>
 vCall Tryz.prog 14 #[t68] h_10 (λu_2 h_11=>
 K_4 u_2 h_11)
 (λc h=>R (.pan c) h))
 (λt69 h_12=>
 gq (boolOf t66) false (λK_5=>
 K_5 vl h_12)
 (λt70 h_13=>
 gq (boolOf t66) false (λK_6=>
 vCall Tryz.prog 15 #[t69,t70] h_13 (λu_3 h_14=>
 K_6 u_3 h_14)
 (λc h=>R (.pan c) h))
 (λt71 h_15=>
 gq (boolOf t66) false (λK_7=>
 vUn Tryz.prog .not t71 λu_4=>
 K_7 u_4 h_15)
 (λt72 h_16=>
 vPick t66 (.bool true) t72 λt73=>
 dIf t73 (R (.ret (.bool false)) h_16)
 (lf (b9_19 (λc h=>R (.pan c) h) (λv h=>exq (λρ=>ρ 4) v (λr h_17=>
 vCall Tryz.prog 16 #[] h_17 (λt111 h_18=>
 R (.ret t111) h_18)
 (λc h=>R (.pan c) h)) h) (λv h=>exq (λρ=>ρ 4) v (λr h_19=>
 R (.ret (r 4)) h_19) h)) t52 ((.bool false),(.int .i64 0)) h_16)) h_15) h_13) h_12) h_10) h_5))
 (λc h=>R (.pan c) h)
def readsTurn (t3 t23 t32:Value) (h_3:PH) (R:AEnd->PH->Prop):Prop:=
 vFA 2 t3 λt33=>
 vLoad none t33 h_3 λt34=>
 dIf t34 (vSl 2 none (some t32) t23 λt37=>
 vBin Tryz.prog .add 3 t32 (.int .i64 1) λt40=>
 vSl 2 (some t40) none t23 λt41=>
 (0<2)/\(0<32)/\(Array.size #[(.string ⟨#[]⟩:Value),(.string ⟨#[]⟩:Value)]=2)/\vAppend false 42 2 32 t37 t41 h_3 λt42 h_4=>readsTail t42 h_4 R)
 (vFA 1 t3 λt45=>
 vLoad none t45 h_3 λt46=>
 vIxS 2 t23 t32 λt47=>
 vFA 1 t47 λt48=>
 vStore 1 t48 t46 h_3 λh_20=>readsTail t23 h_20 R)
def readsMid (v t3:Value) (h_1:PH) (R:AEnd->PH->Prop):Prop:=
 vCall Tryz.prog 11 #[v] h_1 (λt19 h_2=>
 vBin Tryz.prog .eql 28 t19 (.pointer none) λt21=>
 dIf t21 (R (.ret (.bool false)) h_2)
 (vCall Tryz.prog 14 #[t19] h_2 (λt23 h_3=>
 vFA 0 t3 λt24=>
 vLoad none t24 h_3 λt25=>
 vLenS t23 λt27=>
 vBin Tryz.prog .rem 3 t25 t27 λt28=>
 vBin Tryz.prog .lss 3 t28 (.int .i64 0) λt30=>
 dIf t30 (vBin Tryz.prog .sub 3 (.int .i64 0) t28 λt32=>readsTurn t3 t23 t32 h_3 R)
 (readsTurn t3 t23 t28 h_3 R))
 (λc h=>R (.pan c) h)))
 (λc h=>R (.pan c) h)
section
variable {h g:PH} {R:AEnd->PH->Prop} {x:Nat} {nm:Nm} {W:Hs}
theorem reads_round {i:Nat} {Kp:List PanicEntry->PH->Prop} {x0 xr:Value->PH->Prop} {kn:Value->(Value×Value)->PH->Prop} {q:Value} (H:HsN x nm W g) (hk:W.ok) (hi:i<W.L.n) (h3:i<3)
  (hyes:∀G,Sub g G->kn (ptr x) (q,.int .i64 ((i:Int)+1)) G):b9_19 Kp x0 xr (ptr x) kn (q,.int .i64 i) g:=by
 unfold b9_19
 have hlt:(i:Int)<3:=by omega
 simp only[vBin_lss,hlt,decide_true,dIf_b]
 refine⟨λ_=>?_,λe=>absurd e (by simp)⟩
 refine h_account H hi ?_
 simp only[AEnd.elim,vExt_20,vExt_21]
 refine vNew_i λc hc=>?_
 refine vStore_to (cs:=acctCells W.L i) (ins_eq _ _ _) (by rfl) (by rfl) (by rfl) ?_
 rw[ins_ins]
 have hcc:ins g c (.cells (acctCells W.L i) 61 (0,0)) c=some (.cells (acctCells W.L i) 61 (0,0)):=ins_eq _ _ _
 have hs:=sub_ins (.cells (acctCells W.L i) 61 (0,0)) hc
 revert hcc hs
 generalize ins g c (.cells (acctCells W.L i) 61 (0,0))=G
 intro hcc hs
 have y:=λ(j:Nat) (v:Value) (hj:(acctCells W.L i)[j]?=some v) K=>vLoad_1 (K:=K) hcc hj
 have y0:=y 0 (.int .i64 (W.L.f i 0)) rfl
 have y1:=y 1 (.int .i64 (W.L.f i 1)) rfl
 have y2:=y 2 (.int .i64 (W.L.f i 2)) rfl
 have y3:=y 3 (.int .i64 (W.L.f i 3)) rfl
 have y6:=y 6 (.int .i64 (W.L.f i 6)) rfl
 have y7:=y 7 (.int .i64 (W.L.f i 7)) rfl
 have c1:¬W.L.f i 0<W.L.f i 1:=by have:=hk.led.held i hi;omega
 have c2:¬W.L.f i 2<W.L.f i 6:=by have:=hk.led.lock i 0 hi (by omega);simp at this;omega
 have c3:¬W.L.f i 3<W.L.f i 7:=by have:=hk.led.lock i 1 hi (by omega);simp at this;omega
 have w1:IntKind.i64.wrap ((i:Int)+1)=(i:Int)+1:=w64 (by omega) (by omega)
 have:=hyes G hs
 simp[y0,y1,y2,y3,y6,y7,c1,c2,c3,w1,this]
theorem readsTail_ok {vl:Value} {l:List Rec} (hv:RecsAt h vl l) (hsz:∀a∈l,a.2.size<4611686018427387000) (hlb:l.length<=1000) (hR:∀g,Sub h g->R (.ret (.bool true)) g):readsTail vl h R:=by
 unfold readsTail
 have fin:∀g,Sub h g->vCall Tryz.prog 16 #[] g (λu g=>R (.ret u) g) (λc g=>R (.pan c) g):=λg hs=>hawake_ok (hR g hs)
 have fin2:∀g,Sub h g->ACalls Tryz.prog 16 #[] g (λe h'=>e = .ret (.bool true)/\Sub h h'):=λg hs=>hawake_ok ⟨rfl,hs⟩
 refine h_of (c:=3) (gn:=2) hv hsz (by omega) (by omega) (by omega) (by omega) (by omega) (λ_=>?_) λW G x nm hWk _ hWn _ hWr hn HG _=>?_
 ·simp only[AEnd.elim,vExt_20,vExt_21]
  simp
  rw[vBin_nilp Tryz.underlying28]
  simp
  refine hawake_ok ?_
  simp only[AEnd.elim]
  exact hR _ (Sub.refl h)
 ·simp only[AEnd.elim,vExt_20,vExt_21]
  simp
  rw[vBin_pnil Tryz.underlying28]
  simp
  refine h_recordsC HG hn hWk λg2 s2 H2=>?_
  simp only[AEnd.elim]
  have hs2:Sub h g2:=sep_r (mono_sub h) (sep_r (mono_sep _ _) H2)
  have r2:=recs_os (sep_l OS.mono (sep_r (mono_sep _ _) H2))
  refine same_gen r2 (hv.sub hs2) (by have:=hsRecs_len W hWk;omega) (λ_=>?_) (λhne=>absurd hWr hne)
  simp only[AEnd.elim]
  simp
  have HN:=sep_l HsN.mono H2
  refine lf_intro (λm s' g=>∃i:Nat,s'=(.bool false,.int .i64 i)/\m=3-i/\i<=3/\Sub g2 g) 3 ⟨0,rfl,rfl,by omega,Sub.refl g2⟩ ?_
  rintro m s' g ⟨i,rfl,rfl,hi,hs⟩
  by_cases hin:i<3
  ·exact reads_round (HsN.mono _ _ hs HN) hWk (by omega) hin λG hsG=>⟨rfl,3-(i+1),by omega,i+1,rfl,rfl,by omega,hs.trans hsG⟩
  ·have e:i=3:=by omega
   subst e
   unfold b9_19
   simp
   intro r hr
   refine hawake_ok ?_
   simp only[AEnd.elim]
   exact hR _ (hs2.trans hs)
theorem recC_set {l:List Rec} {k:Nat} {a:Rec} {s:ByteArray} (ha:l[k]?=some a):(recC l).set (k*2+1) (.string s)=recC (l.set k (a.1,s)):=by
 have hk:=(List.getElem?_eq_some_iff.1 ha).1
 have hlen:∀l:List Rec,(recC l).length=l.length*2:=λl=>by
  induction l with
  | nil=>rfl
  | cons a l ih=>unfold recC at *;rw[List.flatMap_cons,List.length_append,ih];simp;omega
 apply List.ext_getElem?
 intro j
 rw[List.getElem?_set,hlen]
 rcases Nat.lt_or_ge j (l.length*2)with hj | hj
 ·obtain⟨b,hb⟩:∃b,l[j/2]?=some b:=⟨_,List.getElem?_eq_getElem (by omega)⟩
  by_cases e:j/2=k
  ·have hs:(l.set k (a.1,s))[k]?=some (a.1,s):=by rw[List.getElem?_set_self hk]
   obtain⟨g1,g2⟩:=recC_get _ _ _ hs
   obtain⟨f1,f2⟩:=recC_get _ _ _ ha
   rcases (by omega:j=k*2\/j=k*2+1)with rfl | rfl
   ·rw[if_neg (by omega),g1,f1]
   ·rw[if_pos rfl,if_pos (by omega),g2]
  ·have hs:(l.set k (a.1,s))[j/2]?=some b:=by rw[List.getElem?_set_ne (λh=>e h.symm)];exact hb
   obtain⟨g1,g2⟩:=recC_get _ _ _ hs
   obtain⟨f1,f2⟩:=recC_get _ _ _ hb
   rw[if_neg (by omega)]
   rcases (by omega:j=j/2*2\/j=j/2*2+1)with h | h
   ·rw[h,f1,<-h]
    have:(recC (l.set k (a.1,s)))[j/2*2]?=(recC (l.set k (a.1,s)))[j]?:=by rw[<-h]
    rw[<-this,g1]
   ·have t1:(recC l)[j/2*2+1]?=(recC l)[j]?:=by rw[<-h]
    have t2:(recC (l.set k (a.1,s)))[j/2*2+1]?=(recC (l.set k (a.1,s)))[j]?:=by rw[<-h]
    rw[<-t1,<-t2,f2,g2]
 ·rw[if_neg (by omega),List.getElem?_eq_none (by rw[hlen];omega),List.getElem?_eq_none (by rw[hlen,List.length_set];omega)]
end
end Go.Pw
set_option linter.unusedSimpArgs false
set_option linter.unusedVariables false
namespace Go.Pw
open Go Go.Proofs
section
variable {h g G:PH} {R:AEnd->PH->Prop} {C:PH->Prop}
theorem recC_str {l:List Rec}:∀v∈recC l,v.oneCell'=true:=by
 intro v hv
 obtain⟨a,_,ha⟩:=List.mem_flatMap.1 hv
 simp only[List.mem_cons,List.not_mem_nil,or_false]at ha
 rcases ha with rfl | rfl <;> rfl
theorem cut_ok {b k cap:Nat} {c:Array Value} {e:TypeId} {L:List Rec} {news:List Value} (hg:G b=some (.cells (wr c (0+k*2) news) e (0,0))) (hk:k<L.length) (hle:L.length<=cap) (hcs:c.size=cap*2) (htk:c.toList.take (L.length*2)=recC L)
  (hnews:news=((recC L).drop ((k+1)*2))):RecsAt G (.slice (some ⟨b,0,none⟩) (k+(L.length-(k+1))) cap) (L.eraseIdx k):=by
 have hll:(L.eraseIdx k).length=L.length-1:=List.length_eraseIdx_of_lt hk
 have hrl:(recC L).length=L.length*2:=by
  have e0:c.toList.length=c.size:=Array.length_toList
  have:L.length*2<=cap*2:=Nat.mul_le_mul_right _ hle
  rw[<-htk,List.length_take]
  omega
 have hc:∀j,j<L.length*2->c[j]?=(recC L)[j]?:=λj hj=>by
  rw[<-htk,List.getElem?_take,if_pos hj,Array.getElem?_toList]
 have hnl:news.length=(L.length-(k+1))*2:=by rw[hnews,List.length_drop,hrl];omega
 have hcap:L.length*2<=cap*2:=Nat.mul_le_mul_right _ hle
 refine⟨some ⟨b,0,none⟩,cap,by rw[hll];congr 1;omega,by rw[hll];omega,λi a ha=>?_⟩
 have hi:i<L.length-1:=by rw[<-hll];exact (List.getElem?_eq_some_iff.1 ha).1
 rw[List.getElem?_eraseIdx]at ha
 have hget:∀r,r<2->(wr c (0+k*2) news)[i*2+r]?=(recC L)[(if i<k then i else i+1)*2+r]?:=λr hr=>by
  rw[wr_getElem]
  by_cases hik:i<k
  ·rw[if_neg (by omega),if_pos hik,hc _ (by omega)]
  ·rw[if_pos (by omega),if_neg hik,hnews,List.getElem?_drop]
   congr 1
   omega
 have hL:L[if i<k then i else i+1]?=some a:=by
  by_cases hik:i<k
  ·rw[if_pos hik]at ha ⊢;exact ha
  ·rw[if_neg hik]at ha ⊢;exact ha
 obtain⟨g1,g2⟩:=recC_get _ _ _ hL
 have h0:=hget 0 (by omega)
 have h1:=hget 1 (by omega)
 rw[Nat.add_zero,Nat.add_zero,g1]at h0
 rw[g2]at h1
 have hsz:(wr c (0+k*2) news).size=c.size:=wr_size _ _ _
 refine⟨b,0,_,e,(0,0),rfl,hg,by rw[hsz,hcs];omega,?_⟩
 apply Array.ext_getElem?
 intro j
 rw[Array.getElem?_extract,Nat.zero_add]
 rcases Nat.lt_or_ge j 2 with hj | hj
 ·rw[if_pos (by rw[hsz,hcs];omega)]
  match j,hj with
  | 0,_=>rw[Nat.add_zero,h0];rfl
  | 1,_=>rw[h1];rfl
 ·rw[if_neg (by omega),Array.getElem?_eq_none (by simpa using hj)]
theorem readsTurn_ok {c1 k:Nat} {t:TurnV} {s3:Value} {L:List Rec} (hk:k<L.length) (hlb:L.length<=1000) (hsz:∀a∈L,a.2.size<4611686018427387000) (htz:t.val.size<4611686018427387000)
  (hc:G c1=some (.cells t.a 75 (0,0))) (H:(OS 42 2 s3 L.length (recC L)•C) G) (hC:Mono C) (hCs:∀g,C g->Sub h g) (hR:∀g,Sub h g->R (.ret (.bool true)) g) :
  readsTurn (ptr c1) s3 (.int .i64 k) G R:=by
 unfold readsTurn
 simp only[vFA_p,Nat.zero_add]
 rw[vLoad_1 hc (v:=.bool t.out) rfl,dIf_b]
 refine⟨λho=>?_,λho=>?_⟩
 ·obtain⟨h0,hc0,ob⟩:=os_ob H
  rcases ob.buf with⟨_,e0,_⟩ | ⟨b,c,cap,rfl,hg,hg0,hcs,hle,htk⟩
  ·omega
  have hsh:Sub h G:=(hCs _ hc0).trans ob.sub
  have hhb:h b=none:=(hCs _ hc0).fresh hg0
  have hrl:(recC L).length=L.length*2:=by
   have e0:c.toList.length=c.size:=Array.length_toList
   have:L.length*2<=cap*2:=Nat.mul_le_mul_right _ hle
   rw[<-htk,List.length_take]
   omega
  have hcap:L.length*2<=cap*2:=Nat.mul_le_mul_right _ hle
  refine⟨_,_,_,rfl,⟨.i64,k,rfl,by omega,by omega,?_⟩⟩
  rw[Int.toNat_natCast]
  show vBin _ _ _ _ _ _
  rw[vBin_add,w64 (by omega) (by omega)]
  refine⟨_,_,_,rfl,⟨.i64,(k:Int)+1,rfl,by omega,by omega,?_⟩⟩
  rw[show ((k:Int)+1).toNat=k+1 by omega]
  refine⟨by omega,by omega,rfl,?_⟩
  have e1:(if cap=0 then some (⟨b,0,none⟩:Addr)else Option.map (λx:Addr=>x.add (0*2)) (some ⟨b,0,none⟩))=some ⟨b,0,none⟩:=by
   rw[if_neg (by omega)];simp[Addr.add]
  rw[e1]
  have hnews:∀off,(off=(k+1)*2\/L.length=k+1)->(c.toList.drop off).take ((L.length-(k+1))*2)=(recC L).drop ((k+1)*2):=λoff ho=>by
   rcases ho with rfl | ho
   ·rw[<-htk,List.drop_take]
    congr 1
    omega
   ·rw[ho]
    have:(recC L).drop ((k+1)*2) = []:=List.drop_eq_nil_of_le (by omega)
    rw[this];simp
  have fin:∀off,(off=(k+1)*2\/(L.length=k+1/\off=0))->vAppend false 42 2 32 (.slice (some ⟨b,0,none⟩) (k-0) (cap-0)) (.slice (some ⟨b,off,none⟩) (L.length-(k+1)) (cap-(k+1))) G λt42 h_4=>readsTail t42 h_4 R:=λoff ho=>by
   have hnw:=hnews off (by omega)
   unfold vAppend
   refine .inr (.inr ⟨rfl,b,off,_,_,c,_,_,rfl,hg,by omega,λv hv=>?_,?_⟩)
   ·rw[hnw]at hv
    exact recC_str v (List.mem_of_mem_drop hv)
   ·rw[hnw]
    refine .inr (.inr ⟨b,0,_,_,c,_,_,rfl,.inl ⟨by omega,hg,?_,?_,?_⟩⟩)
    ·rw[List.length_drop,hrl];omega
    ·exact .inl (Nat.zero_le _)
    ·refine readsTail_ok (l:=L.eraseIdx k) (cut_ok (ins_eq _ _ _) hk hle hcs htk rfl) (λa ha=>hsz a (List.mem_of_mem_eraseIdx ha)) (by rw[List.length_eraseIdx_of_lt hk];omega) λg hs=>hR g ((Sub.put hsh hhb).trans hs)
  by_cases hce:cap=k+1
  ·rw[if_pos hce]
   exact fin 0 (.inr ⟨by omega,rfl⟩)
  ·rw[if_neg hce]
   have e2:Option.map (λx:Addr=>x.add ((k+1)*2)) (some ⟨b,0,none⟩)=some ⟨b,(k+1)*2,none⟩:=by simp[Addr.add]
   rw[e2]
   exact fin _ (.inl rfl)
 ·rw[vLoad_1 hc (v:=.string t.val) rfl]
  obtain⟨a,ha⟩:∃a,L[k]?=some a:=⟨_,List.getElem?_eq_getElem hk⟩
  obtain⟨b,cap',hs2,hst⟩:=os_st (j:=k*2+1) (v:=.string t.val) H (by omega) rfl
  subst hs2
  rw[vIxS_p]
  refine⟨by omega,by omega,?_⟩
  rw[vFA_p,show 0+(k:Int).toNat*2+1=k*2+1 by omega]
  refine hst _ λh' H'=>?_
  rw[recC_set ha]at H'
  have hl:(L.set k (a.1,t.val)).length=L.length:=List.length_set
  have r':RecsAt h' (.slice (some ⟨b,0,none⟩) L.length cap') (L.set k (a.1,t.val)):=recs_os (by rw[hl];exact sep_l OS.mono H')
  refine readsTail_ok r' (λx hx=>?_) (by omega) λg hs=>hR g (Sub.trans (hCs _ (sep_r hC H')) hs)
  rcases List.mem_or_eq_of_mem_set hx with h | h
  ·exact hsz x h
  ·rw[h];exact htz
set_option maxRecDepth 10000 in
theorem readsMid_ok {c1:Nat} {t:TurnV} {v:Value} {l:List Ask} (hc:G c1=some (.cells t.a 75 (0,0))) (htz:t.val.size<4611686018427387000) (hv:AsksAt G v l) (hl:∀x∈l,x.ok) (hR:∀g,Sub G g->R (.ret (.bool true)) g):readsMid v (ptr c1) G R:=by
 unfold readsMid
 refine hbegun_ok hv hl λg x nm H hn=>?_
 obtain⟨hk,hrg,hrn⟩:=runH_ok (l.take 60) (newHs_ok (c:=3) (g:=2) (by omega) (by omega) (by omega) (by omega))
 clear hrg hrn
 generalize runH (newHs 3 2) (l.take 60)=S at *
 simp only[AEnd.elim]
 rw[vBin_pnil Tryz.underlying28,dIf_b]
 refine⟨λe=>absurd e (by simp),λ_=>?_⟩
 refine h_recordsC H hn hk λg3 s3 H3=>?_
 simp only[AEnd.elim,vFA_p,Nat.add_zero]
 have hz:=hsRecs_len S hk
 have hpos:0<(hsRecs S).length:=by unfold hsRecs;simp;omega
 have hs3:Sub G g3:=sep_r Own.mono (sep_r (mono_sep _ _) H3)
 have r3:=recs_os (sep_l OS.mono (sep_r (mono_sep _ _) H3))
 rw[sep_lc]at H3
 rw[vLoad_1 (hs3 _ _ hc) (v:=.int .i64 t.n) rfl,r3.len,vBin_rem _ _ _ _ (by omega)]
 have hb:=Int.tmod_lt_of_pos t.n (b:=((hsRecs S).length:Int)) (by omega)
 have hb2:-((hsRecs S).length:Int)<t.n.tmod (hsRecs S).length:=by
  rcases Int.le_total 0 t.n with h0 | h0
  ·have:=Int.tmod_nonneg (a:=t.n) ((hsRecs S).length:Int) h0
   omega
  ·have h1:=Int.tmod_lt_of_pos (-t.n) (b:=((hsRecs S).length:Int)) (by omega)
   rw[Int.neg_tmod]at h1
   omega
 have go:∀k:Nat,k<(hsRecs S).length->readsTurn (ptr c1) s3 (.int .i64 k) g3 R:=λk hkl=>
  readsTurn_ok (h:=G) hkl hz (hsRecs_sz hk) htz (hs3 _ _ hc) H3 (mono_sep _ _) (λg hg=>sep_r Own.mono hg) hR
 rw[vBin_lss,dIf_b]
 refine⟨λhn0=>?_,λhn0=>?_⟩
 ·have hn0:=of_decide_eq_true hn0
  obtain⟨k,hkk⟩:∃k:Nat,0-t.n.tmod (hsRecs S).length=k:=⟨(0-t.n.tmod (hsRecs S).length).toNat,by omega⟩
  rw[vBin_sub,w64 (by omega) (by omega),hkk]
  exact go k (by omega)
 ·have hn0:=of_decide_eq_false hn0
  obtain⟨k,hkk⟩:∃k:Nat,t.n.tmod (hsRecs S).length=k:=⟨(t.n.tmod (hsRecs S).length).toNat,by omega⟩
  rw[hkk]
  exact go k (by omega)
theorem AsksAt.take40 {v:Value} {l:List Ask} (hv:AsksAt h v l) (h40:40<l.length) {K:Value->Prop} (hk:∀v',AsksAt h v' (l.take 40)->K v'):vSl 10 none (some (.int .i64 40)) v K:=by
 obtain⟨p,cap,rfl,hcap,hel⟩:=hv
 refine⟨p,l.length,cap,rfl,⟨.i64,40,rfl,by omega,by omega,?_⟩⟩
 show K _
 refine hk _ ⟨p,cap-0,?_,by rw[List.length_take];omega,λi a ha=>?_⟩
 ·have e1:(if cap=0 then p else p.map (λx:Addr=>x.add (0*10)))=p:=by
   rw[if_neg (by omega)]
   cases p with
   | none=>rfl
   | some q=>simp[Addr.add]
  rw[e1]
  congr 1
  rw[List.length_take]
  show (40:Int).toNat-0=_
  omega
 ·rw[List.getElem?_take]at ha
  split at ha
  ·exact hel i a ha
  ·cases ha
theorem hreads_ok {v:Value} {l:List Ask} {t:TurnV} (hv:AsksAt h v l) (hl:∀x∈l,x.ok) (htz:t.val.size<4611686018427387000) (hR:R (.ret (.bool true)) h):ACalls Tryz.prog 9 #[v,t.v] h R:=by
 refine ACalls.drop (call9 ?_)
 unfold sh9
 rw[show Value.cells t.v=t.a from rfl]
 refine vNew_gen λc1 G hc1 hs hcc=>?_
 have fin:∀g,Sub G g->∃g',Sub g' g/\R (.ret (.bool true)) g':=λg hg=>⟨h,hs.trans hg,hR⟩
 have hvG:=hv.sub hs
 rw[hvG.len,vBin_gtr,dIf_b]
 refine⟨λh40=>?_,λ_=>?_⟩
 ·have h40:=of_decide_eq_true h40
  refine hvG.take40 (by omega) λv' hv'=>?_
  exact readsMid_ok (R:=λe h'=>∃g,Sub g h'/\R e g) hcc htz hv' (λx hx=>hl x (List.mem_of_mem_take hx)) fin
 ·exact readsMid_ok (R:=λe h'=>∃g,Sub g h'/\R e g) hcc htz hvG hl fin
end
end Go.Pw

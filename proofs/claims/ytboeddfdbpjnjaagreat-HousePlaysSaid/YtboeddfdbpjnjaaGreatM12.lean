/- Texts of this claim, one behind the other. -/
import Derived.Test.YtboeddfdbpjnjaaGreatM3
import Derived.Recover
set_option linter.unusedSimpArgs false
set_option linter.unusedVariables false
namespace Go.Pw
open Go
section
variable {P:Program} {qf:FuncId->Bool} {ords:Nat->List (Nat×List Nat)}
theorem YK (hm:P.follows .mixedOrders=true) {g:FuncId} {l:Func} {f:Code} {id tr tx:Nat} {Z D:TypeId} {pos r:String} {o m:Array Edge} {L:Loops}
  (hf:P.funcs[g]?=some l)
  (hb:l.body=some (.seq (.region id #[⟨some tr,.call ⟨.builtin .recover,#[],#[]⟩,Z,pos,o,none⟩,⟨some tx,.assign (.tmp tr),D,r,m,none⟩] false) f))
  (F:l.results=#[]) (T:Cr P qf l.ntmps ords f=true) (E:tr<l.ntmps) (O:tx<l.ntmps) (hl:Do P qf ords (λ_ _=>False) L f)
  {b:Array Value} (V:b.size<=l.ntmps) {v:Value} {h:PH} {w:World} (hw:BF h w) {Rk:PH->Prop}
  (H:den P qf ords (λ_ _=>False) L f (λe _ j=>match e with | .normal=>Rk j | .ret=>Rk j | _=>False) (upd (upd (NC b) (some tr) v) (some tx) v) h)
  {u z:FrameMode} (hu:(u = .returning/\v = .nilIface/\z = .returning)\/(∃i,u = .panicking ({v:=v,recovered:=false} :: i)/\z = .panicking ({v:=v,recovered:=true} :: i))) :
  CallsD P g b u w λe N q=>N=z/\(∃x,e = .returned x)/\∃j,BF j q/\Ax h j w q/\Rk j:=by
 refine callsD_of_wpS hf hb λc cs k=>?_;apply wpS_seq;apply wpS_region
 let B:Act:={tmps:=b++Array.replicate (l.ntmps-b.size) undef,defers:=[]}
 have p:B.tmps.size=l.ntmps:=by simp[B];omega
 let M:Act:=(B.put (some tr) v).put (some tx) v
 have Q:l.ntmps<=M.tmps.size:=by simp[M,Act.put,p]
 have K:C5 M=upd (upd (NC b) (some tr) v) (some tx) v:=by
  have e0:C5 B=NC b:=by
   funext t
   unfold C5 NC;rw[Array.getD_eq_getD_getElem?,List.getD_eq_getElem?_getD]
   rcases Nat.lt_or_ge t b.size with ht | ht
   ·rw[Array.getElem?_append_left ht];simp
   ·rw[Array.getElem?_append_right ht,List.getElem?_eq_none (by simpa using ht)]
    rcases Nat.lt_or_ge (t-b.size) (l.ntmps-b.size)with j | j
    ·simp[j]
    ·rw[D1 (by simpa using j)]
  show C5 ((B.put (some tr) v).put (some tx) v)=_;rw[IU v (λd U=>by cases U;simpa [Act.put,p]using O),IU v (λd U=>by cases U;rw[p];exact E),e0]
 have A:f.wpS P (bodyPostS P l c cs λe N q=>N=z/\(∃x,e = .returned x)/\∃j,BF j q/\Ax h j w q/\Rk j) M ({c with mode:=z} :: cs) w:=by
  refine wpS_of_wp (wp_mono (E8 (w0:=w) (n:=l.ntmps) (G:=λa=>a.defers = []) hm f hl T (E1 f) _ M h w Q rfl hw (Ax.refl h w) (by rw[K];exact H)) λe a q C=>?_);have rr:∀ts,(results l ts).run P q = .ok (.tuple #[]) q:=λts=>by simp[results,F]
  cases e <;> simp only[AQ,bodyPostS]at C ⊢
  ·obtain⟨_,b2,j,Y,X,W⟩:=C
   exact⟨b2,z,rfl,_,rr _,rfl,⟨_,rfl⟩,j,Y,X,W⟩
  ·obtain⟨_,_,_,_,_,J⟩:=C;exact J
  ·obtain⟨_,_,_,_,_,J⟩:=C;exact J
  ·obtain⟨_,b2,j,Y,X,W⟩:=C
   exact⟨b2,z,rfl,_,rr _,rfl,⟨_,rfl⟩,j,Y,X,W⟩
  ·obtain⟨_,_,_,_,J⟩:=C;exact J.elim
 have y:∀(a:Act),(execOp a.eval ⟨some tx,.assign (.tmp tr),D,r,m,none⟩).run P w = .ok (.value (a.tmps.getD tr undef)) w:=λa=>rfl;have I:∀(a:Act),(execOp a.eval ⟨some tr,.call ⟨.builtin .recover,#[],#[]⟩,Z,pos,o,none⟩).run P w = .ok .recover w:=λa=>rfl;have s:(B.put (some tr) v).tmps.getD tr undef=v:=by simp[Act.put,Array.getD,p,E]
 show wpOpsS P _ _ [0,1] B (c::cs) w;simp only[wpOpsS,List.getElem?_toArray,List.getElem?_cons_zero,List.getElem?_cons_succ,Region.wanted,if_true,I]
 rcases hu with⟨rfl,rfl,rfl⟩ | ⟨i,rfl,rfl⟩
 ·have S:recoverD (c::cs)=none:=by simp[recoverD,k]
  have hc:({c with mode:=.returning}:Frame)=c:=by rw[<-k]
  rw[S];simp only[y,s,Oper.upon,Exit.thenS];rw[hc]at A;exact A
 ·have S:recoverD (c::cs)=some (v,{c with mode:=.panicking ({v:=v,recovered:=true} :: i)} :: cs):=by simp[recoverD,k]
  rw[S];simp only[y,s,Oper.upon,Exit.thenS];exact A
end
section
variable {P:Program} {qf:FuncId->Bool} {ords:Nat->List (Nat×List Nat)}
def Gg (a:List ResultVar):Bool:=a.all λr=>match r with | .cell _ _=>true | .tmp _=>false
def E5 (a:List ResultVar):List Nat:=a.filterMap λr=>match r with | .cell x _=>some x | .tmp _=>none
theorem O6 {ρ ρ':Env} {h:PH}:∀(a:List ResultVar) (K:List Value->Prop),Gg a=true->(∀x∈E5 a,ρ' x=ρ x)->O7 P a ρ h K->O7 P a ρ' h K
 | [],K,_,_,hk=>hk
 | .tmp t::a,K,f,_,hk=>by simp[Gg]at f
 | .cell x t::a,K,f,l,hk=>by
  have hc':Gg a=true:=by simpa [Gg]using f
  have d:ρ' x=ρ x:=l x (by simp[E5])
  have hx':∀y∈E5 a,ρ' y=ρ y:=λy o=>l y (by
   have:E5 (.cell x t::a)=x::E5 a:=rfl;rw[this];exact List.mem_cons_of_mem _ o)
  simp only[O7,d]at hk ⊢;cases m:M8 P t with
  | none=>rw[m]at hk;exact hk.elim
  | some sz=>
   rw[m]at hk;obtain⟨b,off,c,e,fr,s,r,q⟩:=hk;refine⟨b,off,c,e,fr,s,r,?_⟩
   have:∀{k j:Value->Prop},(∀v,k v->j v)->Eo sz c off k->Eo sz c off j:=λ{k j} hk=>by
    unfold Eo;cases sz with
    | none=>rintro⟨v,i,g⟩;exact⟨v,i,hk _ g⟩
    | some n=>rintro⟨i,g⟩;exact⟨i,hk _ g⟩
   exact this (λv p=>O6 a _ hc' hx' p) q
def FK (a:List Nat):Code->Bool
 | .region _ ops _=>ops.toList.all λo=>match o.dst with | some d=>!a.contains d | none=>true
 | .seq x y=>FK a x&&FK a y
 | .cond _ x y=>FK a x&&FK a y
 | .block _ c=>FK a c
 | .loop c=>FK a c
 | _=>true
theorem Gw {b:List Nat} {D:List Deferred} {ρ:Env}:∀c:Code,FK b c=true->gOK (λa=>a.defers=D/\∀x∈b,C5 a x=ρ x) c
 | .region _ ops _,hc=>λo j a v h=>by
  have:=List.all_eq_true.1 hc o j;cases g:o.dst with
  | none=>exact h
  | some d=>
   rw[g]at this;refine⟨h.1,λx i=>?_⟩;have f:d≠x:=λe=>by subst e;simp[i]at this
   rw[<-h.2 x i];unfold C5 Act.put;simp only[Array.getD_eq_getD_getElem?,Array.getElem?_setIfInBounds_ne f]
 | .seq x y,hc=>by simp only[FK,Bool.and_eq_true]at hc;exact⟨Gw x hc.1,Gw y hc.2⟩
 | .cond _ x y,hc=>by simp only[FK,Bool.and_eq_true]at hc;exact⟨Gw x hc.1,Gw y hc.2⟩
 | .block _ c,hc=>Gw c hc
 | .loop c,hc=>Gw c hc
 | .skip,_ | .ret,_ | .exit _,_ | .scope _,_ | .label _,_ | .goto _,_ | .rangeFunc ..,_ | .refuse _,_=>trivial
def dq (P:Program) (a:List ResultVar) (R:RT) (ρ:Env) (h:PH):Prop:=O7 P a ρ h λvs=>R (.ret (Ko vs)) h
def Rr (P:Program) (qf:FuncId->Bool) (ords:Nat->List (Nat×List Nat)) (L:Loops) (a:Code) (tr tx:Nat) (c:List ResultVar) (R:RT) (b:Array Value) (ρ:Env) (v:Value) (h:PH):Prop:=
 den P qf ords (λ_ _=>False) L a (λe _ d=>match e with | .normal=>dq P c R ρ d | .ret=>dq P c R ρ d | _=>False) (upd (upd (NC b) (some tr) v) (some tx) v) h
def ZC:List Code->Code->Code
 | [],t=>t
 | x::xs,t=>.seq x (ZC xs t)
def Rt (P:Program) (qf:FuncId->Bool) (ords:Nat->List (Nat×List Nat)) (a:List ResultVar) (R:RT) (L:Loops):List Code->(Env->PH->Prop)->Env->PH->Prop
 | [],K,ρ,h=>K ρ h
 | x::xs,K,ρ,h=>den P qf ords (λc h=>R (.pan c) h) L x (λe ρ h=>match e with | .normal=>Rt P qf ords a R L xs K ρ h | .ret=>dq P a R ρ h | _=>False) ρ h
def Qy (h0:PH) (w0:World) (R:RT):Ending->World->Prop:=λe b=>match e with
 | .returned v=>∃a,BF a b/\Ax h0 a w0 b/\R (.ret v) a
 | .panicked c=>∃a,BF a b/\Ax h0 a w0 b/\R (.pan c) a
 | .outgrown=>False
theorem QM (l:P.follows .mixedOrders=true) {b:Func} {R:RT} {L:Loops} {h0:PH} {w0:World} {T:Code} {K:Env->PH->Prop}
  (m:∀a h w,b.ntmps<=a.tmps.size->a.defers = []->BF h w->Ax h0 h w0 w->K (C5 a) h->T.wp P (bodyPostD P b (Qy h0 w0 R)) a w) :
  ∀(pre:List Code),(∀x∈pre,Cr P qf b.ntmps ords x=true/\Do P qf ords (λc h=>R (.pan c) h) L x)->∀a h w,b.ntmps<=a.tmps.size->a.defers = []->BF h w->Ax h0 h w0 w ->
   Rt P qf ords b.results.toList R L pre K (C5 a) h->(ZC pre T).wp P (bodyPostD P b (Qy h0 w0 R)) a w
 | [],_,a,h,w,hs,hd,hw,hf,H=>m a h w hs hd hw hf H
 | x::xs,hp,a,h,w,hs,hd,hw,hf,H=>by
  obtain⟨s,r⟩:=hp x (by simp);refine wp_seq (wp_mono (E8 (w0:=w0) (n:=b.ntmps) (G:=λa=>a.defers = []) l x r s (E1 x) _ a h w hs hd hw hf H) λe u o d=>?_);cases e <;> simp only[AQ,Exit.then,bodyPostD]at d ⊢
  ·obtain⟨b1,b2,f,g,j,i⟩:=d
   exact QM l m xs (λy t=>hp y (by simp[t])) u f o b1 b2 g j i
  ·obtain⟨_,_,_,_,_,k⟩:=d;exact k
  ·obtain⟨_,_,_,_,_,k⟩:=d;exact k
  ·obtain⟨b1,b2,f,g,j,i⟩:=d
   obtain⟨v,q,p⟩:=HP g (K:=λv=>R (.ret v) f) i;rw[b2];exact⟨v,q,f,g,j,p⟩
  ·obtain⟨b2,f,g,j,i⟩:=d
   rw[b2];exact⟨f,g,j,i⟩
theorem NH {ordsC:Nat->List (Nat×List Nat)} (hm:P.follows .mixedOrders=true) {f g:FuncId} {b s:Func} {pre:List Code} {q i:Code} {id id2 t tr tx:Nat} {capOps:Array Operand}
  {I F ty3 ty4:TypeId} {p1 p2 p3 p4:String} {af1 Z af3 af4:Array Edge} {args:Array Value} {h:PH} {R:RT} {L Lc:Loops} {L2:KP->Loops}
  (hf : P.funcs[f]? = some b) (hn : (b.name == "runtime.NumGoroutine") = false)
  (hb:b.body=some (ZC pre (.seq (.region id #[⟨some t,.makeFunc (.func g) #[] capOps,I,p1,af1,none⟩,⟨none,.defer ⟨.value (.tmp t),#[],#[]⟩,F,p2,Z,none⟩] false) q)))
  (A:t<b.ntmps) (hcr:Gg b.results.toList=true) (htk:(E5 b.results.toList).contains t=false) (C:FK (E5 b.results.toList) q=true)
  (O:∀x∈pre,Cr P qf b.ntmps ords x=true/\Do P qf ords (λc h=>R (.pan c) h) L x)
  (Q:Cr P qf b.ntmps ords q=true) (hl2:∀Kp,Do P qf ords Kp (L2 Kp) q)
  (hg : P.funcs[g]? = some s) (V : (s.name == "runtime.NumGoroutine") = false)
  (W:s.body=some (.seq (.region id2 #[⟨some tr,.call ⟨.builtin .recover,#[],#[]⟩,ty3,p3,af3,none⟩,⟨some tx,.assign (.tmp tr),ty4,p4,af4,none⟩] false) i))
  (hgr:s.results=#[]) (U:Cr P qf s.ntmps ordsC i=true) (htr:tr<s.ntmps) (htx:tx<s.ntmps) (hlc:Do P qf ordsC (λ_ _=>False) Lc i) (hcs:capOps.size<=s.ntmps)
  (H:Rt P qf ords b.results.toList R L pre (λρ h=>den P qf ords (λc j=>∃v,c = [{v:=v,recovered:=false}]/\Rr P qf ordsC Lc i tr tx b.results.toList R (capOps.map (AO ρ)) ρ v j)
   (L2 (λc j=>∃v,c = [{v:=v,recovered:=false}]/\Rr P qf ordsC Lc i tr tx b.results.toList R (capOps.map (AO ρ)) ρ v j)) q
   (λe _ j=>match e with | .normal=>Rr P qf ordsC Lc i tr tx b.results.toList R (capOps.map (AO ρ)) ρ .nilIface j | .ret=>Rr P qf ordsC Lc i tr tx b.results.toList R (capOps.map (AO ρ)) ρ .nilIface j | _=>False)
   (upd ρ (some t) (.func (.func g) #[] (capOps.map (AO ρ)))) h) (NC args) h) :
  A7 P f args h R:=by
 have hbs:b.body.isSome=true:=by rw[hb];rfl
 refine⟨⟨b,hf,hbs,hn⟩,λw hw=>(show Calls P f args w (Qy h w R)from calls_of_wp_defers hf hb ?_)⟩
 have X:C5 {tmps:=args++Array.replicate (b.ntmps-args.size) undef,defers:=[]} = NC args:=by
  funext t
  unfold C5 NC;rw[Array.getD_eq_getD_getElem?,List.getD_eq_getElem?_getD]
  rcases Nat.lt_or_ge t args.size with A | A
  ·rw[Array.getElem?_append_left A];simp
  ·rw[Array.getElem?_append_right A,List.getElem?_eq_none (by simpa using A)]
   rcases Nat.lt_or_ge (t-args.size) (b.ntmps-args.size)with j | j
   ·simp[j]
   ·rw[D1 (by simpa using j)]
 refine QM (qf:=qf) (ords:=ords) hm (λa h1 r hs hd hw1 hf1 HK=>?_) pre O _ h w (by simp;omega) rfl hw (Ax.refl h w) (by rw[X];exact H);generalize J:C5 a=ρ at HK;generalize Y:capOps.map (AO ρ)=caps at HK;refine wp_seq (wp_region ?_);show wpOps P _ _ [0,1] a r
 have S:(execOp a.eval ⟨some t,.makeFunc (.func g) #[] capOps,I,p1,af1,none⟩).run P r = .ok (.value (.func (.func g) #[] (capOps.map a.eval))) r:=by
  simp[execOp,Instr.makeFunc]
 have hev:capOps.map a.eval=caps:=by rw[Kc,J,Y]
 rw[hev]at S
 let m:Act:=a.put (some t) (.func (.func g) #[] caps)
 let d:Deferred:={target:=.fn (.func g) caps,args:=#[]}
 have hgt:m.tmps.getD t undef = .func (.func g) #[] caps:=by simp[m,Act.put,Array.getD,Nat.lt_of_lt_of_le A hs]
 have hdf:(execOp m.eval ⟨none,.defer ⟨.value (.tmp t),#[],#[]⟩,F,p2,Z,none⟩).run P r = .ok (.defer d) r:=by
  simp[execOp,resolve,Act.eval,hgt,d,Deferred.ofValue]
 let y:Act:={m with defers:=[d]}
 have hs2:b.ntmps<=y.tmps.size:=by simp[y,m,Act.put];exact hs
 have p:C5 y=upd ρ (some t) (.func (.func g) #[] caps):=by
  show C5 m=_;rw[<-J];exact IU _ λx M=>by cases M;exact Nat.lt_of_lt_of_le A hs
 have B:∀x∈E5 b.results.toList,C5 y x=ρ x:=λx M=>by
  have hne:x≠t:=λe=>by subst e;simp[M]at htk
  rw[p,GJ _ _ hne]
 have inv:∀(l:World),(invoke (.fn (.func g) caps) #[]).run P l = .ok (.enter g caps) l:=λl=>by
  simp[invoke,callFunc,hg,W,V]
  simpa using V
 have k:∀(z:Act) (j:PH) (l:World) (v:Value) (u u':FrameMode),(∀x∈E5 b.results.toList,C5 z x=ρ x)->BF j l->Ax h j w l ->
   Rr P qf ordsC Lc i tr tx b.results.toList R caps ρ v j->u≠.run->settle u' = .returning ->
   ((u = .returning/\v = .nilIface/\u' = .returning)\/(∃o,u = .panicking ({v:=v,recovered:=false} :: o)/\u' = .panicking ({v:=v,recovered:=true} :: o))) ->
   Leaves P b z.tmps (Qy h w R) [d] u l:=λz j l v u u' hk hw' hf' D hur N hu=>by
  refine leaves_cons hur (inv l) ?_;refine (YK (Rk:=λh''=>dq P b.results.toList R ρ h'') hm hg W hgr U htr htx hlc (by rw[<-Y];simpa using hcs) hw' D hu).mono λe u2 w2 T=>?_;obtain⟨rfl,⟨x,rfl⟩,h2,hw2,hf2,hres⟩:=T;simp only[N,Leaves];obtain⟨v2,r1,r2⟩:=HP (a:=z) hw2 (K:=λv=>R (.ret v) h2) (O6 _ _ hcr (λx M=>hk x M) hres);exact⟨v2,r1,h2,hw2,hf'.trans hf2,r2⟩
 have fin:q.wp P (bodyPostD P b (Qy h w R)) y r:=by
  refine wp_mono (E8 (w0:=w) (n:=b.ntmps) (G:=λa=>a.defers = [d]/\∀x∈E5 b.results.toList,C5 a x=ρ x) hm q (hl2 _) Q (Gw q C) _ y h1 r hs2 ⟨rfl,B⟩ hw1 hf1 (by rw[p];exact HK)) λe z l E=>?_;cases e <;> simp only[AQ,bodyPostD]at E ⊢
  ·obtain⟨b1,⟨b2,bk⟩,j,b3,b4,b5⟩:=E
   rw[b2];exact k z j l .nilIface .returning .returning bk b3 b4 b5 (by simp) rfl (.inl ⟨rfl,rfl,rfl⟩)
  ·obtain⟨_,_,_,_,_,T⟩:=E;exact T
  ·obtain⟨_,_,_,_,_,T⟩:=E;exact T
  ·obtain⟨b1,⟨b2,bk⟩,j,b3,b4,b5⟩:=E
   rw[b2];exact k z j l .nilIface .returning .returning bk b3 b4 b5 (by simp) rfl (.inl ⟨rfl,rfl,rfl⟩)
  ·obtain⟨⟨b2,bk⟩,j,b3,b4,v,rfl,b5⟩:=E
   rw[b2];exact k z j l v _ (.panicking [{v:=v,recovered:=true}]) bk b3 b4 b5 (by simp) rfl (.inr ⟨[],rfl,rfl⟩)
 simp only[wpOps,List.getElem?_toArray,List.getElem?_cons_zero,List.getElem?_cons_succ,Region.wanted,if_true]
 left
 unfold Oper.wp;rw[S,Oper.upon_value]
 left
 rw[show (a.put (some t) (.func (.func g) #[] caps))=m from rfl,hdf,Oper.upon_defer]
 have:({m with defers:=d::m.defers}:Act)=y:=by
  have:m.defers = []:=hd;simp only[y,this]
 show q.wp P (bodyPostD P b (Qy h w R)) ({m with defers:=d::m.defers}:Act) r;rw[this];exact fin
def Xh:Nat->Code->List Code
 | 0,_=>[]
 | k+1,.seq x y=>x::Xh k y
 | _+1,_=>[]
def FT:Nat->Code->Code
 | 0,c=>c
 | k+1,.seq _ y=>FT k y
 | _+1,c=>c
def NV:Nat->Code->Bool
 | 0,_=>true
 | k+1,.seq _ y=>NV k y
 | _+1,_=>false
theorem Sh:∀(k:Nat) (c:Code),NV k c=true->c=ZC (Xh k c) (FT k c)
 | 0,c,_=>rfl
 | k+1,.seq x y,h=>by
  show Code.seq x y = .seq x (ZC (Xh k y) (FT k y));rw[<-Sh k y h]
 | k+1,.skip,h | k+1,.ret,h | k+1,.exit _,h | k+1,.scope _,h | k+1,.label _,h | k+1,.goto _,h | k+1,.rangeFunc ..,h | k+1,.refuse _,h | k+1,.region ..,h | k+1,.cond ..,h | k+1,.block ..,h | k+1,.loop _,h=>by simp[NV]at h
def Rl:Code->Option (Nat×FuncId×Array Operand×Code)
 | .seq (.region _ ⟨[⟨some t,.makeFunc (.func g) ⟨[]⟩ caps,_,_,_,none⟩,⟨none,.defer ⟨.value (.tmp t'),⟨[]⟩,⟨[]⟩⟩,_,_,_,none⟩]⟩ false) c=>cond (Nat.beq t' t) (some (t,g,caps,c)) none
 | _=>none
theorem Rj {c l:Code} {t:Nat} {g:FuncId} {a:Array Operand} (h:Rl c=some (t,g,a,l)):∃id d j f b i e,
  c = .seq (.region id #[⟨some t,.makeFunc (.func g) #[] a,d,j,f,none⟩,⟨none,.defer ⟨.value (.tmp t),#[],#[]⟩,b,i,e,none⟩] false) l:=by
 unfold Rl at h
 split at h
 ·rename_i t1 m n d j f t2 b i e o
  cases k:Nat.beq t2 t1 <;> rw[k]at h <;> simp only[cond]at h
  ·cases h
  ·cases h
   have:=Nat.eq_of_beq_eq_true k;subst this;exact⟨_,_,_,_,_,_,_,rfl⟩
 ·cases h
def bh:Code->Option (Nat×Nat×Code)
 | .seq (.region _ ⟨[⟨some tr,.call ⟨.builtin .recover,⟨[]⟩,⟨[]⟩⟩,_,_,_,none⟩,⟨some tx,.assign (.tmp tr'),_,_,_,none⟩]⟩ false) c=>cond (Nat.beq tr' tr) (some (tr,tx,c)) none
 | _=>none
theorem VU {c j:Code} {tr tx:Nat} (h:bh c=some (tr,tx,j)):∃id b g e a f d,
  c = .seq (.region id #[⟨some tr,.call ⟨.builtin .recover,#[],#[]⟩,b,g,e,none⟩,⟨some tx,.assign (.tmp tr),a,f,d,none⟩] false) j:=by
 unfold bh at h
 split at h
 ·rename_i t1 b g e t2 t3 a f d k
  cases i:Nat.beq t3 t1 <;> rw[i]at h <;> simp only[cond]at h
  ·cases h
  ·cases h
   have:=Nat.eq_of_beq_eq_true i;subst this;exact⟨_,_,_,_,_,_,_,rfl⟩
 ·cases h
def bO (P:Program) (qf:FuncId->Bool) (ords ordsC:Nat->List (Nat×List Nat)) (L2:KP->Loops) (k:Nat) (c d:Code) (t:Nat) (g:FuncId) (tr tx:Nat) (capOps:Array Operand) (b:List ResultVar) (args:Array Value) (h:PH) (R:RT):Prop:=
 Rt P qf ords b R Fs (Xh k c) (λρ h=>den P qf ords (λc a=>∃v,c = [{v:=v,recovered:=false}]/\Rr P qf ordsC Fs (FT 1 d) tr tx b R (capOps.map (AO ρ)) ρ v a)
   (L2 (λc a=>∃v,c = [{v:=v,recovered:=false}]/\Rr P qf ordsC Fs (FT 1 d) tr tx b R (capOps.map (AO ρ)) ρ v a)) (FT (k+1) c)
   (λe _ a=>match e with | .normal=>Rr P qf ordsC Fs (FT 1 d) tr tx b R (capOps.map (AO ρ)) ρ .nilIface a | .ret=>Rr P qf ordsC Fs (FT 1 d) tr tx b R (capOps.map (AO ρ)) ρ .nilIface a | _=>False)
   (upd ρ (some t) (.func (.func g) #[] (capOps.map (AO ρ)))) h) (NC args) h
def Rm (P:Program) (qf:FuncId->Bool) (ords ordsC:Nat->List (Nat×List Nat)) (k:Nat) (a d:Func) (c e:Code) (t tr tx b:Nat):Bool:=
 NV k c&&decide (t<a.ntmps)&&Gg a.results.toList && !(E5 a.results.toList).contains t&&FK (E5 a.results.toList) (FT (k+1) c)&&((Xh k c).all λx=>Cr P qf a.ntmps ords x&&Nat.beq (DY x).length 0) &&
 Cr P qf a.ntmps ords (FT (k+1) c)&&Cr P qf d.ntmps ordsC (FT 1 e)&&Nat.beq (DY (FT 1 e)).length 0&&decide (tr<d.ntmps)&&decide (tx<d.ntmps)&&decide (b<=d.ntmps)
theorem M0 {ordsC:Nat->List (Nat×List Nat)} (v:P.follows .mixedOrders=true) {f g:FuncId} {b a:Func} {c d:Code} {k t tr tx:Nat} {capOps:Array Operand} {args:Array Value} {h:PH} {R:RT} {L2:KP->Loops}
  (y : P.funcs[f]? = some b) (u : (b.name == "runtime.NumGoroutine") = false) (z : b.body = some c) (w : P.funcs[g]? = some a) (j : (a.name == "runtime.NumGoroutine") = false) (l : a.body = some d)
  (i:a.results=#[]) (B:Rl (FT k c)=some (t,g,capOps,FT (k+1) c)) (A:bh d=some (tr,tx,FT 1 d)) (m:Rm P qf ords ordsC k b a c d t tr tx capOps.size=true)
  (e:∀Kp,Do P qf ords Kp (L2 Kp) (FT (k+1) c))
  (H:bO P qf ords ordsC L2 k c d t g tr tx capOps b.results.toList args h R):A7 P f args h R:=by
 simp only[Rm,Bool.and_eq_true,Bool.not_eq_true',CF]at m;obtain⟨⟨⟨⟨⟨⟨⟨⟨⟨⟨⟨b1,b2⟩,b3⟩,b4⟩,b5⟩,b6⟩,b7⟩,b9⟩,b10⟩,b11⟩,b12⟩,b13⟩:=m;obtain⟨id,q,N,I,p,M,G,D⟩:=Rj B;obtain⟨r,o,K,F,n,J,E,C⟩:=VU A;refine NH (qf:=qf) (ords:=ords) (ordsC:=ordsC) (L:=Fs) (Lc:=Fs) (L2:=L2) (pre:=Xh k c) v y u (by rw[z,<-D,<-Sh k c b1]) b2 b3 b4 b5 (λx s=>?_) b7 e w j (by rw[l,<-C]) i b9 b11 b12 (OL (Nat.eq_of_beq_eq_true b10)) b13 H;have:=List.all_eq_true.1 b6 x s;simp only[Bool.and_eq_true]at this;exact⟨this.1,OL (Nat.eq_of_beq_eq_true this.2)⟩
end
end Go.Pw

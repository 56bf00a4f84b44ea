/- Texts of this claim, one behind the other. -/
import Derived.Orders
import Derived.Below
set_option linter.unusedSimpArgs false
set_option linter.unusedVariables false
namespace Go.Pw
open Go
theorem Ad (n:Nat):0+n=n:=Nat.zero_add n
theorem BR (n:Nat):(n:Int).toNat=n:=Int.toNat_natCast n
theorem Ba :(false=true)=False:=Bool.false_eq_true
theorem B6 (h:Decidable True):@decide True h=true:=decide_true h
theorem BW (h:Decidable False):@decide False h=false:=decide_false h
theorem Bx :(¬True)=False:=not_true_eq_false
theorem D9 {p:Prop} {_:Decidable p}:decide p=false<->¬p:=decide_eq_false_iff_not
theorem CF {p:Prop} [Decidable p]:(decide p=true)=p:=decide_eq_true_eq
theorem C1 (p:Prop):(False->p)=True:=false_implies p
theorem CI (p:Prop):(True->p)=p:=true_implies p
theorem Bu {α:Type _} {l:List α} {i:Nat} (h:i<l.length):l[i]?=some l[i]:=List.getElem?_eq_getElem h
theorem Bc {α:Type _} {i:Nat} {a:α} {l:List α}:l[i]?=some a<->∃h:i<l.length,l[i]=a:=List.getElem?_eq_some_iff
theorem D1 {α:Type _} {i:Nat} {a:Array α} (h:a.size<=i):a[i]?=none:=Array.getElem?_eq_none h
theorem CJ :(¬False)=True:=not_false_eq_true
abbrev PH:=Nat->Option Obj
abbrev Env:=Nat->Value
def BF (h:PH) (w:World):Prop:=∀b o,h b=some o->w.heap[b]?=some o
structure Ax (h h':PH) (w w':World):Prop where
 os:w'.os=w.os
 tape:w'.tape=w.tape
 output:w'.output=w.output
 size:w.heap.size<=w'.heap.size
 keep:∀b,b<w.heap.size->h b=none->h' b=none/\w'.heap[b]?=w.heap[b]?
theorem Ax.refl (h:PH) (w:World):Ax h h w w:=⟨rfl,rfl,rfl,Nat.le_refl _,λ_ _ h=>⟨h,rfl⟩⟩
theorem Ax.trans {h g f:PH} {w d c:World} (a:Ax h g w d) (b:Ax g f d c):Ax h f w c:=
 ⟨b.os.trans a.os,b.tape.trans a.tape,b.output.trans a.output,Nat.le_trans a.size b.size,λk e j=>by
  obtain⟨x,y⟩:=a.keep k e j;obtain⟨x',i⟩:=b.keep k (Nat.lt_of_lt_of_le e a.size) x;exact⟨x',i.trans y⟩⟩
theorem ey {x b:Nat} (a:x≠b):Nat.beq x b=false:=by
 cases c:Nat.beq x b with
 | false=>rfl
 | true=>exact absurd (Nat.eq_of_beq_eq_true c) a
def ins (h:PH) (b:Nat) (o:Obj):PH:=λx=>cond (Nat.beq x b) (some o) (h x)
theorem AD (h:PH) (b:Nat) (o:Obj):ins h b o b=some o:=by simp[ins]
theorem Aq (h:PH) {b x:Nat} (o:Obj) (a:x≠b):ins h b o x=h x:=by
 have:Nat.beq x b=false:=ey a;simp[ins,this]
theorem TN (h:PH) {b c:Nat} (o p:Obj) (e:b≠c):ins (ins h b o) c p=ins (ins h c p) b o:=by
 funext x
 by_cases a:x=b
 ·subst a;rw[Aq _ _ e,AD,AD]
 ·by_cases d:x=c
  ·subst d;rw[AD,Aq _ _ a,AD]
  ·rw[Aq _ _ d,Aq _ _ a,Aq _ _ a,Aq _ _ d]
theorem BF.lt {h:PH} {w:World} (a:BF h w) {b:Nat} {o:Obj} (c:h b=some o):b<w.heap.size:=by
 have:=a b o c;exact (Array.getElem?_eq_some_iff.1 this).1
theorem BF.none {h:PH} {w:World} (a:BF h w) {b:Nat} (d:w.heap.size<=b):h b=none:=by
 cases c:h b with
 | none=>rfl
 | some o=>have:=a.lt c;omega
def Sub (h g:PH):Prop:=∀b o,h b=some o->g b=some o
theorem BF.sub {h g:PH} {w:World} (c:Sub h g) (a:BF g w):BF h w:=λb o d=>a b o (c b o d)
theorem AT {h:PH} {b:Nat} (o:Obj) (d:h b=none):Sub h (ins h b o):=λx p a=>by
 by_cases c:x=b
 ·subst c;rw[d]at a;cases a
 ·rw[Aq _ _ c];exact a
theorem MT {h d:PH} {b:Nat} {o:Obj} {w e:World} (m:h b=none) (l:BF (ins h b o) w) (j:BF d e) (a:Ax h d w e) :
  d b=none/\BF (ins d b o) e/\Ax (ins h b o) (ins d b o) w e:=by
 have k:b<w.heap.size:=l.lt (AD h b o);obtain⟨q,n⟩:=a.keep b k m;refine⟨q,λx p g=>?_,⟨a.os,a.tape,a.output,a.size,λx f i=>?_⟩⟩
 ·by_cases f:x=b
  ·subst f;rw[AD]at g;rw[n,l x o (AD h x o)];exact g
  ·rw[Aq _ _ f]at g;exact j x p g
 ·by_cases c:x=b
  ·subst c;rw[AD]at i;cases i
  ·rw[Aq _ _ c]at i ⊢;exact a.keep x f i
theorem Oi {h f:PH} {b:Nat} {o:Obj} {w e:World} (c:Ax h f w e):Ax (ins h b o) f w e:=
 ⟨c.os,c.tape,c.output,c.size,λx g d=>by
  by_cases a:x=b
  ·subst a;rw[AD]at d;cases d
  ·rw[Aq _ _ a]at d;exact c.keep x g d⟩
theorem YA {h g:PH} (v:Nat) {w f:World} (l:Sub h g) (k:BF g w) (i:BF h f) (a:Ax h h w f):BF g f/\Ax g g w f:=by
 refine⟨λb o d=>?_,⟨a.os,a.tape,a.output,a.size,λb d j=>⟨j,?_⟩⟩⟩
 ·cases c:h b with
  | none=>rw[(a.keep b (k.lt d) c).2];exact k b o d
  | some p=>
   have:=l b p c;rw[d]at this;injection this with e
   subst e;exact i b o c
 ·have:h b=none:=by
   cases c:h b with
   | none=>rfl
   | some p=>rw[l b p c]at j;cases j
  exact (a.keep b d this).2
def upd (ρ:Env) (d:Option Tmp) (v:Value):Env:=
 match d with
 | none=>ρ
 | some d=>λt=>cond (Nat.beq t d) v (ρ t)
def AO (ρ:Env):Operand->Value
 | .tmp t=>ρ t
 | .const v=>v
 | .global g=>.pointer (some ⟨g,0,none⟩)
 | .func f=>.func (.func f) #[] #[]
def C5 (a:Act):Env:=λt=>a.tmps.getD t undef
theorem Kc (a:Act):a.eval=AO (C5 a):=by funext x;cases x <;> rfl
theorem M5 (ρ:Env) (d:Tmp) (v:Value):upd ρ (some d) v d=v:=by simp[upd]
theorem GJ (ρ:Env) {d t:Tmp} (v:Value) (h:t≠d):upd ρ (some d) v t=ρ t:=by
 have:Nat.beq t d=false:=ey h;simp[upd,this]
theorem IU {a:Act} {d:Option Tmp} (v:Value) (h:∀x,d=some x->x<a.tmps.size):C5 (a.put d v)=upd (C5 a) d v:=by
 cases d with
 | none=>rfl
 | some d=>
  funext t
  have c:=h d rfl
  by_cases b:t=d
  ·subst b;rw[M5];simp[C5,Act.put,c]
  ·rw[GJ _ _ b]
   simp[C5,Act.put,Array.getElem?_setIfInBounds_ne (Ne.symm b)]
theorem J3 (ρ:Env) {x y:Option Tmp} (v u:Value) (h:∀d,x=some d->y≠some d):upd (upd ρ x v) y u=upd (upd ρ y u) x v:=by
 cases x with
 | none=>rfl
 | some d=>
  cases y with
  | none=>rfl
  | some e=>
   have b:d≠e:=λf=>h d rfl (f▸rfl)
   funext t
   by_cases a:t=d
   ·subst a;rw[GJ _ _ b,M5,M5]
   ·by_cases c:t=e
    ·subst c;rw[M5,GJ _ _ a,M5]
    ·rw[GJ _ _ c,GJ _ _ a,GJ _ _ a,GJ _ _ c]
def BS (ops:Array Oper) (ρ:Env) (j:Nat):Option Bool:=
 match (ops[j]?).bind (·.dst)with
 | some t=>(match ρ t with | .bool b=>some b | _=>none)
 | none=>none
theorem KD (ops:Array Oper) (a:Act):yielded ops a.tmps=BS ops (C5 a):=by
 funext j
 unfold yielded BS C5;cases (ops[j]?).bind (·.dst)with
 | none=>rfl
 | some t=>
  simp only[Option.bind_some];rw[Array.getD_eq_getD_getElem?];cases h:a.tmps[t]? with
  | none=>rfl
  | some v=>cases v <;> rfl
theorem YF {ρ:Env} {a:Option Tmp} {v:Value} {x:Operand} (h:∀d,a=some d->x≠.tmp d):AO (upd ρ a v) x=AO ρ x:=by
 cases a with
 | none=>rfl
 | some d=>
  cases x with
  | tmp t=>exact GJ _ _ (λe=>h d rfl (e▸rfl))
  | _=>rfl
theorem Dk {ops:Array Oper} (o:Oper) (f:∀cs b,o.op≠.select cs b) (ρ:Env) (a:Option Tmp) (v:Value) (h:∀d,a=some d->d ∉ o.looksAt ops) :
  execOp (AO (upd ρ a v)) o=execOp (AO ρ) o:=
 execOp_congr o f λx e=>YF λd g c=>h d g (by
  subst c;exact List.mem_append_left _ (List.mem_filterMap.2 ⟨.tmp d,by simpa using e,rfl⟩))
theorem Dj {ops:Array Oper} (o:Oper) (ρ:Env) (a:Option Tmp) (v:Value) (h:∀d,a=some d->d ∉ o.looksAt ops) :
  Region.wanted o (BS ops (upd ρ a v))=Region.wanted o (BS ops ρ):=by
 cases a with
 | none=>rfl
 | some d=>
  unfold Region.wanted;cases j:o.guard with
  | none=>rfl
  | some gw=>
   obtain⟨g,c⟩:=gw
   have f:BS ops (upd ρ (some d) v) g=BS ops ρ g:=by
    unfold BS;cases i:(ops[g]?).bind (·.dst)with
    | none=>rfl
    | some t=>
     have b:t≠d:=λe=>h d rfl (by subst e;simp[Oper.looksAt,j,i]);simp only[GJ _ _ b]
   simp only[f]
def OpY (P:Program) (o:Oper) (ρ:Env) (h:PH) (v:Value):Prop:=∀w,BF h w ->
 match (execOp (AO ρ) o).run P w with
 | .ok (.value u) w'=>w'=w/\u=v
 | .ok (.enter f args) w'=>w'=w/\Calls P f args w λe a=>match e with
   | .returned u=>u=v/\BF h a/\Ax h h w a
   | .panicked _=>False
   | .outgrown=>False
 | _=>False
def OpA (P:Program) (o:Oper) (ρ:Env) (obj:Obj) (mk:Nat->Value):Prop:=∀w,
 (execOp (AO ρ) o).run P w = .ok (.value (mk w.heap.size)) {w with heap:=w.heap.push obj}
def OpL (P:Program) (o:Oper) (ρ:Env) (h:PH) (K:Value->PH->Prop) (Kp:List PanicEntry->PH->Prop):Prop:=∀w,BF h w ->
 (match (execOp (AO ρ) o).run P w with
 | .ok (.value v) w'=>∃a,BF a w'/\Ax h a w w'/\K v a
 | .ok .skip w'=>∃a,BF a w'/\Ax h a w w'/\K undef a
 | .ok (.enter f args) w'=>w'=w/\Calls P f args w λe b=>match e with
   | .returned v=>∃a,BF a b/\Ax h a w b/\K v a
   | .panicked c=>∃a,BF a b/\Ax h a w b/\Kp c a
   | .outgrown=>False
 | .halt (.panic v) w'=>∃a,BF a w'/\Ax h a w w'/\Kp [{v,recovered:=false}] a
 | _=>False) \/
 False
theorem OpL.mono {P:Program} {o:Oper} {ρ:Env} {h:PH} {K l:Value->PH->Prop} {Kp g:List PanicEntry->PH->Prop}
  (i:∀v d,K v d->l v d) (k:∀c d,Kp c d->g c d) (H:OpL P o ρ h K Kp):OpL P o ρ h l g:=by
 intro w p
 rcases H w p with H | H
 ·left
  generalize (execOp (AO ρ) o).run P w=r at H;cases r with
  | ok n w'=>
   cases n <;> simp only at H ⊢
   case value v=>obtain⟨d,a,b,c⟩:=H;exact⟨d,a,b,i _ _ c⟩
   case skip=>obtain⟨d,a,b,c⟩:=H;exact⟨d,a,b,i _ _ c⟩
   case enter f args=>
    refine⟨H.1,H.2.mono λe m j=>?_⟩;cases e <;> simp only at j ⊢
    ·obtain⟨d,a,b,c⟩:=j;exact⟨d,a,b,i _ _ c⟩
    ·obtain⟨d,a,b,c⟩:=j;exact⟨d,a,b,k _ _ c⟩
  | halt x w'=>
   cases x <;> simp only at H ⊢
   case panic v=>obtain⟨d,a,b,c⟩:=H;exact⟨d,a,b,k _ _ c⟩
 ·exact .inr H
theorem OpY.sub {P:Program} {o:Oper} {ρ:Env} {h g:PH} {v:Value} (j:Sub h g) (H:OpY P o ρ h v):OpY P o ρ g v:=by
 intro w i;have d:=H w (i.sub j);generalize (execOp (AO ρ) o).run P w=r at d;cases r with
 | halt x w'=>cases x <;> exact d
 | ok n w'=>
  cases n <;> simp only at d ⊢
  case value u=>exact d
  case enter f args=>
   refine⟨d.1,d.2.mono λe l k=>?_⟩;cases e <;> simp only at k ⊢
   obtain⟨a,b,c⟩:=k;obtain⟨x,y⟩:=YA 0 j i b c;exact⟨a,x,y⟩
theorem OpL.frame {P:Program} {o:Oper} {ρ:Env} {h:PH} {K:Value->PH->Prop} {Kp:List PanicEntry->PH->Prop} {b:Nat} {obj:Obj} (j:h b=none)
  (H:OpL P o ρ h K Kp):OpL P o ρ (ins h b obj) (λv g=>∃d,d b=none/\g=ins d b obj/\K v d) Kp:=by
 intro w i;have k:BF h w:=i.sub (AT obj j)
 rcases H w k with H | H
 ·left
  generalize (execOp (AO ρ) o).run P w=r at H;cases r with
  | ok n w'=>
   cases n <;> simp only at H ⊢
   case value v=>obtain⟨d,a,f,c⟩:=H;obtain⟨x,y,z⟩:=MT j i a f;exact⟨_,y,z,d,x,rfl,c⟩
   case skip=>obtain⟨d,a,f,c⟩:=H;obtain⟨x,y,z⟩:=MT j i a f;exact⟨_,y,z,d,x,rfl,c⟩
   case enter f args=>
    refine⟨H.1,H.2.mono λe m l=>?_⟩;cases e <;> simp only at l ⊢
    ·obtain⟨d,a,f,c⟩:=l;obtain⟨x,y,z⟩:=MT j i a f;exact⟨_,y,z,d,x,rfl,c⟩
    ·obtain⟨d,a,f,c⟩:=l;exact⟨d,a,Oi f,c⟩
  | halt x w'=>
   cases x <;> simp only at H ⊢
   case panic v=>obtain⟨d,a,f,c⟩:=H;exact⟨d,a,Oi f,c⟩
 ·exact .inr H
end Go.Pw
namespace Go.Pw
inductive Cls where
 | pure | read | loud | alloc
 deriving DecidableEq
def KU (a:Array Nat) (o:Oper):Nat:=
 o.after.foldl (λs e=>if Region.binds .any e&&decide (e.on<a.size)then s ||| 2^e.on ||| a.getD e.on 0 else s) 0
def RW:List Oper->Array Nat->Array Nat
 | [],acc=>acc
 | o::l,acc=>RW l (acc.push (KU acc o))
def EJ (ops:Array Oper):Array Nat:=RW ops.toList #[]
theorem TF (a:Array Nat) (q:Nat):∀(l:List Edge) (s:Nat),
  (l.foldl (λs e=>if Region.binds .any e&&decide (e.on<a.size)then s ||| 2^e.on ||| a.getD e.on 0 else s) s).testBit q=true ->
  s.testBit q=true\/∃e∈l,Region.binds .any e=true/\e.on<a.size/\(e.on=q\/(a.getD e.on 0).testBit q=true):=by
 intro l
 induction l with
 | nil=>intro s h;exact .inl h
 | cons e l ih=>
  intro s h;simp only[List.foldl_cons]at h
  rcases ih _ h with h1 | ⟨e',he,h1⟩
  ·by_cases b:(Region.binds .any e&&decide (e.on<a.size))=true
   ·simp only[b,if_true,Nat.testBit_or,Bool.or_eq_true]at h1
    simp only[Bool.and_eq_true,CF]at b
    rcases h1 with (h1 | h1) | h1
    ·exact .inl h1
    ·right
     refine⟨e,by simp,b.1,b.2,.inl ?_⟩;rw[Nat.testBit_two_pow]at h1
     simpa using h1
    ·exact .inr ⟨e,by simp,b.1,b.2,.inr h1⟩
   ·simp only[b]at h1
    exact .inl h1
  ·exact .inr ⟨e',by simp[he],h1⟩
theorem TE {a:Array Nat} {o:Oper} {q:Nat} (h:(KU a o).testBit q=true) :
  ∃e∈o.after,Region.binds .any e=true/\e.on<a.size/\(e.on=q\/(a.getD e.on 0).testBit q=true):=by
 unfold KU at h;rw[<-Array.foldl_toList]at h
 rcases TF a q _ _ h with h1 | ⟨e,he,h1⟩
 ·simp at h1
 ·exact⟨e,by simpa using he,h1⟩
def SO (ops:Array Oper) (m:Array Nat):Prop:=∀i q,(m.getD i 0).testBit q=true->∃o,ops[i]?=some o/\∃e∈o.after,Region.binds .any e=true/\e.on<i/\(e.on=q\/(m.getD e.on 0).testBit q=true)
theorem OV (ops:Array Oper):∀(l:List Oper) (a:Array Nat),(∀j,l[j]?=ops[a.size+j]?)->SO ops a->SO ops (RW l a)
 | [],a,_,h=>h
 | o::l,a,hl,h=>by
  refine OV ops l _ (λj=>by have:=hl (j+1);simpa [Nat.add_assoc,Nat.add_comm 1 j]using this) ?_;intro i q f
  have b:∀k,k<a.size->(a.push (KU a o)).getD k 0=a.getD k 0:=λk p=>by
   simp only[Array.getD_eq_getD_getElem?];rw[Array.getElem?_push,if_neg (by omega)]
  rcases Nat.lt_trichotomy i a.size with hi | hi | hi
  ·rw[b i hi]at f
   obtain⟨o',g,e,m,n,c,d⟩:=h i q f;exact⟨o',g,e,m,n,c,d.imp id (λd=>by rw[b _ (by omega)];exact d)⟩
  ·subst hi
   have h0:(a.push (KU a o)).getD a.size 0=KU a o:=by
    simp[Array.getD_eq_getD_getElem?]
   rw[h0]at f;obtain⟨e,m,n,c,d⟩:=TE f;exact⟨o,by simpa using (hl 0).symm,e,m,n,c,d.imp id (λd=>by rw[b _ c];exact d)⟩
  ·have h0:(a.push (KU a o)).getD i 0=0:=by
    simp only[Array.getD_eq_getD_getElem?];rw[D1 (by simp;omega)];rfl
   rw[h0]at f;simp at f
theorem OU (ops:Array Oper):SO ops (EJ ops):=
 OV ops _ _ (by simp) (λi q h=>by simp[Array.getD_eq_getD_getElem?]at h)
def FN (ops:Array Oper) (listed:Array Bool):Prop:=listed.size=ops.size/\∀j a,ops[j]?=some a->listed.getD j false=true->∀e∈a.after,Region.binds .any e=true->listed.getD e.on false=true
theorem FN.set {ops:Array Oper} {listed:Array Bool} {i:Nat} (k:FN ops listed) (hi:i∈Region.ready .any ops listed):FN ops (listed.setIfInBounds i true):=by
 obtain⟨_,m,c,b⟩:=mem_ready.1 hi;refine⟨by simp[k.1],λj d g f e h l=>?_⟩
 by_cases a:i=j
 ·subst a
  have:d=m:=Option.some.inj (g.symm.trans c);subst this;exact getD_set_true (b e h l)
 ·rw[getD_set_ne false a]at f
  exact getD_set_true (k.2 j d g f e h l)
theorem FN.mask {ops:Array Oper} {listed:Array Bool} (p:FN ops listed) {m:Array Nat} (l:SO ops m) :
  ∀i q,(∀o,ops[i]?=some o->∀e∈o.after,Region.binds .any e=true->listed.getD e.on false=true)->(m.getD i 0).testBit q=true->listed.getD q false=true:=by
 intro i
 induction i using Nat.strongRecOn with
 | _ i ih=>
  intro q a j;obtain⟨o,k,e,n,r,c,f⟩:=l i q j;have h:=a o k e n r
  rcases f with rfl | f
  ·exact h
  ·exact ih e.on c q (λo' b s d g=>p.2 e.on o' b h s d g) f
theorem Fj {listed:Array Bool} {i:Nat} (h:listed.getD i true=false):listed.getD i false=false:=by
 rcases Nat.lt_or_ge i listed.size with h' | h'
 ·simp[h']at h ⊢;exact h
 ·simp[D1 h']at h
section
variable (P:Program) (ops:Array Oper) (cls:Oper->Cls) (Q:Env->PH->Prop) (Kp:List PanicEntry->PH->Prop)
def ReY (listed:Array Bool) (i:Nat) (ρ:Env) (h:PH):Prop:=∀q a,ops[q]?=some a->listed.getD q false=true->cls a = .read->((EJ ops).getD i 0).testBit q=false ->
 Region.wanted a (BS ops ρ)=true->∃v,OpY P a ρ h v/\∀d,a.dst=some d->ρ d=v
def Gi (K:Env->PH->Prop) (listed:Array Bool) (i:Nat) (ρ:Env) (h:PH):Prop:=
 match ops[i]? with
 | none=>K ρ h
 | some o=>
  if Region.wanted o (BS ops ρ)then
   match cls o with
   | .pure=>∃v,OpY P o ρ (λ_=>none) v/\K (upd ρ o.dst v) h
   | .read=>∃v,OpY P o ρ h v/\K (upd ρ o.dst v) h
   | .alloc=>∃obj mk,OpA P o ρ obj mk/\∀b,h b=none->K (upd ρ o.dst (mk b)) (ins h b obj)
   | .loud=>OpL P o ρ h (λv a=>ReY P ops cls listed i ρ a/\K (upd ρ o.dst v) a) Kp
  else K (upd ρ o.dst undef) h
def Kj:Nat->Array Bool->Env->PH->Prop
 | 0,listed,ρ,h=>Region.ready .any ops listed = []/\Q ρ h
 | fuel+1,listed,ρ,h=>(Region.ready .any ops listed = []->Q ρ h) /\
  ∀i∈Region.ready .any ops listed,Gi P ops cls Kp (Kj fuel (listed.setIfInBounds i true)) listed i ρ h
end
section
variable {P:Program} {ops:Array Oper} {cls:Oper->Cls} {Q:Env->PH->Prop} {Kp:List PanicEntry->PH->Prop}
structure KL (P:Program) (ops:Array Oper) (cls:Oper->Cls):Prop where
 sel:∀(j:Nat) (o:Oper) cs b,ops[j]?=some o->o.op≠.select cs b
 look:∀(q k:Nat) (oq ok:Oper) (d:Tmp),ops[q]?=some oq->ops[k]?=some ok->cls oq = .read->ok.dst=some d->d∈oq.looksAt ops->((EJ ops).getD q 0).testBit k=true
 own:∀(q k:Nat) (oq ok:Oper) (d:Tmp),ops[q]?=some oq->ops[k]?=some ok->cls oq = .read->k≠q->oq.dst=some d->ok.dst≠some d
 has:∀(q:Nat) (oq:Oper),ops[q]?=some oq->cls oq = .read->∃d,oq.dst=some d
def YE (P:Program) (ops:Array Oper) (cls:Oper->Cls) (o:Oper) (ρ:Env) (h:PH) (v:Value):Prop:=
 (Region.wanted o (BS ops ρ)=true/\((cls o = .pure/\OpY P o ρ (λ_=>none) v)\/(cls o = .read/\OpY P o ρ h v))) \/
 (Region.wanted o (BS ops ρ)=false/\v=undef)
theorem OpY.env {o:Oper} {ρ ρ':Env} {h:PH} {v:Value} (a:execOp (AO ρ') o=execOp (AO ρ) o):OpY P o ρ' h v↔OpY P o ρ h v:=by
 unfold OpY;rw[a]
theorem OpA.env {o:Oper} {ρ ρ':Env} {obj:Obj} {mk:Nat->Value} (a:execOp (AO ρ') o=execOp (AO ρ) o):OpA P o ρ' obj mk↔OpA P o ρ obj mk:=by
 unfold OpA;rw[a]
theorem OpL.env {o:Oper} {ρ ρ':Env} {h:PH} {K:Value->PH->Prop} (a:execOp (AO ρ') o=execOp (AO ρ) o):OpL P o ρ' h K Kp↔OpL P o ρ h K Kp:=by
 unfold OpL;rw[a]
theorem YE.env {o:Oper} {ρ ρ':Env} {h:PH} {v:Value} (b:execOp (AO ρ') o=execOp (AO ρ) o) (a:Region.wanted o (BS ops ρ')=Region.wanted o (BS ops ρ))
  (H:YE P ops cls o ρ h v):YE P ops cls o ρ' h v:=by
 unfold YE at *;simp only[OpY.env b,a];exact H
theorem YE.sub {o:Oper} {ρ:Env} {h g:PH} {v:Value} (c:Sub h g) (H:YE P ops cls o ρ h v):YE P ops cls o ρ g v:=by
 rcases H with⟨a,b | b⟩ | b
 ·exact .inl ⟨a,.inl b⟩
 ·exact .inl ⟨a,.inr ⟨b.1,b.2.sub c⟩⟩
 ·exact .inr b
theorem YE.step {i:Nat} {b:Oper} {ρ:Env} {h:PH} {v:Value} {K:Env->PH->Prop} {listed:Array Bool} (hi:ops[i]?=some b) (f:YE P ops cls b ρ h v)
  (d:K (upd ρ b.dst v) h):Gi P ops cls Kp K listed i ρ h:=by
 unfold Gi;simp only[hi]
 rcases f with⟨a,⟨e,c⟩ | ⟨e,c⟩⟩ | ⟨a,rfl⟩
 ·simp only[a,if_true,e];exact⟨v,c,d⟩
 ·simp only[a,if_true,e];exact⟨v,c,d⟩
 ·simp only[a,Ba,if_false];exact d
def Apt (ops:Array Oper) (listed:Array Bool) (i:Nat) (b:Oper):Prop:=
 ∀j a,ops[j]?=some a->j≠i->listed.getD j true=false->(∀e∈a.after,Region.binds .any e=true->e.on≠i)->b.apart ops a=true
theorem Apt.set {listed:Array Bool} {i j:Nat} {e:Oper} (h:Apt ops listed i e) (l:listed.getD j true=false):Apt ops (listed.setIfInBounds j true) i e:=λk f g d a c=>by
 refine h k f g d ?_ c
 by_cases b:j=k
 ·subst b;exact l
 ·rw[getD_set_ne true b]at a;exact a
theorem KS {listed:Array Bool} {i j:Nat} {m g:Oper} (h:Apt ops listed i m) (hi:i∈Region.ready .any ops listed) (o:j∈Region.ready .any ops listed) (k:j≠i) (c:ops[j]?=some g):m.apart ops g=true:=by
 obtain⟨d,a,b,f⟩:=mem_ready.1 o;have:a=g:=Option.some.inj (b.symm.trans c);subst this;refine h j a c k d λe p q l=>?_;have n:=f e p q;have h0:=Fj (mem_ready.1 hi).1;rw[l,h0]at n;cases n
theorem Ig {listed:Array Bool} (f:FN ops listed) {j q:Nat} (e:j∈Region.ready .any ops listed) (c:listed.getD q false=false):((EJ ops).getD j 0).testBit q=false:=by
 cases g:((EJ ops).getD j 0).testBit q with
 | false=>rfl
 | true=>
  obtain⟨_,o,d,a⟩:=mem_ready.1 e;have:=f.mask (OU ops) j q (λo' b=>by have:o'=o:=Option.some.inj (b.symm.trans d);subst this;exact a) g;rw[c]at this;cases this
theorem KL.clear (R:KL P ops cls) {listed:Array Bool} (h:FN ops listed) {i q:Nat} {c b:Oper} (e:ops[i]?=some c) (a:ops[q]?=some b) (k:cls b = .read)
  (hi:listed.getD i false=false) (l:listed.getD q false=true):∀d,c.dst=some d->d ∉ b.looksAt ops:=λd m g=>by
 have n:=R.look q i b c d a e k m g;have j:=h.mask (OU ops) q i (λo' f=>by have:o'=b:=Option.some.inj (f.symm.trans a);subst this;exact h.2 q o' a l) n;rw[hi]at j;cases j
theorem TD (q:Nat):((EJ ops).getD q 0).testBit q=false:=by
 cases b:((EJ ops).getD q 0).testBit q with
 | false=>rfl
 | true=>
  exfalso
  have:∀i q,q>=i->((EJ ops).getD i 0).testBit q=false:=by
   intro i
   induction i using Nat.strongRecOn with
   | _ i ih=>
    intro q f;cases b:((EJ ops).getD i 0).testBit q with
    | false=>rfl
    | true=>
     obtain⟨o,g,e,h,d,c,a⟩:=OU ops i q b
     rcases a with rfl | a
     ·omega
     ·rw[ih e.on c q (by omega)]at a;cases a
  rw[this q q (Nat.le_refl _)]at b;cases b
theorem KL.self (R:KL P ops cls) {q:Nat} {a:Oper} (b:ops[q]?=some a) (f:cls a = .read):∀d,a.dst=some d->d ∉ a.looksAt ops:=λd g c=>by
 have e:=R.look q q a a d b b f g c;rw[TD]at e;cases e
theorem ReY.unput (R:KL P ops cls) {listed:Array Bool} (t:FN ops listed) {i j:Nat} {f:Oper} {ρ:Env} {h:PH} {v:Value} (g:ops[i]?=some f) (hi:listed.getD i false=false)
  (H:ReY P ops cls (listed.setIfInBounds i true) j (upd ρ f.dst v) h):ReY P ops cls listed j ρ h:=by
 intro q c a l m s r;have k:=R.clear t g a m hi l;have n:i≠q:=λe=>by subst e;rw[hi]at l;cases l
 have hw':Region.wanted c (BS ops (upd ρ f.dst v))=true:=by rw[Dj c ρ _ v k];exact r
 obtain⟨u,x,w⟩:=H q c a (getD_set_true l) m s hw';refine⟨u,(OpY.env (Dk c (λcs b=>R.sel q c cs b a) ρ _ v k)).1 x,λd p=>?_⟩;rw[<-w d p];cases o:f.dst with
 | none=>rfl
 | some d'=>exact (GJ _ _ λe=>R.own q i c f d a g m n p (by rw[o,e])).symm
theorem TV (R:KL P ops cls) {i:Nat} {e:Oper} (c:ops[i]?=some e):∀(a:Nat) (listed:Array Bool) (ρ:Env) (h:PH) (v:Value),
  FN ops listed->Apt ops listed i e->i∈Region.ready .any ops listed->YE P ops cls e ρ h v ->
  Kj P ops cls Q Kp a (listed.setIfInBounds i true) (upd ρ e.dst v) h->Kj P ops cls Q Kp (a+1) listed ρ h:=by
 intro a
 induction a with
 | zero=>
  intro listed ρ h v hc hap hr k H;refine⟨λh0=>(by rw[h0]at hr;cases hr),λj t=>?_⟩
  by_cases f:j=i
  ·subst f;exact k.step c H
  ·have:=ready_mono t f
   rw[H.1]at this;cases this
 | succ a ih=>
  intro listed ρ h v hc hap hr k H;refine⟨λh0=>(by rw[h0]at hr;cases hr),λj t=>?_⟩
  by_cases f:j=i
  ·subst f;exact k.step c H
  ·have n:=H.2 j (ready_mono t f)
   obtain⟨x,p,r,I⟩:=mem_ready.1 t;have q:=Fj (mem_ready.1 hr).1;obtain⟨K,O,J⟩:=Oper.apart_spec (KS hap hr t f r);have o:=Dk p (λcs b=>R.sel j p cs b r) ρ e.dst v K;have B:=Dj p ρ e.dst v K
   have s:∀u g,YE P ops cls e ρ g v->YE P ops cls e (upd ρ p.dst u) g v:=λu g k=>
    k.env (Dk e (λcs b=>R.sel i e cs b c) ρ p.dst u J) (Dj e ρ p.dst u J)
   have m:∀u g,YE P ops cls e ρ g v->Kj P ops cls Q Kp a ((listed.setIfInBounds i true).setIfInBounds j true) (upd (upd ρ e.dst v) p.dst u) g ->
     Kj P ops cls Q Kp (a+1) (listed.setIfInBounds j true) (upd ρ p.dst u) g:=λu g k z=>by
    refine ih _ _ _ v (hc.set t) (hap.set x) (ready_mono hr (Ne.symm f)) (s u g k) ?_;rw[Array.setIfInBounds_comm _ _ f,<-J3 ρ v u O];exact z
   unfold Gi at n ⊢;simp only[r]at n ⊢;rw[B]at n
   split
   ·rename_i C
    simp only[C,if_true]at n
    split <;> rename_i E <;> simp only[E]at n
    ·obtain⟨u,b1,b2⟩:=n
     exact⟨u,(OpY.env o).1 b1,m u h k b2⟩
    ·obtain⟨u,b1,b2⟩:=n
     exact⟨u,(OpY.env o).1 b1,m u h k b2⟩
    ·obtain⟨obj,mk,b1,b2⟩:=n
     exact⟨obj,mk,(OpA.env o).1 b1,λb G=>m _ _ (k.sub (AT obj G)) (b2 b G)⟩
    ·refine ((OpL.env o).1 n).mono (λu N z=>?_) (λ_ _ z=>z)
     obtain⟨b1,b2⟩:=z;refine⟨b1.unput R hc c q,m u N ?_ b2⟩
     rcases k with⟨A,w | ⟨w,S⟩⟩ | y
     ·exact .inl ⟨A,.inl w⟩
     ·refine .inl ⟨A,.inr ⟨w,?_⟩⟩
      have l:=R.self c w;have D:i<listed.size:=by rw[hc.1];exact (Array.getElem?_eq_some_iff.1 c).1
      obtain⟨d,F⟩:=R.has i e c w;obtain⟨T,M,L⟩:=b1 i e c (by simp[D]) w (Ig hc t q) (by rw[Dj e ρ _ v l];exact A);have:=L d F;rw[F,M5]at this;subst this;exact (OpY.env (Dk e (λcs b=>R.sel i e cs b c) ρ _ v l)).1 M
     ·exact .inr y
   ·rename_i C
    simp only[C]at n;exact m _ h k n
theorem OpA.same {o:Oper} {ρ:Env} {obj b:Obj} {mk c:Nat->Value} (h:OpA P o ρ obj mk) (f:OpA P o ρ b c):b=obj/\c=mk:=by
 have key:∀n,c n=mk n/\b=obj:=λn=>by
  have e:=(f {(default:World)with heap:=Array.replicate n (.map #[] 0)}).symm.trans (h {(default:World)with heap:=Array.replicate n (.map #[] 0)});simp only[Result.ok.injEq,Next.value.injEq,World.mk.injEq,Array.size_replicate]at e;refine⟨e.1,?_⟩;have d:=congrArg (λa=>a.toList.getLast?) e.2.1
  simpa using d
 exact⟨(key 0).2,funext λn=>(key n).1⟩
def cnt (ops:Array Oper) (listed:Array Bool):Nat:=((List.range ops.size).filter λi=>!listed.getD i true).length
theorem NZ {listed:Array Bool} {i:Nat} (hi:i<ops.size) (c:listed.size=ops.size) (b:listed.getD i true=false):cnt ops (listed.setIfInBounds i true)<cnt ops listed:=by
 unfold cnt
 have:∀l:List Nat,((l.filter λk=>!(listed.setIfInBounds i true).getD k true).length<=(l.filter λk=>!listed.getD k true).length) /\
   (i∈l->(l.filter λk=>!(listed.setIfInBounds i true).getD k true).length<(l.filter λk=>!listed.getD k true).length):=by
  intro l
  induction l with
  | nil=>simp
  | cons k l ih=>
   by_cases a:i=k
   ·subst a
    have d:(listed.setIfInBounds i true).getD i true=true:=by simp[c,hi]
    simp only[List.filter_cons,d,b,Bool.not_true,Bool.not_false,Ba,if_false,if_true,List.length_cons];exact⟨by have:=ih.1;omega,λ_=>by have:=ih.1;omega⟩
   ·rw[List.filter_cons,List.filter_cons,getD_set_ne true a]
    split
    ·simp only[List.length_cons,List.mem_cons]
     exact⟨by have:=ih.1;omega,λh=>by have:=ih.2 (h.resolve_left a);omega⟩
    ·simp only[List.mem_cons]
     exact⟨ih.1,λh=>ih.2 (h.resolve_left a)⟩
 exact (this _).2 (List.mem_range.2 hi)
theorem Wn {listed:Array Bool} {i:Nat} (hi:i<ops.size) (b:listed.getD i true=false):0<cnt ops listed:=by
 unfold cnt;exact List.length_pos_of_mem (a:=i) (List.mem_filter.2 ⟨List.mem_range.2 hi,by rw[b];rfl⟩)
def N0 (ops:Array Oper) (cls:Oper->Cls) (listed:Array Bool) (i:Nat):Prop:=
 ∀k a,ops[k]?=some a->k≠i->listed.getD k true=false->cls a = .alloc\/((EJ ops).getD k 0).testBit i=true
theorem N0.set {listed:Array Bool} {i j:Nat} (h:N0 ops cls listed i) (f:listed.getD j true=false):N0 ops cls (listed.setIfInBounds j true) i:=λk d e c a=>by
 refine h k d e c ?_
 by_cases b:j=k
 ·subst b;exact f
 ·rw[getD_set_ne true b]at a;exact a
theorem N0.alloc {listed:Array Bool} {i j:Nat} {a:Oper} (e:FN ops listed) (h:N0 ops cls listed i) (hi:listed.getD i true=false) (d:j∈Region.ready .any ops listed) (c:j≠i) (b:ops[j]?=some a):cls a = .alloc:=by
 rcases h j a b c (mem_ready.1 d).1 with h | h
 ·exact h
 ·rw[Ig e d (Fj hi)]at h;cases h
structure Yd (P:Program) (ops:Array Oper) (cls:Oper->Cls) (listed:Array Bool) (i:Nat) (ρ:Env):Prop where
 can:∀k ok,ops[k]?=some ok->k≠i->listed.getD k true=false->cls ok = .alloc->((EJ ops).getD k 0).testBit i=false->Region.wanted ok (BS ops ρ)=true->∃obj mk,OpA P ok ρ obj mk
 apart:∀k l ok ol d,ops[k]?=some ok->ops[l]?=some ol->k≠i->l≠i->k≠l->listed.getD k true=false->listed.getD l true=false->cls ok = .alloc->cls ol = .alloc ->
  ((EJ ops).getD k 0).testBit i=false->((EJ ops).getD l 0).testBit i=false->ok.dst=some d->d ∉ ol.looksAt ops
theorem Yt {listed:Array Bool} {j k:Nat} (h:(listed.setIfInBounds j true).getD k true=false):j≠k/\listed.getD k true=false:=by
 by_cases a:j=k
 ·subst a
  exfalso
  rw[Array.getD_eq_getD_getElem?]at h
  by_cases b:j<listed.size
  ·rw[Array.getElem?_setIfInBounds_self_of_lt b]at h;cases h
  ·rw[D1 (by simp;omega)]at h;cases h
 ·rw[getD_set_ne true a]at h;exact⟨a,h⟩
theorem Yd.set {listed:Array Bool} {i j:Nat} {c:Oper} {ρ:Env} {u:Value} (sel:∀(j:Nat) (o:Oper) cs b,ops[j]?=some o->o.op≠.select cs b) (h:Yd P ops cls listed i ρ) (g:ops[j]?=some c) (p:j≠i) (r:listed.getD j true=false) (e:cls c = .alloc) (m:((EJ ops).getD j 0).testBit i=false) :
  Yd P ops cls (listed.setIfInBounds j true) i (upd ρ c.dst u) where
 can k ok hk hki a hal hm hw:=by
  obtain⟨n,a⟩:=Yt a;have f:∀d,c.dst=some d->d ∉ ok.looksAt ops:=λd q=>h.apart j k c ok d g hk p hki n r a e hal m hm q;rw[Dj ok ρ _ u f]at hw;obtain⟨obj,mk,s⟩:=h.can k ok hk hki a hal hm hw;exact⟨obj,mk,(OpA.env (Dk ok (λcs b=>sel k ok cs b hk) ρ _ u f)).2 s⟩
 apart k l ok ol d hk hl hki hli hkl hunk hunl hak hal hmk hml q:=
  h.apart k l ok ol d hk hl hki hli hkl (Yt hunk).2 (Yt hunl).2 hak hal hmk hml q
theorem VM (R:KL P ops cls) {i:Nat} {p:Oper} (B:ops[i]?=some p) (U:cls p = .loud):∀(l:Nat) (listed:Array Bool) (ρ:Env) (h:PH),
  FN ops listed->Apt ops listed i p->N0 ops cls listed i->Yd P ops cls listed i ρ->i∈Region.ready .any ops listed->cnt ops listed<=l+1->Region.wanted p (BS ops ρ)=true ->
  OpL P p ρ h (λv W=>ReY P ops cls listed i ρ W/\Kj P ops cls Q Kp l (listed.setIfInBounds i true) (upd ρ p.dst v) W) Kp->Kj P ops cls Q Kp (l+1) listed ρ h:=by
 intro l
 induction l with
 | zero=>
  intro listed ρ h hc hap hal hid hr hn hw H;refine⟨λh0=>(by rw[h0]at hr;cases hr),λj z=>?_⟩
  by_cases f:j=i
  ·subst f;unfold Gi;simp only[B,hw,if_true,U];exact H
  ·exfalso
   have C:=(mem_ready.1 hr).1;obtain⟨hj1,n,a,_⟩:=mem_ready.1 z;have S:=(Array.getElem?_eq_some_iff.1 B).1;have x:=(Array.getElem?_eq_some_iff.1 a).1;have h1:=NZ (ops:=ops) S hc.1 C;have h2:=Wn (ops:=ops) (listed:=listed.setIfInBounds i true) x (by rw[getD_set_ne true (Ne.symm f)];exact hj1);omega
 | succ l ih=>
  intro listed ρ h hc hap hal hid hr hn hw H;refine⟨λh0=>(by rw[h0]at hr;cases hr),λj z=>?_⟩
  by_cases f:j=i
  ·subst f;unfold Gi;simp only[B,hw,if_true,U];exact H
  ·obtain⟨k,n,a,hall⟩:=mem_ready.1 z
   have C:=(mem_ready.1 hr).1;have o:=hal.alloc hc C z f a;have O:=Ig hc z (Fj C);have D:=λu=>hid.set (u:=u) R.sel a f k o O;have x:=(Array.getElem?_eq_some_iff.1 a).1;obtain⟨a1,a2,a3⟩:=Oper.apart_spec (KS hap hr z f a);have T:∀u,execOp (AO (upd ρ n.dst u)) p=execOp (AO ρ) p:=λu=>Dk p (λcs b=>R.sel i p cs b B) ρ n.dst u a3;have M:∀u,Region.wanted p (BS ops (upd ρ n.dst u))=true:=λu=>by rw[Dj p ρ n.dst u a3];exact hw
   have hej:∀u,execOp (AO (upd ρ p.dst u)) n=execOp (AO ρ) n:=λu=>Dk n (λcs b=>R.sel j n cs b a) ρ p.dst u a1;have L:∀u,Region.wanted n (BS ops (upd ρ p.dst u))=Region.wanted n (BS ops ρ):=λu=>Dj n ρ p.dst u a1;have E:cnt ops (listed.setIfInBounds j true)<=l+1:=by have:=NZ (ops:=ops) x hc.1 k;omega
   have t:∀u g,ReY P ops cls listed i ρ g->ReY P ops cls (listed.setIfInBounds j true) i (upd ρ n.dst u) g:=by
    intro u g w q G m X r hm A;have N:j≠q:=λe=>by subst e;rw[a]at m;injection m with m;subst m;rw[o]at r;cases r
    have hl':listed.getD q false=true:=by rw[getD_set_ne false N]at X;exact X
    have F:=R.clear hc a m r (Fj k) hl';rw[Dj G ρ _ u F]at A;obtain⟨v,Z,Y⟩:=w q G m hl' r hm A;refine⟨v,(OpY.env (Dk G (λcs b=>R.sel q G cs b m) ρ _ u F)).2 Z,λd hd=>?_⟩;rw[<-Y d hd];cases hdj:n.dst with
    | none=>rfl
    | some d'=>exact GJ _ _ λe=>R.own q j G n d m a r N hd (by rw[hdj,e])
   unfold Gi;simp only[a]
   split
   ·rename_i s
    simp only[o];obtain⟨obj,mk,ha⟩:=hid.can j n a f k o O s;refine⟨obj,mk,ha,λb hb=>?_⟩;refine ih _ _ _ (hc.set z) (hap.set k) (hal.set k) (D _) (ready_mono hr (Ne.symm f)) E (M _) ?_;refine (OpL.env (T _)).2 ((H.frame (obj:=obj) hb).mono (λv g J=>?_) (λc g J=>J))
    ·obtain⟨W,V,rfl,w,y⟩:=J
     refine⟨λq G m X r hm A=>?_,?_⟩
     ·obtain⟨v',Z,Y⟩:=t (mk b) W w q G m X r hm A
      exact⟨v',Z.sub (AT obj V),Y⟩
     ·have I:=y.2 j (ready_mono z f)
      unfold Gi at I;simp only[a,L,s,if_true,o]at I;obtain⟨obj',mk',b1,b2⟩:=I;obtain⟨rfl,rfl⟩:=ha.same ((OpA.env (hej v)).1 b1);have:=b2 b V;rw[Array.setIfInBounds_comm _ _ f,<-J3 ρ v _ a2];exact this
   ·rename_i s
    have K:Region.wanted n (BS ops ρ)=false:=by simpa using s
    refine ih _ _ _ (hc.set z) (hap.set k) (hal.set k) (D _) (ready_mono hr (Ne.symm f)) E (M _) ?_;refine (OpL.env (T _)).2 (H.mono (λv W J=>?_) (λc g J=>J));obtain⟨w,y⟩:=J;refine⟨t _ _ w,?_⟩;have I:=y.2 j (ready_mono z f);unfold Gi at I;simp only[a,L,K,Ba,if_false]at I;rw[Array.setIfInBounds_comm _ _ f,<-J3 ρ v _ a2];exact I
theorem TW (R:KL P ops cls) {i:Nat} {g:Oper} (p:ops[i]?=some g) (E:cls g = .alloc):∀(f:Nat) (listed:Array Bool) (ρ:Env) (h:PH) (obj:Obj) (mk:Nat->Value),
  FN ops listed->Apt ops listed i g->N0 ops cls listed i->Yd P ops cls listed i ρ->i∈Region.ready .any ops listed->cnt ops listed<=f+1->Region.wanted g (BS ops ρ)=true ->
  OpA P g ρ obj mk->(∀b,h b=none->Kj P ops cls Q Kp f (listed.setIfInBounds i true) (upd ρ g.dst (mk b)) (ins h b obj))->Kj P ops cls Q Kp (f+1) listed ρ h:=by
 intro f
 induction f with
 | zero=>
  intro listed ρ h obj mk hc hap hal hid hr hn hw hoa H;refine⟨λh0=>(by rw[h0]at hr;cases hr),λj o=>?_⟩
  by_cases a:j=i
  ·subst a;unfold Gi;simp only[p,hw,if_true,E];exact⟨obj,mk,hoa,H⟩
  ·exfalso
   have q:=(mem_ready.1 hr).1;obtain⟨G,k,c,_⟩:=mem_ready.1 o;have C:=(Array.getElem?_eq_some_iff.1 p).1;have n:=(Array.getElem?_eq_some_iff.1 c).1;have W:=NZ (ops:=ops) C hc.1 q;have V:=Wn (ops:=ops) (listed:=listed.setIfInBounds i true) n (by rw[getD_set_ne true (Ne.symm a)];exact G);omega
 | succ f ih=>
  intro listed ρ h obj mk hc hap hal hid hr hn hw hoa H;refine⟨λh0=>(by rw[h0]at hr;cases hr),λj o=>?_⟩
  by_cases a:j=i
  ·subst a;unfold Gi;simp only[p,hw,if_true,E];exact⟨obj,mk,hoa,H⟩
  ·obtain⟨d,k,c,L⟩:=mem_ready.1 o
   have q:=(mem_ready.1 hr).1;have m:=hal.alloc hc q o a c;have B:=Ig hc o (Fj q);have r:=λu=>hid.set (u:=u) R.sel c a d m B;have n:=(Array.getElem?_eq_some_iff.1 c).1;obtain⟨T,S,O⟩:=Oper.apart_spec (KS hap hr o a c);have D:∀u,execOp (AO (upd ρ k.dst u)) g=execOp (AO ρ) g:=λu=>Dk g (λcs b=>R.sel i g cs b p) ρ k.dst u O;have A:∀u,Region.wanted g (BS ops (upd ρ k.dst u))=true:=λu=>by rw[Dj g ρ k.dst u O];exact hw
   have I:∀u,execOp (AO (upd ρ g.dst u)) k=execOp (AO ρ) k:=λu=>Dk k (λcs b=>R.sel j k cs b c) ρ g.dst u T;have z:∀u,Region.wanted k (BS ops (upd ρ g.dst u))=Region.wanted k (BS ops ρ):=λu=>Dj k ρ g.dst u T;have s:cnt ops (listed.setIfInBounds j true)<=f+1:=by have:=NZ (ops:=ops) n hc.1 d;omega
   unfold Gi;simp only[c]
   split
   ·rename_i l
    simp only[m];obtain⟨x,F,M⟩:=hid.can j k c a d m B l;refine⟨x,F,M,λN J=>?_⟩;refine ih _ _ _ obj mk (hc.set o) (hap.set d) (hal.set d) (r _) (ready_mono hr (Ne.symm a)) s (A _) ((OpA.env (D _)).2 hoa) λb w=>?_;have v:b≠N:=λe=>by subst e;rw[AD]at w;cases w
    rw[Aq _ _ v]at w;have t:=(H b w).2 j (ready_mono o a);unfold Gi at t;simp only[c,z,l,if_true,m]at t;obtain⟨K,U,b1,b2⟩:=t;obtain⟨rfl,rfl⟩:=M.same ((OpA.env (I _)).1 b1);have:=b2 N (by rw[Aq _ _ (Ne.symm v)];exact J);rw[Array.setIfInBounds_comm _ _ a,<-J3 ρ _ _ S,TN _ _ _ (Ne.symm v)];exact this
   ·rename_i l
    have y:Region.wanted k (BS ops ρ)=false:=by simpa using l
    refine ih _ _ _ obj mk (hc.set o) (hap.set d) (hal.set d) (r _) (ready_mono hr (Ne.symm a)) s (A _) ((OpA.env (D _)).2 hoa) λb w=>?_;have t:=(H b w).2 j (ready_mono o a);unfold Gi at t;simp only[c,z,y,Ba,if_false]at t;rw[Array.setIfInBounds_comm _ _ a,<-J3 ρ _ _ S];exact t
end
end Go.Pw

/- Texts of this claim, one behind the other. -/
import Derived.Test.YtboeddfdbpjnjaaGreatM2
import Derived.Laws.Strings
set_option linter.unusedSimpArgs false
set_option linter.unusedVariables false
namespace Go.Pw
open Go
theorem A7.drop {P:Program} {f:FuncId} {args:Array Value} {h:PH} {R:RT} (H:A7 P f args h λe i=>∃g,Sub g i/\R e g):A7 P f args h R:=by
 refine⟨H.1,λw n=>(H.2 w n).mono λe l k=>?_⟩
 have key:∀{i g:PH},Sub g i->Ax h i w l->Ax h g w l:=λp j=>⟨j.os,j.tape,j.output,j.size,λb r q=>by
  obtain⟨a,c⟩:=j.keep b r q;refine⟨?_,c⟩;cases m:(_:PH) b with
  | none=>exact m
  | some o=>rw[p b o m]at a;cases a⟩
 cases e <;> simp only at k ⊢
 ·obtain⟨i,a,b,g,c,d⟩:=k;exact⟨g,a.sub c,key c b,d⟩
 ·obtain⟨i,a,b,g,c,d⟩:=k;exact⟨g,a.sub c,key c b,d⟩
theorem Sub.refl (h:PH):Sub h h:=λ_ _ h=>h
theorem Sub.trans {a b c:PH} (e:Sub a b) (d:Sub b c):Sub a c:=λx o h=>d x o (e x o h)
theorem Sub.put {h g:PH} {b:Nat} {o:Obj} (d:Sub h g) (e:h b=none):Sub h (ins g b o):=λx p a=>by
 by_cases c:x=b
 ·subst c;rw[e]at a;cases a
 ·rw[Aq _ _ c];exact d x p a
theorem Sub.both {h g:PH} {b:Nat} {o:Obj} (d:Sub h g):Sub (ins h b o) (ins g b o):=λx p a=>by
 by_cases c:x=b
 ·subst c;rw[AD]at a ⊢;exact a
 ·rw[Aq _ _ c]at a ⊢;exact d x p a
theorem Sub.over {h g:PH} {b:Nat} {o p:Obj} (d:Sub (ins h b o) g):Sub (ins h b p) (ins g b p):=λx q a=>by
 by_cases c:x=b
 ·subst c;rw[AD]at a ⊢;exact a
 ·rw[Aq _ _ c]at a ⊢;exact d x q (by rw[Aq _ _ c];exact a)
theorem Sub.under {h g:PH} {b:Nat} {o:Obj} (d:h b=none) (c:Sub (ins h b o) g):Sub h g:=λx p a=>c x p (by rw[Aq _ _ (ne_of_apply_ne h (by rw[a,d];simp))];exact a)
theorem Sub.fresh {h g:PH} {b:Nat} (c:Sub h g) (a:g b=none):h b=none:=by
 cases d:h b with
 | none=>rfl
 | some o=>rw[c b o d]at a;cases a
theorem Sub.get {h g:PH} {b:Nat} {o:Obj} (a:Sub (ins h b o) g):g b=some o:=a b o (AD h b o)
theorem GC {h:PH} {b:Nat} {o:Obj} (c:h b=some o):ins h b o=h:=by
 funext x
 by_cases a:x=b
 ·subst a;rw[AD,c]
 ·rw[Aq _ _ a]
theorem An (h:PH) (b:Nat) (o p:Obj):ins (ins h b o) b p=ins h b p:=by
 funext x
 by_cases a:x=b
 ·subst a;rw[AD,AD]
 ·rw[Aq _ _ a,Aq _ _ a,Aq _ _ a]
theorem JH {h:PH} {b c:Nat} {o:Obj} (a:ins h b o c=none):h c=none/\c≠b:=by
 by_cases d:c=b
 ·subst d;rw[AD]at a;cases a
 ·rw[Aq _ _ d]at a;exact⟨a,d⟩
theorem Gt {h:PH} {b x:Nat} {o:Obj} (c:h b=none) (a:h x=some o):x≠b:=λe=>by subst e;rw[c]at a;cases a
theorem w64 {x:Int} (b:-9223372036854775808<=x) (a:x<=9223372036854775807):IntKind.i64.wrap x=x:=by rw[IntKind.wrap_i64];omega
section
variable {P:Program} {h:PH} {K:Value->Prop}
@[simp] theorem Al (t:Bool) (a b:Value):AP (.bool t) a b K↔K (cond t a b):=⟨λ⟨_,e,k⟩=>by cases e;exact k,λk=>⟨t,rfl,k⟩⟩
@[simp] theorem AB (t:Bool) (A B:Prop):dIf (.bool t) A B↔(t=true->A)/\(t=false->B):=⟨λ⟨_,e,k⟩=>by cases e;exact k,λk=>⟨t,rfl,k⟩⟩
theorem Km {op:BinOp} {t:TypeId} {a b v:Value} (c:∀x y w,(do eqGuard op t x y a b;binOp op t a b:Sem Value).run P w = .ok v w):A6 P op t a b K↔K v:=
 ⟨λ⟨u,d,k⟩=>by have:=(d (.const undef) (.const undef) default).symm.trans (c (.const undef) (.const undef) default);injection this with e;subst e;exact k,λk=>⟨v,c,k⟩⟩
theorem Bi {op:BinOp} {t:TypeId} {a b v:Value} (c:∀x y,Az P (do eqGuard op t x y a b;binOp op t a b)=some v):A6 P op t a b K↔K v:=Km λx y w=>HQ w _ (c x y)
theorem Dh {α β:Type} {s:Sem α} {a:α} {f:α->Sem β} {v:β} (c:Az P s=some a) (b:Az P (f a)=some v):Az P (s >>= f)=some v:=by rw[LI s c];exact b
@[simp] theorem AG (t:TypeId) (k:IntKind) (a b:Int):A6 P .add t (.int k a) (.int k b) K↔K (.int k (k.wrap (a+b))):=Bi λ_ _=>by simp[eqGuard,binOp,Op.intArith];rfl
@[simp] theorem Ao (t:TypeId) (k:IntKind) (a b:Int):A6 P .sub t (.int k a) (.int k b) K↔K (.int k (k.wrap (a-b))):=Bi λ_ _=>by simp[eqGuard,binOp,Op.intArith];rfl
@[simp] theorem CG (t:TypeId) (k:IntKind) (a b:Int):A6 P .mul t (.int k a) (.int k b) K↔K (.int k (k.wrap (a*b))):=Bi λ_ _=>by simp[eqGuard,binOp,Op.intArith];rfl
theorem Fx (t:TypeId) (k:IntKind) (a b:Int) (c:b≠0):A6 P .quo t (.int k a) (.int k b) K↔K (.int k (k.wrap (a.tdiv b))):=Bi λ_ _=>by simp[eqGuard,binOp,Op.intDiv,c];rfl
theorem J0 (t:TypeId) (k:IntKind) (a b:Int) (c:b≠0):A6 P .rem t (.int k a) (.int k b) K↔K (.int k (a.tmod b)):=Bi λ_ _=>by simp[eqGuard,binOp,Op.intDiv,c];rfl
@[simp] theorem AC (t:TypeId) (k:IntKind) (a b:Int):A6 P .lss t (.int k a) (.int k b) K↔K (.bool (decide (a<b))):=Bi λ_ _=>by simp[eqGuard,binOp,Op.intCmp];rfl
@[simp] theorem EI (t:TypeId) (k:IntKind) (a b:Int):A6 P .leq t (.int k a) (.int k b) K↔K (.bool (decide (a<=b))):=Bi λ_ _=>by simp[eqGuard,binOp,Op.intCmp];rfl
@[simp] theorem At (t:TypeId) (k:IntKind) (a b:Int):A6 P .gtr t (.int k a) (.int k b) K↔K (.bool (decide (b<a))):=Bi λ_ _=>by simp[eqGuard,binOp,Op.intCmp];rfl
@[simp] theorem By (t:TypeId) (k:IntKind) (a b:Int):A6 P .geq t (.int k a) (.int k b) K↔K (.bool (decide (b<=a))):=Bi λ_ _=>by simp[eqGuard,binOp,Op.intCmp];rfl
@[simp] theorem BC (t:TypeId) (k:IntKind) (a b:Int):A6 P .eql t (.int k a) (.int k b) K↔K (.bool (decide (a=b))):=Bi λ_ _=>by simp[eqGuard,binOp,Op.intCmp];rfl
@[simp] theorem BB (t:TypeId) (k:IntKind) (a b:Int):A6 P .neq t (.int k a) (.int k b) K↔K (.bool (!decide (a=b))):=Bi λ_ _=>by simp[eqGuard,binOp,Op.intCmp];rfl
theorem UY (x y:ByteArray):(x.toList==y.toList)=decide (x=y):=by
 rw[ByteArray.toList_eq,ByteArray.toList_eq]
 by_cases h:x=y
 ·subst h;simp
 ·have:x.data.toList≠y.data.toList:=λe=>h (by
   cases x;cases y;simp only[ByteArray.mk.injEq];exact Array.ext' e)
  have a:¬x.data=y.data:=λe=>this (by rw[e]);simp[h,a]
@[simp] theorem pG (t:TypeId) (x y:ByteArray):A6 P .eql t (.string x) (.string y) K↔K (.bool (decide (x=y))):=Bi λ_ _=>by
 rw[<-UY];simp[eqGuard,binOp,Op.stringOp];rfl
@[simp] theorem Py (t:TypeId) (x y:ByteArray):A6 P .neq t (.string x) (.string y) K↔K (.bool (!decide (x=y))):=Bi λ_ _=>by
 rw[<-UY];simp[eqGuard,binOp,Op.stringOp];rfl
theorem Dg (t:TypeId) (x y:ByteArray) (a:x.size+y.size<=9223372036854775807):A6 P .add t (.string x) (.string y) K↔K (.string (x++y)):=Bi λ_ _=>by
 have:¬(((x.size+y.size:Nat):Int)>IntKind.i64.max):=by simp[IntKind.max,IntKind.bits,IntKind.signed];omega
 simp only[binOp,Op.stringOp,eqGuard,this,if_false];rfl
@[simp] theorem Bm (b:Bool):vUn P .not (.bool b) K↔K (.bool !b):=⟨λ⟨v,h,k⟩=>by cases h;exact k,λk=>⟨_,rfl,k⟩⟩
@[simp] theorem Vp (b:IntKind) (a:Int):vUn P .neg (.int b a) K↔K (.int b (b.wrap (0-a))):=⟨λ⟨v,h,k⟩=>by cases h;exact k,λk=>⟨_,rfl,k⟩⟩
theorem IZ (vs:Array Value) (i:Nat):Aa (.tuple vs) i K↔∃v,vs[i]?=some v/\K v:=⟨λ⟨_,v,e,h,k⟩=>by cases e;exact⟨v,h,k⟩,λ⟨v,h,k⟩=>⟨vs,v,rfl,h,k⟩⟩
@[simp] theorem Av (a b:Value):Aa (.tuple #[a,b]) 0 K↔K a:=by simp[IZ]
@[simp] theorem Au (a b:Value):Aa (.tuple #[a,b]) 1 K↔K b:=by simp[IZ]
@[simp] theorem Ek (a b c:Value):Aa (.tuple #[a,b,c]) 0 K↔K a:=by simp[IZ]
@[simp] theorem Ej (a b c:Value):Aa (.tuple #[a,b,c]) 1 K↔K b:=by simp[IZ]
@[simp] theorem Ei (a b c:Value):Aa (.tuple #[a,b,c]) 2 K↔K c:=by simp[IZ]
@[simp] theorem AH (off b o:Nat):vFA off (.pointer (some ⟨b,o,none⟩)) K↔K (.pointer (some ⟨b,o+off,none⟩)):=⟨λ⟨_,_,e,k⟩=>by cases e;exact k,λk=>⟨b,o,rfl,k⟩⟩
@[simp] theorem BO (b:Addr):AY (.pointer (some b)) K↔K (.pointer (some b)):=⟨λh=>h.2,λk=>⟨rfl,k⟩⟩
@[simp] theorem EX (len esz b o:Nat) (d:IntKind) (n:Int):Cp len esz (.pointer (some ⟨b,o,none⟩)) (.int d n) K↔0<=n/\n<(len:Int)/\K (.pointer (some ⟨b,o+n.toNat*esz,none⟩)):=
 ⟨λ⟨_,_,_,_,e,f,c,a,k⟩=>by cases e;cases f;exact⟨c,a,k⟩,λ⟨c,a,k⟩=>⟨_,_,_,_,rfl,rfl,c,a,k⟩⟩
@[simp] theorem B9 (esz b o len cap:Nat) (d:IntKind) (n:Int):AR esz (.slice (some ⟨b,o,none⟩) len cap) (.int d n) K↔0<=n/\n<(len:Int)/\K (.pointer (some ⟨b,o+n.toNat*esz,none⟩)):=
 ⟨λ⟨_,_,_,_,_,_,e,f,c,a,k⟩=>by cases e;cases f;exact⟨c,a,k⟩,λ⟨c,a,k⟩=>⟨_,_,_,_,_,_,rfl,rfl,c,a,k⟩⟩
theorem Vs {b off:Nat} {c:Array Value} {e:TypeId} {fr:Nat×Nat} (f:h b=some (.cells c e fr)) (d:Option Nat):A0 d (.pointer (some ⟨b,off,none⟩)) h K↔Eo d c off K:=
 ⟨λ⟨_,_,_,_,_,g,a,k⟩=>by cases g;rw[f]at a;cases a;exact k,λk=>⟨b,off,c,e,fr,rfl,f,k⟩⟩
theorem Tp {c:Array Value} {off:Nat} {v:Value} (a:c[off]?=some v):Eo none c off K↔K v:=⟨λ⟨u,b,k⟩=>by rw[a]at b;cases b;exact k,λk=>⟨v,a,k⟩⟩
theorem A5 {b off:Nat} {c:Array Value} {e:TypeId} {fr:Nat×Nat} {v:Value} (d:h b=some (.cells c e fr)) (a:c[off]?=some v):A0 none (.pointer (some ⟨b,off,none⟩)) h K↔K v:=by
 rw[Vs d,Tp a]
theorem AI {b off n:Nat} {c:Array Value} {e:TypeId} {fr:Nat×Nat} (d:h b=some (.cells c e fr)) (a:off+n<=c.size):A0 (some n) (.pointer (some ⟨b,off,none⟩)) h K↔K (.agg (c.extract off (off+n))):=by
 rw[Vs d];exact⟨λk=>k.2,λk=>⟨a,k⟩⟩
theorem Hx {n b off:Nat} {c:Array Value} {e:TypeId} {v:Value} {K:PH->Prop} (d:h b=some (.cells c e (0,0))) (g:v.cells.size=n) (i:off+n<=c.size) (f:v.cells.toList.all Value.oneCell'=true) :
  A9 n (.pointer (some ⟨b,off,none⟩)) v h K↔K (ins h b (.cells (wr c off v.cells.toList) e (0,0))):=
 ⟨λ⟨_,_,_,_,_,j,a,_,_,_,_,k⟩=>by cases j;rw[d]at a;cases a;exact k,λk=>⟨b,off,c,e,(0,0),rfl,d,g,i,f,.inl (Nat.zero_le _),k⟩⟩
theorem Aw {b off:Nat} {c:Array Value} {e:TypeId} {v:Value} {K:PH->Prop} (g:h b=some (.cells c e (0,0))) (f:off<c.size) (d:v.oneCell'=true) :
  A9 1 (.pointer (some ⟨b,off,none⟩)) v h K↔K (ins h b (.cells (c.setIfInBounds off v) e (0,0))):=by
 have a:v.cells=#[v]:=by cases v <;> first | rfl | cases d
 rw[Hx g (by rw[a];rfl) f (by rw[a];simp[d])];rw[a];rfl
theorem lz:∀(vs:List Value) (c:Array Value),c.size=vs.length->wr c 0 vs=vs.toArray:=λvs c a=>by
 rw[Pu (by omega)];have:c.toList.drop (0+vs.length) = []:=List.drop_eq_nil_of_le (by simp;omega);rw[this];simp
theorem UP {n b:Nat} {c cs:Array Value} {e:TypeId} {K:PH->Prop} (f:h b=some (.cells c e (0,0))) (g:c.size=n) (a:cs.size=n) (d:cs.toList.all Value.oneCell'=true) :
  A9 n (.pointer (some ⟨b,0,none⟩)) (.agg cs) h K↔K (ins h b (.cells cs e (0,0))):=by
 rw[Hx (v:=.agg cs) f a (by omega) d,lz _ _ (by rw[g];exact a.symm)];simp[Value.cells]
theorem AN {n b:Nat} {c cs:Array Value} {e:TypeId} {K:PH->Prop} (f:h b=some (.cells c e (0,0))) (i:c.size=n) (g:cs.size=n) (a:cs.toList.all Value.oneCell'=true) (d:K (ins h b (.cells cs e (0,0)))) :
  A9 n (.pointer (some ⟨b,0,none⟩)) (.agg cs) h K:=(UP f i g a).2 d
@[simp] theorem BQ (p:Option Addr) (len cap:Nat):Ap (.slice p len cap) K↔K (.int .i64 len):=⟨λ⟨_,_,_,e,k⟩=>by cases e;exact k,λk=>⟨_,_,_,rfl,k⟩⟩
@[simp] theorem Dp (s:ByteArray):Dx (.string s) K↔K (.int .i64 s.size):=⟨λ⟨_,e,k⟩=>by cases e;exact k,λk=>⟨_,rfl,k⟩⟩
@[simp] theorem Ct (k a:IntKind) (n:Int):D2 k (.int a n) K↔K (.int k (k.wrap n)):=⟨λ⟨_,_,e,k⟩=>by cases e;exact k,λk=>⟨_,_,rfl,k⟩⟩
@[simp] theorem E7 (c:Bool) (k d:IntKind) (a b:Int):ER c (.int k a) (.int d b) K↔K (.int k (if (if c then b>a else b<a)then b else a)):=⟨λ⟨_,_,_,_,e,f,k⟩=>by cases e;cases f;exact k,λk=>⟨_,_,_,_,rfl,rfl,k⟩⟩
@[simp] theorem SU (t:TypeId) (a:Value):KO t a K↔K (.iface t a):=Iff.rfl
@[simp] theorem rP (f:Fn) (a b:Array Value):Yo f a b K↔K (.func f a b):=Iff.rfl
@[simp] theorem AZ (b:Bool):B5 (.bool b)=some b:=rfl
@[simp] theorem C7 (b w:Bool) (op:(Value->PH->Prop)->Prop) (K:Value->PH->Prop):gq (some b) w op K h↔(b=w->op K)/\(b≠w->K undef h):=by
 simp[gq]
@[simp] theorem PB:B5 undef=none:=rfl
@[simp] theorem nA (w:Bool) (op:(Value->PH->Prop)->Prop) (K:Value->PH->Prop):gq none w op K h↔K undef h:=by simp[gq]
@[simp] theorem rW (w:Bool) (A:Prop):gd none w A↔True:=by simp[gd]
@[simp] theorem NB (b w:Bool) (A:Prop):gd (some b) w A↔(b=w->A):=by simp[gd]
theorem AX {a:Array Value} {e:TypeId} {K:Value->PH->Prop} (c:∀b,h b=none->K (.pointer (some ⟨b,0,none⟩)) (ins h b (.cells a e (0,0)))):Ag a e h K:=c
theorem DU {t:TypeId} {d:TypeDesc} (a:P.underlying t=some d):Az P (underlying t)=some d:=by
 unfold underlying program;show Az P (Sem.program λp=>_)=_;simp only[Az,Sem.bind,a]
 rfl
theorem DI {op:BinOp} {t:TypeId} {x y:Operand} {a b:Value} (e:∀c,a≠.agg c) (d:a≠.nilIface):Az P (eqGuard op t x y a b)=some ():=by
 unfold eqGuard;cases op <;> first | rfl | (cases a <;> first | rfl | exact absurd rfl (e _) | exact absurd rfl d)
theorem NK {t:TypeId} {a b:Value} {r:Bool} (h0:∀x y,Az P (eqGuard .eql t x y a b)=some ()) (d:binOp .eql t a b=(do pure (.bool (<-Op.equal t a b)))) (c:Az P (Op.equal t a b)=some r):A6 P .eql t a b K↔K (.bool r):=
 Bi λx y=>Dh (h0 x y) (by rw[d];exact Dh c rfl)
theorem R3 {t:TypeId} {a b:Value} {r:Bool} (h0:∀x y,Az P (eqGuard .neq t x y a b)=some ()) (d:binOp .neq t a b=(do pure (.bool (!(<-Op.equal t a b))))) (c:Az P (Op.equal t a b)=some r):A6 P .neq t a b K↔K (.bool (!r)):=
 Bi λx y=>Dh (h0 x y) (by rw[d];exact Dh c rfl)
theorem Rq (d:Nat) {t e:TypeId} (b:P.underlying t=some (.pointer e)) (a:Addr):Az P (Op.equalIn (d+1) t (.pointer (some a)) (.pointer none))=some false:=by
 rw[Op.equalIn];exact Dh (DU b) rfl
theorem Oo (d:Nat) {t e:TypeId} (a:P.underlying t=some (.pointer e)):Az P (Op.equalIn (d+1) t (.pointer none) (.pointer none))=some true:=by
 rw[Op.equalIn];exact Dh (DU a) rfl
theorem On {t e:TypeId} (b:P.underlying t=some (.pointer e)) (a:Addr):Az P (Op.equal t (.pointer (some a)) (.pointer none))=some false:=Rq 9999 b a
theorem LV {t e:TypeId} (a:P.underlying t=some (.pointer e)):Az P (Op.equal t (.pointer none) (.pointer none))=some true:=Oo 9999 a
theorem As {t e:TypeId} (b:P.underlying t=some (.pointer e)) (a:Addr):A6 P .eql t (.pointer (some a)) (.pointer none) K↔K (.bool false):=
 NK (λ_ _=>DI (λ_ h=>by cases h) (λh=>by cases h)) rfl (On b a)
theorem M4 {t e:TypeId} (a:P.underlying t=some (.pointer e)):A6 P .eql t (.pointer none) (.pointer none) K↔K (.bool true):=
 NK (λ_ _=>DI (λ_ h=>by cases h) (λh=>by cases h)) rfl (LV a)
theorem JP {t e:TypeId} (b:P.underlying t=some (.pointer e)) (a:Addr):A6 P .neq t (.pointer (some a)) (.pointer none) K↔K (.bool true):=
 R3 (λ_ _=>DI (λ_ h=>by cases h) (λh=>by cases h)) rfl (On b a)
theorem J1 {t e:TypeId} (a:P.underlying t=some (.pointer e)):A6 P .neq t (.pointer none) (.pointer none) K↔K (.bool false):=
 R3 (λ_ _=>DI (λ_ h=>by cases h) (λh=>by cases h)) rfl (LV a)
end
end Go.Pw
namespace Go.Pw
def lfn {F S:Type} (B:F->(F->S->PH->Prop)->S->PH->Prop) (f:F) (n:Nat) (s:S) (h:PH):Prop:=
 B f (λc a b=>c=f/\∃m,∃d:m<n,lfn B f m a b) s h
termination_by n
theorem RZ {F S:Type} (B:F->(F->S->PH->Prop)->S->PH->Prop) (f:F) (n:Nat) (s:S) (h:PH):lfn B f n s h=B f (λc a b=>c=f/\∃m,m<n/\lfn B f m a b) s h:=by
 rw[lfn]
 congr 1
 funext c a b
 simp only[exists_prop]
theorem Jd {F S:Type} {B:F->(F->S->PH->Prop)->S->PH->Prop} {f:F} {s:S} {h:PH} (n:Nat) (H:lfn B f n s h):lf B f s h:=
 AL (λn s h=>lfn B f n s h) n H λn s h a=>by rw[RZ]at a;exact a
theorem Di {F S:Type} {B:F->(F->S->PH->Prop)->S->PH->Prop} {f:F} {s:S} {h:PH} {n:Nat} (H:∀c:F->S->PH->Prop,(∀a b,lfn B f n a b->c f a b)->B f c s h):lfn B f (n+1) s h:=by
 rw[RZ];exact H _ λa b d=>⟨rfl,n,by omega,d⟩
theorem Ai {a:Array Value} {e:TypeId} {h:PH} {K:Value->PH->Prop} (d:∀b G,h b=none->Sub h G->G b=some (.cells a e (0,0))->K (.pointer (some ⟨b,0,none⟩)) G):Ag a e h K:=
 AX λb c=>d b _ c (AT _ c) (AD _ _ _)
end Go.Pw
namespace Go.Pw
def UN (h g:PH):Prop:=∀b,h b≠none->g b=none
theorem UN.symm {h g:PH} (d:UN h g):UN g h:=λb c=>by
 cases a:h b with
 | none=>rfl
 | some o=>exact absurd (d b (by rw[a];simp)) c
theorem UN.sub {h g a g':PH} (d:UN h g) (f:Sub a h) (e:Sub g' g):UN a g':=λb j=>by
 cases c:a b with
 | none=>exact absurd c j
 | some o=>
  have:=d b (by rw[f b o c];simp);cases i:g' b with
  | none=>rfl
  | some p=>rw[e b p i]at this;cases this
theorem Nt (h g:PH):Sub h (GP h g):=λb o a=>by simp[GP,a]
theorem UX {h g:PH} (d:UN h g):Sub g (GP h g):=λb o a=>by
 have:h b=none:=d.symm b (by rw[a];simp);simp[GP,this,a]
theorem aK {h g k:PH} (e:Sub h k) (d:Sub g k):Sub (GP h g) k:=λb o a=>by
 unfold GP at a;cases c:h b with
 | some p=>rw[c]at a;cases a;exact e _ _ c
 | none=>rw[c]at a;exact d _ _ a
def sep (A B:PH->Prop) (h:PH):Prop:=∃b a,UN b a/\Sub b h/\Sub a h/\A b/\B a
instance:HSMul (PH->Prop) (PH->Prop) (PH->Prop):=⟨sep⟩
theorem AU {A A' B B':PH->Prop} {h:PH} (H:(A•B) h) (i:∀g,A g->A' g) (f:∀g,B g->B' g):(A'•B') h:=by
 obtain⟨k,j,d,e,c,a,b⟩:=H;exact⟨k,j,d,e,c,i _ a,f _ b⟩
theorem EF {A B:PH->Prop} {h g:PH} (H:(A•B) h) (c:Sub h g):(A•B) g:=by
 obtain⟨j,i,d,f,e,a,b⟩:=H;exact⟨j,i,d,f.trans c,e.trans c,a,b⟩
theorem BX {A B:PH->Prop} {h:PH} (H:(A•B) h):(B•A) h:=by
 obtain⟨g,f,d,e,c,a,b⟩:=H;exact⟨f,g,d.symm,c,e,b,a⟩
theorem I7 (A B:PH->Prop):A•B=B•A:=funext λh=>propext ⟨BX,BX⟩
theorem ZD {A B C:PH->Prop} {h:PH} (H:((A•B)•C) h):(A•B•C) h:=by
 obtain⟨m,e,d,f,l,⟨n,k,q,i,g,a,b⟩,c⟩:=H
 exact⟨n,GP k e,λx j=>by
   have p:=q x j;have o:e x=none:=(d.sub i (Sub.refl e)) x j;simp[GP,p,o],i.trans f,aK (g.trans f) l,a,k,e,d.sub g (Sub.refl e),Nt _ _,UX (d.sub g (Sub.refl e)),b,c⟩
theorem Bf (A B C:PH->Prop):(A•B)•C=A•B•C:=funext λh=>propext ⟨ZD,λH=>by
 have a:=ZD (AU (BX H) (λ_=>BX) (λ_ h=>h))
 exact AU (BX (AU a (λ_ h=>h) (λ_=>BX))) (λ_=>BX) (λ_ h=>h) |> λk=>by
  have b:(C•A•B) h:=AU a (λ_ h=>h) (λ_=>BX);exact BX b⟩
theorem Es (A B C:PH->Prop):A•B•C=B•A•C:=by rw[<-Bf,I7 A B,Bf]
def C3 (A:PH->Prop):Prop:=∀h g,Sub h g->A h->A g
theorem AJ {A B:PH->Prop} {h:PH} (m:C3 A) (H:(A•B) h):A h:=by
 obtain⟨g,f,d,c,e,a,b⟩:=H;exact m _ _ c a
theorem AF {A B:PH->Prop} {h:PH} (m:C3 B) (H:(A•B) h):B h:=AJ m (BX H)
theorem A8 (A B:PH->Prop):C3 (A•B):=λ_ _ s H=>EF H s
theorem L7 {p:Prop} {A B:PH->Prop} {h:PH}:((λg=>p/\A g)•B) h↔p/\(A•B) h:=
 ⟨λ⟨j,i,d,e,c,⟨f,a⟩,b⟩=>⟨f,j,i,d,e,c,a,b⟩,λ⟨f,j,i,d,e,c,a,b⟩=>⟨j,i,d,e,c,⟨f,a⟩,b⟩⟩
theorem Nz {X:Type} {A:X->PH->Prop} {B:PH->Prop} {h:PH}:((λg=>∃x,A x g)•B) h↔∃x,(A x•B) h:=
 ⟨λ⟨i,f,d,e,c,⟨x,a⟩,b⟩=>⟨x,i,f,d,e,c,a,b⟩,λ⟨x,i,f,d,e,c,a,b⟩=>⟨i,f,d,e,c,⟨x,a⟩,b⟩⟩
def emp:PH->Prop:=λ_=>True
theorem L6 {A:PH->Prop} {h:PH} (H:A h):(A•emp) h:=⟨h,λ_=>none,λ_ _=>rfl,Sub.refl h,(λ_ _ e=>by simp at e),H,trivial⟩
theorem OP:C3 emp:=λ_ _ _ _=>trivial
def pt (b:Nat) (o:Obj):PH->Prop:=λh=>h b=some o
theorem Ij (b:Nat) (o:Obj):C3 (pt b o):=λ_ _ s H=>s _ _ H
theorem AM {b:Nat} {o:Obj} {C:PH->Prop} {h:PH} (H:(pt b o•C) h):h b=some o:=AJ (Ij b o) H
def one (b:Nat) (o:Obj):PH:=ins (λ_=>none) b o
theorem Ja {b:Nat} {o:Obj} {h:PH} (c:h b=some o):Sub (one b o) h:=λx p a=>by
 unfold one at a
 by_cases e:x=b
 ·subst e;rw[AD]at a;cases a;exact c
 ·rw[Aq _ _ e]at a;cases a
theorem Bb {b:Nat} {o p:Obj} {C:PH->Prop} {h:PH} (H:(pt b o•C) h):(pt b p•C) (ins h b p):=by
 obtain⟨l,i,d,m,j,a,c⟩:=H;have g:i b=none:=d b (by rw[show l b=some o from a];simp);refine⟨one b p,i,λx k=>?_,Ja (AD _ _ _),λx q f=>?_,AD _ _ _,c⟩
 ·by_cases e:x=b
  ·subst e;exact g
  ·exact absurd (by unfold one;rw[Aq _ _ e]) k
 ·rw[Aq _ _ (λe=>by rw[e,g]at f;cases f)];exact j _ _ f
theorem Ar {b:Nat} {o:Obj} {C:PH->Prop} {h:PH} (a:h b=none) (H:C h):(pt b o•C) (ins h b o):=
 ⟨one b o,h,λx c=>by
  by_cases e:x=b
  ·subst e;exact a
  ·exact absurd (by unfold one;rw[Aq _ _ e]) c,Ja (AD _ _ _),AT _ a,AD _ _ _,H⟩
theorem A7.sep {P:Program} {f:FuncId} {args:Array Value} {h:PH} {A C:PH->Prop} {Q R:RT} (q:(A•C) h) (H:∀g,A g->A7 P f args g Q) (s:∀e g,(Q e•C) g->R e g) :
  A7 P f args h R:=by
 obtain⟨k,m,d,p,l,a,c⟩:=q
 have r:h=GP k (λb=>match k b with | some _=>none | none=>h b):=by
  funext b
  unfold GP;cases i:k b with
  | none=>simp[i]
  | some o=>exact p _ _ i
 rw[r];refine ((H k a).frame _ λb j=>?_).mono ?_
 ·cases i:k b with
  | none=>exact absurd i j
  | some o=>rfl
 ·rintro e g ⟨g1,rfl,hd,hq⟩
  refine s e _ ⟨g1,m,λb j=>?_,Nt _ _,λb o j=>?_,hq,c⟩
  ·cases i:m b with
   | none=>rfl
   | some o=>
    refine absurd (hd b ?_) j;have:k b=none:=d.symm b (by rw[i];simp);simp[this,l _ _ i]
  ·have n:k b=none:=d.symm b (by rw[j];simp)
   have t:g1 b=none:=hd b (by simp[n,l _ _ j]);simp[GP,n,t,l _ _ j]
def CA (A:Nat->PH->Prop):Nat->PH->Prop
 | 0=>emp
 | n+1=>CA A n•A n
def upA (A:Nat->PH->Prop) (i:Nat) (B:PH->Prop):Nat->PH->Prop:=λk=>if k=i then B else A k
theorem HL {A B:Nat->PH->Prop}:∀(n:Nat),(∀k,k<n->A k=B k)->CA A n=CA B n
 | 0,_=>rfl
 | n+1,H=>by unfold CA;rw[HL n λk a=>H k (by omega),H n (by omega)]
theorem Ie {A:PH->Prop} (m:C3 A):A•emp=A:=funext λh=>propext ⟨AJ m,L6⟩
theorem Gu (A:Nat->PH->Prop):∀n,C3 (CA A n)
 | 0=>OP
 | n+1=>A8 _ _
theorem Nu {A:Nat->PH->Prop} {i:Nat} {B:PH->Prop} (c:C3 B):∀(n:Nat),i<n->CA (upA A i B) n=B•CA (upA A i emp) n
 | n+1,hi=>by
  unfold CA
  by_cases e:i=n
  ·subst e
   have b:CA (upA A i B) i=CA A i:=HL _ λk d=>by unfold upA;rw[if_neg (by omega)]
   have a:CA (upA A i emp) i=CA A i:=HL _ λk d=>by unfold upA;rw[if_neg (by omega)]
   have g:upA A i B i=B:=if_pos rfl;have f:upA A i emp i=emp:=if_pos rfl;rw[b,a,g,f,Ie (Gu A i),I7]
  ·rw[Nu c n (by omega),Bf]
   have b:upA A i B n=A n:=if_neg (by omega);have a:upA A i emp n=A n:=if_neg (by omega);rw[b,a]
theorem Ys (A:Nat->PH->Prop) (i:Nat):upA A i (A i)=A:=by
 funext k;unfold upA;split
 ·rename_i e;rw[e]
 ·rfl
theorem FZ {A:Nat->PH->Prop} {i n:Nat} (hi:i<n) (a:C3 (A i)):CA A n=A i•CA (upA A i emp) n:=by
 have:=Nu (A:=A) (B:=A i) a n hi
 rwa [Ys]at this
theorem nF {A B P Q:Prop} (q:Q) (h:¬A:=by simp):(A->P)/\(B->Q):=⟨λe=>absurd e h,λ_=>q⟩
theorem nT {A B P Q:Prop} (p:P) (h:¬B:=by simp):(A->P)/\(B->Q):=⟨λ_=>p,λe=>absurd e h⟩
end Go.Pw

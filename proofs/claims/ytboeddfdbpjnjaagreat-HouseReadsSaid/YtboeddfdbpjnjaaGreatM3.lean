/- Texts of this claim, one behind the other. -/
import Derived.Test.YtboeddfdbpjnjaaGreatM2
import Derived.Laws.Strings
set_option linter.unusedSimpArgs false
set_option linter.unusedVariables false
namespace Go.Pw
open Go
theorem ACalls.drop {P:Program} {f:FuncId} {args:Array Value} {h:PH} {R:AEnd->PH->Prop} (H:ACalls P f args h λe h'=>∃g,Sub g h'/\R e g):ACalls P f args h R:=by
 refine⟨H.1,λw hw=>(H.2 w hw).mono λe w' he=>?_⟩
 have key:∀{h' g:PH},Sub g h'->Framed h h' w w'->Framed h g w w':=λhs hf=>⟨hf.os,hf.tape,hf.output,hf.size,λb hb hn=>by
  obtain⟨a,c⟩:=hf.keep b hb hn
  refine⟨?_,c⟩
  cases hg:(_:PH) b with
  | none=>exact hg
  | some o=>rw[hs b o hg]at a;cases a⟩
 cases e <;> simp only at he ⊢
 ·obtain⟨h',a,b,g,c,d⟩:=he;exact⟨g,a.sub c,key c b,d⟩
 ·obtain⟨h',a,b,g,c,d⟩:=he;exact⟨g,a.sub c,key c b,d⟩
theorem Sub.refl (h:PH):Sub h h:=λ_ _ h=>h
theorem Sub.trans {a b c:PH} (h1:Sub a b) (h2:Sub b c):Sub a c:=λx o h=>h2 x o (h1 x o h)
theorem Sub.put {h g:PH} {b:Nat} {o:Obj} (hs:Sub h g) (hb:h b=none):Sub h (ins g b o):=λx p hp=>by
 by_cases hx:x=b
 ·subst hx;rw[hb]at hp;cases hp
 ·rw[ins_ne _ _ hx];exact hs x p hp
theorem Sub.both {h g:PH} {b:Nat} {o:Obj} (hs:Sub h g):Sub (ins h b o) (ins g b o):=λx p hp=>by
 by_cases hx:x=b
 ·subst hx;rw[ins_eq]at hp ⊢;exact hp
 ·rw[ins_ne _ _ hx]at hp ⊢;exact hs x p hp
theorem Sub.over {h g:PH} {b:Nat} {o p:Obj} (hs:Sub (ins h b o) g):Sub (ins h b p) (ins g b p):=λx q hq=>by
 by_cases hx:x=b
 ·subst hx;rw[ins_eq]at hq ⊢;exact hq
 ·rw[ins_ne _ _ hx]at hq ⊢;exact hs x q (by rw[ins_ne _ _ hx];exact hq)
theorem Sub.under {h g:PH} {b:Nat} {o:Obj} (hb:h b=none) (hs:Sub (ins h b o) g):Sub h g:=λx p hp=>hs x p (by rw[ins_ne _ _ (ne_of_apply_ne h (by rw[hp,hb];simp))];exact hp)
theorem Sub.fresh {h g:PH} {b:Nat} (hs:Sub h g) (hb:g b=none):h b=none:=by
 cases hh:h b with
 | none=>rfl
 | some o=>rw[hs b o hh]at hb;cases hb
theorem Sub.get {h g:PH} {b:Nat} {o:Obj} (hs:Sub (ins h b o) g):g b=some o:=hs b o (ins_eq h b o)
theorem ins_self {h:PH} {b:Nat} {o:Obj} (hb:h b=some o):ins h b o=h:=by
 funext x
 by_cases hx:x=b
 ·subst hx;rw[ins_eq,hb]
 ·rw[ins_ne _ _ hx]
theorem ins_ins (h:PH) (b:Nat) (o p:Obj):ins (ins h b o) b p=ins h b p:=by
 funext x
 by_cases hx:x=b
 ·subst hx;rw[ins_eq,ins_eq]
 ·rw[ins_ne _ _ hx,ins_ne _ _ hx,ins_ne _ _ hx]
theorem fresh_of {h:PH} {b c:Nat} {o:Obj} (hf:ins h b o c=none):h c=none/\c≠b:=by
 by_cases hx:c=b
 ·subst hx;rw[ins_eq]at hf;cases hf
 ·rw[ins_ne _ _ hx]at hf;exact⟨hf,hx⟩
theorem ne_fresh {h:PH} {b x:Nat} {o:Obj} (hb:h b=none) (hx:h x=some o):x≠b:=λe=>by subst e;rw[hb]at hx;cases hx
theorem w64 {x:Int} (h1:-9223372036854775808<=x) (h2:x<=9223372036854775807):IntKind.i64.wrap x=x:=by rw[IntKind.wrap_i64];omega
section
variable {P:Program} {h:PH} {K:Value->Prop}
@[simp] theorem vPick_b (t:Bool) (a b:Value):vPick (.bool t) a b K↔K (cond t a b):=⟨λ⟨_,e,k⟩=>by cases e;exact k,λk=>⟨t,rfl,k⟩⟩
@[simp] theorem dIf_b (t:Bool) (A B:Prop):dIf (.bool t) A B↔(t=true->A)/\(t=false->B):=⟨λ⟨_,e,k⟩=>by cases e;exact k,λk=>⟨t,rfl,k⟩⟩
theorem vBin_run {op:BinOp} {t:TypeId} {a b v:Value} (hv:∀x y w,(do eqGuard op t x y a b;binOp op t a b:Sem Value).run P w = .ok v w):vBin P op t a b K↔K v:=
 ⟨λ⟨u,hu,k⟩=>by have:=(hu (.const undef) (.const undef) default).symm.trans (hv (.const undef) (.const undef) default);injection this with e;subst e;exact k,λk=>⟨v,hv,k⟩⟩
theorem vBin_of {op:BinOp} {t:TypeId} {a b v:Value} (hv:∀x y,pureRun P (do eqGuard op t x y a b;binOp op t a b)=some v):vBin P op t a b K↔K v:=vBin_run λx y w=>pureRun_run w _ (hv x y)
theorem pureRun_seq {α β:Type} {s:Sem α} {a:α} {f:α->Sem β} {v:β} (h1:pureRun P s=some a) (h2:pureRun P (f a)=some v):pureRun P (s >>= f)=some v:=by rw[pureRun_bind s h1];exact h2
@[simp] theorem vBin_add (t:TypeId) (k:IntKind) (a b:Int):vBin P .add t (.int k a) (.int k b) K↔K (.int k (k.wrap (a+b))):=vBin_of λ_ _=>by simp[eqGuard,binOp,Op.intArith];rfl
@[simp] theorem vBin_sub (t:TypeId) (k:IntKind) (a b:Int):vBin P .sub t (.int k a) (.int k b) K↔K (.int k (k.wrap (a-b))):=vBin_of λ_ _=>by simp[eqGuard,binOp,Op.intArith];rfl
@[simp] theorem vBin_mul (t:TypeId) (k:IntKind) (a b:Int):vBin P .mul t (.int k a) (.int k b) K↔K (.int k (k.wrap (a*b))):=vBin_of λ_ _=>by simp[eqGuard,binOp,Op.intArith];rfl
theorem vBin_quo (t:TypeId) (k:IntKind) (a b:Int) (hb:b≠0):vBin P .quo t (.int k a) (.int k b) K↔K (.int k (k.wrap (a.tdiv b))):=vBin_of λ_ _=>by simp[eqGuard,binOp,Op.intDiv,hb];rfl
theorem vBin_rem (t:TypeId) (k:IntKind) (a b:Int) (hb:b≠0):vBin P .rem t (.int k a) (.int k b) K↔K (.int k (a.tmod b)):=vBin_of λ_ _=>by simp[eqGuard,binOp,Op.intDiv,hb];rfl
@[simp] theorem vBin_lss (t:TypeId) (k:IntKind) (a b:Int):vBin P .lss t (.int k a) (.int k b) K↔K (.bool (decide (a<b))):=vBin_of λ_ _=>by simp[eqGuard,binOp,Op.intCmp];rfl
@[simp] theorem vBin_leq (t:TypeId) (k:IntKind) (a b:Int):vBin P .leq t (.int k a) (.int k b) K↔K (.bool (decide (a<=b))):=vBin_of λ_ _=>by simp[eqGuard,binOp,Op.intCmp];rfl
@[simp] theorem vBin_gtr (t:TypeId) (k:IntKind) (a b:Int):vBin P .gtr t (.int k a) (.int k b) K↔K (.bool (decide (b<a))):=vBin_of λ_ _=>by simp[eqGuard,binOp,Op.intCmp];rfl
@[simp] theorem vBin_geq (t:TypeId) (k:IntKind) (a b:Int):vBin P .geq t (.int k a) (.int k b) K↔K (.bool (decide (b<=a))):=vBin_of λ_ _=>by simp[eqGuard,binOp,Op.intCmp];rfl
@[simp] theorem vBin_eql (t:TypeId) (k:IntKind) (a b:Int):vBin P .eql t (.int k a) (.int k b) K↔K (.bool (decide (a=b))):=vBin_of λ_ _=>by simp[eqGuard,binOp,Op.intCmp];rfl
@[simp] theorem vBin_neq (t:TypeId) (k:IntKind) (a b:Int):vBin P .neq t (.int k a) (.int k b) K↔K (.bool (!decide (a=b))):=vBin_of λ_ _=>by simp[eqGuard,binOp,Op.intCmp];rfl
theorem str_eq (x y:ByteArray):(x.toList==y.toList)=decide (x=y):=by
 rw[ByteArray.toList_eq,ByteArray.toList_eq]
 by_cases h:x=y
 ·subst h;simp
 ·have:x.data.toList≠y.data.toList:=λe=>h (by
   cases x;cases y
   simp only[ByteArray.mk.injEq]
   exact Array.ext' e)
  have h2:¬x.data=y.data:=λe=>this (by rw[e])
  simp[h,h2]
@[simp] theorem vBin_seq (t:TypeId) (x y:ByteArray):vBin P .eql t (.string x) (.string y) K↔K (.bool (decide (x=y))):=vBin_of λ_ _=>by
 rw[<-str_eq];simp[eqGuard,binOp,Op.stringOp];rfl
@[simp] theorem vBin_sneq (t:TypeId) (x y:ByteArray):vBin P .neq t (.string x) (.string y) K↔K (.bool (!decide (x=y))):=vBin_of λ_ _=>by
 rw[<-str_eq];simp[eqGuard,binOp,Op.stringOp];rfl
theorem vBin_sadd (t:TypeId) (x y:ByteArray) (hs:x.size+y.size<=9223372036854775807):vBin P .add t (.string x) (.string y) K↔K (.string (x++y)):=vBin_of λ_ _=>by
 have:¬(((x.size+y.size:Nat):Int)>IntKind.i64.max):=by simp[IntKind.max,IntKind.bits,IntKind.signed];omega
 simp only[binOp,Op.stringOp,eqGuard,this,if_false];rfl
@[simp] theorem vUn_not (b:Bool):vUn P .not (.bool b) K↔K (.bool !b):=⟨λ⟨v,h,k⟩=>by cases h;exact k,λk=>⟨_,rfl,k⟩⟩
@[simp] theorem vUn_neg (kd:IntKind) (a:Int):vUn P .neg (.int kd a) K↔K (.int kd (kd.wrap (0-a))):=⟨λ⟨v,h,k⟩=>by cases h;exact k,λk=>⟨_,rfl,k⟩⟩
theorem vExt_t (vs:Array Value) (i:Nat):vExt (.tuple vs) i K↔∃v,vs[i]?=some v/\K v:=⟨λ⟨_,v,e,h,k⟩=>by cases e;exact⟨v,h,k⟩,λ⟨v,h,k⟩=>⟨vs,v,rfl,h,k⟩⟩
@[simp] theorem vExt_20 (a b:Value):vExt (.tuple #[a,b]) 0 K↔K a:=by simp[vExt_t]
@[simp] theorem vExt_21 (a b:Value):vExt (.tuple #[a,b]) 1 K↔K b:=by simp[vExt_t]
@[simp] theorem vExt_30 (a b c:Value):vExt (.tuple #[a,b,c]) 0 K↔K a:=by simp[vExt_t]
@[simp] theorem vExt_31 (a b c:Value):vExt (.tuple #[a,b,c]) 1 K↔K b:=by simp[vExt_t]
@[simp] theorem vExt_32 (a b c:Value):vExt (.tuple #[a,b,c]) 2 K↔K c:=by simp[vExt_t]
@[simp] theorem vFA_p (off b o:Nat):vFA off (.pointer (some ⟨b,o,none⟩)) K↔K (.pointer (some ⟨b,o+off,none⟩)):=⟨λ⟨_,_,e,k⟩=>by cases e;exact k,λk=>⟨b,o,rfl,k⟩⟩
@[simp] theorem vNil_p (b:Addr):vNil (.pointer (some b)) K↔K (.pointer (some b)):=⟨λh=>h.2,λk=>⟨rfl,k⟩⟩
@[simp] theorem vIxA_p (len esz b o:Nat) (kd:IntKind) (n:Int):vIxA len esz (.pointer (some ⟨b,o,none⟩)) (.int kd n) K↔0<=n/\n<(len:Int)/\K (.pointer (some ⟨b,o+n.toNat*esz,none⟩)):=
 ⟨λ⟨_,_,_,_,e,e',h1,h2,k⟩=>by cases e;cases e';exact⟨h1,h2,k⟩,λ⟨h1,h2,k⟩=>⟨_,_,_,_,rfl,rfl,h1,h2,k⟩⟩
@[simp] theorem vIxS_p (esz b o len cap:Nat) (kd:IntKind) (n:Int):vIxS esz (.slice (some ⟨b,o,none⟩) len cap) (.int kd n) K↔0<=n/\n<(len:Int)/\K (.pointer (some ⟨b,o+n.toNat*esz,none⟩)):=
 ⟨λ⟨_,_,_,_,_,_,e,e',h1,h2,k⟩=>by cases e;cases e';exact⟨h1,h2,k⟩,λ⟨h1,h2,k⟩=>⟨_,_,_,_,_,_,rfl,rfl,h1,h2,k⟩⟩
theorem vLoad_p {b off:Nat} {c:Array Value} {e:TypeId} {fr:Nat×Nat} (hb:h b=some (.cells c e fr)) (sz:Option Nat):vLoad sz (.pointer (some ⟨b,off,none⟩)) h K↔cellsAt sz c off K:=
 ⟨λ⟨_,_,_,_,_,ea,hb',k⟩=>by cases ea;rw[hb]at hb';cases hb';exact k,λk=>⟨b,off,c,e,fr,rfl,hb,k⟩⟩
theorem cellsAt_one {c:Array Value} {off:Nat} {v:Value} (hv:c[off]?=some v):cellsAt none c off K↔K v:=⟨λ⟨u,hu,k⟩=>by rw[hv]at hu;cases hu;exact k,λk=>⟨v,hv,k⟩⟩
theorem vLoad_1 {b off:Nat} {c:Array Value} {e:TypeId} {fr:Nat×Nat} {v:Value} (hb:h b=some (.cells c e fr)) (hv:c[off]?=some v):vLoad none (.pointer (some ⟨b,off,none⟩)) h K↔K v:=by
 rw[vLoad_p hb,cellsAt_one hv]
theorem vLoad_n {b off n:Nat} {c:Array Value} {e:TypeId} {fr:Nat×Nat} (hb:h b=some (.cells c e fr)) (hn:off+n<=c.size):vLoad (some n) (.pointer (some ⟨b,off,none⟩)) h K↔K (.agg (c.extract off (off+n))):=by
 rw[vLoad_p hb];exact⟨λk=>k.2,λk=>⟨hn,k⟩⟩
theorem vStore_p {n b off:Nat} {c:Array Value} {e:TypeId} {v:Value} {K:PH->Prop} (hb:h b=some (.cells c e (0,0))) (hn:v.cells.size=n) (hl:off+n<=c.size) (ho:v.cells.toList.all Value.oneCell'=true) :
  vStore n (.pointer (some ⟨b,off,none⟩)) v h K↔K (ins h b (.cells (wr c off v.cells.toList) e (0,0))):=
 ⟨λ⟨_,_,_,_,_,ea,hb',_,_,_,_,k⟩=>by cases ea;rw[hb]at hb';cases hb';exact k,λk=>⟨b,off,c,e,(0,0),rfl,hb,hn,hl,ho,.inl (Nat.zero_le _),k⟩⟩
theorem vStore_1 {b off:Nat} {c:Array Value} {e:TypeId} {v:Value} {K:PH->Prop} (hb:h b=some (.cells c e (0,0))) (hl:off<c.size) (ho:v.oneCell'=true) :
  vStore 1 (.pointer (some ⟨b,off,none⟩)) v h K↔K (ins h b (.cells (c.setIfInBounds off v) e (0,0))):=by
 have hc:v.cells=#[v]:=by cases v <;> first | rfl | cases ho
 rw[vStore_p hb (by rw[hc];rfl) hl (by rw[hc];simp[ho])]
 rw[hc];rfl
theorem wr_all:∀(vs:List Value) (c:Array Value),c.size=vs.length->wr c 0 vs=vs.toArray:=λvs c hc=>by
 rw[wr_behind (by omega)]
 have:c.toList.drop (0+vs.length) = []:=List.drop_eq_nil_of_le (by simp;omega)
 rw[this];simp
theorem vStore_all {n b:Nat} {c cs:Array Value} {e:TypeId} {K:PH->Prop} (hb:h b=some (.cells c e (0,0))) (h1:c.size=n) (h2:cs.size=n) (ho:cs.toList.all Value.oneCell'=true) :
  vStore n (.pointer (some ⟨b,0,none⟩)) (.agg cs) h K↔K (ins h b (.cells cs e (0,0))):=by
 rw[vStore_p (v:=.agg cs) hb h2 (by omega) ho,wr_all _ _ (by rw[h1];exact h2.symm)]
 simp[Value.cells]
theorem vStore_to {n b:Nat} {c cs:Array Value} {e:TypeId} {K:PH->Prop} (hb:h b=some (.cells c e (0,0))) (h1:c.size=n) (h2:cs.size=n) (ho:cs.toList.all Value.oneCell'=true) (hk:K (ins h b (.cells cs e (0,0)))) :
  vStore n (.pointer (some ⟨b,0,none⟩)) (.agg cs) h K:=(vStore_all hb h1 h2 ho).2 hk
@[simp] theorem vLenS_s (p:Option Addr) (len cap:Nat):vLenS (.slice p len cap) K↔K (.int .i64 len):=⟨λ⟨_,_,_,e,k⟩=>by cases e;exact k,λk=>⟨_,_,_,rfl,k⟩⟩
@[simp] theorem vLenStr_s (s:ByteArray):vLenStr (.string s) K↔K (.int .i64 s.size):=⟨λ⟨_,e,k⟩=>by cases e;exact k,λk=>⟨_,rfl,k⟩⟩
@[simp] theorem vConvI_i (k k':IntKind) (n:Int):vConvI k (.int k' n) K↔K (.int k (k.wrap n)):=⟨λ⟨_,_,e,k⟩=>by cases e;exact k,λk=>⟨_,_,rfl,k⟩⟩
@[simp] theorem vMinMax_i (mx:Bool) (k k':IntKind) (a b:Int):vMinMax mx (.int k a) (.int k' b) K↔K (.int k (if (if mx then b>a else b<a)then b else a)):=⟨λ⟨_,_,_,_,e,e',k⟩=>by cases e;cases e';exact k,λk=>⟨_,_,_,_,rfl,rfl,k⟩⟩
@[simp] theorem vIface_v (t:TypeId) (a:Value):vIface t a K↔K (.iface t a):=Iff.rfl
@[simp] theorem vFunc_v (f:Fn) (a b:Array Value):vFunc f a b K↔K (.func f a b):=Iff.rfl
@[simp] theorem boolOf_b (b:Bool):boolOf (.bool b)=some b:=rfl
@[simp] theorem gq_b (b w:Bool) (op:(Value->PH->Prop)->Prop) (K:Value->PH->Prop):gq (some b) w op K h↔(b=w->op K)/\(b≠w->K undef h):=by
 simp[gq]
@[simp] theorem boolOf_u:boolOf undef=none:=rfl
@[simp] theorem gq_n (w:Bool) (op:(Value->PH->Prop)->Prop) (K:Value->PH->Prop):gq none w op K h↔K undef h:=by simp[gq]
@[simp] theorem gd_n (w:Bool) (A:Prop):gd none w A↔True:=by simp[gd]
@[simp] theorem gd_b (b w:Bool) (A:Prop):gd (some b) w A↔(b=w->A):=by simp[gd]
theorem vNew_i {cells:Array Value} {e:TypeId} {K:Value->PH->Prop} (hk:∀b,h b=none->K (.pointer (some ⟨b,0,none⟩)) (ins h b (.cells cells e (0,0)))):vNew cells e h K:=hk
theorem pureRun_underlying {t:TypeId} {d:TypeDesc} (hu:P.underlying t=some d):pureRun P (underlying t)=some d:=by
 unfold underlying program
 show pureRun P (Sem.program λp=>_)=_
 simp only[pureRun,Sem.bind,hu]
 rfl
theorem pureRun_eqGuard {op:BinOp} {t:TypeId} {x y:Operand} {a b:Value} (ha:∀c,a≠.agg c) (hn:a≠.nilIface):pureRun P (eqGuard op t x y a b)=some ():=by
 unfold eqGuard
 cases op <;> first | rfl | (cases a <;> first | rfl | exact absurd rfl (ha _) | exact absurd rfl hn)
theorem vBin_eq {t:TypeId} {a b:Value} {r:Bool} (h0:∀x y,pureRun P (eqGuard .eql t x y a b)=some ()) (hb:binOp .eql t a b=(do pure (.bool (<-Op.equal t a b)))) (hr:pureRun P (Op.equal t a b)=some r):vBin P .eql t a b K↔K (.bool r):=
 vBin_of λx y=>pureRun_seq (h0 x y) (by rw[hb];exact pureRun_seq hr rfl)
theorem vBin_ne {t:TypeId} {a b:Value} {r:Bool} (h0:∀x y,pureRun P (eqGuard .neq t x y a b)=some ()) (hb:binOp .neq t a b=(do pure (.bool (!(<-Op.equal t a b))))) (hr:pureRun P (Op.equal t a b)=some r):vBin P .neq t a b K↔K (.bool (!r)):=
 vBin_of λx y=>pureRun_seq (h0 x y) (by rw[hb];exact pureRun_seq hr rfl)
theorem equalIn_pnil (d:Nat) {t e:TypeId} (hu:P.underlying t=some (.pointer e)) (a:Addr):pureRun P (Op.equalIn (d+1) t (.pointer (some a)) (.pointer none))=some false:=by
 rw[Op.equalIn]
 exact pureRun_seq (pureRun_underlying hu) rfl
theorem equalIn_nilnil (d:Nat) {t e:TypeId} (hu:P.underlying t=some (.pointer e)):pureRun P (Op.equalIn (d+1) t (.pointer none) (.pointer none))=some true:=by
 rw[Op.equalIn]
 exact pureRun_seq (pureRun_underlying hu) rfl
theorem equal_pnil {t e:TypeId} (hu:P.underlying t=some (.pointer e)) (a:Addr):pureRun P (Op.equal t (.pointer (some a)) (.pointer none))=some false:=equalIn_pnil 9999 hu a
theorem equal_nilnil {t e:TypeId} (hu:P.underlying t=some (.pointer e)):pureRun P (Op.equal t (.pointer none) (.pointer none))=some true:=equalIn_nilnil 9999 hu
theorem vBin_pnil {t e:TypeId} (hu:P.underlying t=some (.pointer e)) (a:Addr):vBin P .eql t (.pointer (some a)) (.pointer none) K↔K (.bool false):=
 vBin_eq (λ_ _=>pureRun_eqGuard (λ_ h=>by cases h) (λh=>by cases h)) rfl (equal_pnil hu a)
theorem vBin_nilp {t e:TypeId} (hu:P.underlying t=some (.pointer e)):vBin P .eql t (.pointer none) (.pointer none) K↔K (.bool true):=
 vBin_eq (λ_ _=>pureRun_eqGuard (λ_ h=>by cases h) (λh=>by cases h)) rfl (equal_nilnil hu)
theorem vBin_pneq {t e:TypeId} (hu:P.underlying t=some (.pointer e)) (a:Addr):vBin P .neq t (.pointer (some a)) (.pointer none) K↔K (.bool true):=
 vBin_ne (λ_ _=>pureRun_eqGuard (λ_ h=>by cases h) (λh=>by cases h)) rfl (equal_pnil hu a)
theorem vBin_nilneq {t e:TypeId} (hu:P.underlying t=some (.pointer e)):vBin P .neq t (.pointer none) (.pointer none) K↔K (.bool false):=
 vBin_ne (λ_ _=>pureRun_eqGuard (λ_ h=>by cases h) (λh=>by cases h)) rfl (equal_nilnil hu)
end
end Go.Pw
set_option linter.unusedSimpArgs false
set_option linter.unusedVariables false
namespace Go.Pw
open Go
def lfn {F S:Type} (B:F->(F->S->PH->Prop)->S->PH->Prop) (f:F) (n:Nat) (s:S) (h:PH):Prop:=
 B f (λf' s' h'=>f'=f/\∃m,∃hm:m<n,lfn B f m s' h') s h
termination_by n
theorem lfn_eq {F S:Type} (B:F->(F->S->PH->Prop)->S->PH->Prop) (f:F) (n:Nat) (s:S) (h:PH):lfn B f n s h=B f (λf' s' h'=>f'=f/\∃m,m<n/\lfn B f m s' h') s h:=by
 rw[lfn]
 congr 1
 funext f' s' h'
 simp only[exists_prop]
theorem lf_unroll {F S:Type} {B:F->(F->S->PH->Prop)->S->PH->Prop} {f:F} {s:S} {h:PH} (n:Nat) (H:lfn B f n s h):lf B f s h:=
 lf_intro (λn s h=>lfn B f n s h) n H λn s h hI=>by rw[lfn_eq]at hI;exact hI
theorem lfn_step {F S:Type} {B:F->(F->S->PH->Prop)->S->PH->Prop} {f:F} {s:S} {h:PH} {n:Nat} (H:∀kn:F->S->PH->Prop,(∀s' h',lfn B f n s' h'->kn f s' h')->B f kn s h):lfn B f (n+1) s h:=by
 rw[lfn_eq]
 exact H _ λs' h' hl=>⟨rfl,n,by omega,hl⟩
theorem vNew_gen {cells:Array Value} {e:TypeId} {h:PH} {K:Value->PH->Prop} (hk:∀b G,h b=none->Sub h G->G b=some (.cells cells e (0,0))->K (.pointer (some ⟨b,0,none⟩)) G):vNew cells e h K:=
 vNew_i λb hb=>hk b _ hb (sub_ins _ hb) (ins_eq _ _ _)
end Go.Pw
set_option linter.unusedSimpArgs false
set_option linter.unusedVariables false
namespace Go.Pw
open Go
def Disj (h g:PH):Prop:=∀b,h b≠none->g b=none
theorem Disj.symm {h g:PH} (d:Disj h g):Disj g h:=λb hb=>by
 cases hh:h b with
 | none=>rfl
 | some o=>exact absurd (d b (by rw[hh];simp)) hb
theorem Disj.sub {h g h' g':PH} (d:Disj h g) (s1:Sub h' h) (s2:Sub g' g):Disj h' g':=λb hb=>by
 cases hh:h' b with
 | none=>exact absurd hh hb
 | some o=>
  have:=d b (by rw[s1 b o hh];simp)
  cases hg:g' b with
  | none=>rfl
  | some p=>rw[s2 b p hg]at this;cases this
theorem sub_join_l (h g:PH):Sub h (join h g):=λb o hb=>by simp[join,hb]
theorem sub_join_r {h g:PH} (d:Disj h g):Sub g (join h g):=λb o hb=>by
 have:h b=none:=d.symm b (by rw[hb];simp)
 simp[join,this,hb]
theorem join_sub {h g k:PH} (s1:Sub h k) (s2:Sub g k):Sub (join h g) k:=λb o hb=>by
 unfold join at hb
 cases hh:h b with
 | some p=>rw[hh]at hb;cases hb;exact s1 _ _ hh
 | none=>rw[hh]at hb;exact s2 _ _ hb
def sep (A B:PH->Prop) (h:PH):Prop:=∃h1 h2,Disj h1 h2/\Sub h1 h/\Sub h2 h/\A h1/\B h2
instance:HSMul (PH->Prop) (PH->Prop) (PH->Prop):=⟨sep⟩
theorem sep_mono {A A' B B':PH->Prop} {h:PH} (H:(A•B) h) (ha:∀g,A g->A' g) (hb:∀g,B g->B' g):(A'•B') h:=by
 obtain⟨h1,h2,d,s1,s2,a,b⟩:=H
 exact⟨h1,h2,d,s1,s2,ha _ a,hb _ b⟩
theorem sep_sub {A B:PH->Prop} {h g:PH} (H:(A•B) h) (hs:Sub h g):(A•B) g:=by
 obtain⟨h1,h2,d,s1,s2,a,b⟩:=H
 exact⟨h1,h2,d,s1.trans hs,s2.trans hs,a,b⟩
theorem sep_c {A B:PH->Prop} {h:PH} (H:(A•B) h):(B•A) h:=by
 obtain⟨h1,h2,d,s1,s2,a,b⟩:=H
 exact⟨h2,h1,d.symm,s2,s1,b,a⟩
theorem sep_comm (A B:PH->Prop):A•B=B•A:=funext λh=>propext ⟨sep_c,sep_c⟩
theorem sep_a {A B C:PH->Prop} {h:PH} (H:((A•B)•C) h):(A•B•C) h:=by
 obtain⟨h12,h3,d,s12,s3,⟨h1,h2,d',s1,s2,a,b⟩,c⟩:=H
 exact⟨h1,join h2 h3,λx hx=>by
   have e1:=d' x hx
   have e2:h3 x=none:=(d.sub s1 (Sub.refl h3)) x hx
   simp[join,e1,e2],s1.trans s12,join_sub (s2.trans s12) s3,a,h2,h3,d.sub s2 (Sub.refl h3),sub_join_l _ _,sub_join_r (d.sub s2 (Sub.refl h3)),b,c⟩
theorem sep_assoc (A B C:PH->Prop):(A•B)•C=A•B•C:=funext λh=>propext ⟨sep_a,λH=>by
 have h1:=sep_a (sep_mono (sep_c H) (λ_=>sep_c) (λ_ h=>h))
 exact sep_mono (sep_c (sep_mono h1 (λ_ h=>h) (λ_=>sep_c))) (λ_=>sep_c) (λ_ h=>h) |> λk=>by
  have k2:(C•A•B) h:=sep_mono h1 (λ_ h=>h) (λ_=>sep_c)
  exact sep_c k2⟩
theorem sep_lc (A B C:PH->Prop):A•B•C=B•A•C:=by rw[<-sep_assoc,sep_comm A B,sep_assoc]
def Mono (A:PH->Prop):Prop:=∀h g,Sub h g->A h->A g
theorem sep_l {A B:PH->Prop} {h:PH} (m:Mono A) (H:(A•B) h):A h:=by
 obtain⟨h1,h2,d,s1,s2,a,b⟩:=H
 exact m _ _ s1 a
theorem sep_r {A B:PH->Prop} {h:PH} (m:Mono B) (H:(A•B) h):B h:=sep_l m (sep_c H)
theorem mono_sep (A B:PH->Prop):Mono (A•B):=λ_ _ s H=>sep_sub H s
theorem sep_and {p:Prop} {A B:PH->Prop} {h:PH}:((λg=>p/\A g)•B) h↔p/\(A•B) h:=
 ⟨λ⟨h1,h2,d,s1,s2,⟨hp,a⟩,b⟩=>⟨hp,h1,h2,d,s1,s2,a,b⟩,λ⟨hp,h1,h2,d,s1,s2,a,b⟩=>⟨h1,h2,d,s1,s2,⟨hp,a⟩,b⟩⟩
theorem sep_ex {X:Type} {A:X->PH->Prop} {B:PH->Prop} {h:PH}:((λg=>∃x,A x g)•B) h↔∃x,(A x•B) h:=
 ⟨λ⟨h1,h2,d,s1,s2,⟨x,a⟩,b⟩=>⟨x,h1,h2,d,s1,s2,a,b⟩,λ⟨x,h1,h2,d,s1,s2,a,b⟩=>⟨h1,h2,d,s1,s2,⟨x,a⟩,b⟩⟩
def emp:PH->Prop:=λ_=>True
theorem sep_emp {A:PH->Prop} {h:PH} (H:A h):(A•emp) h:=⟨h,λ_=>none,λ_ _=>rfl,Sub.refl h,(λ_ _ e=>by simp at e),H,trivial⟩
theorem mono_emp:Mono emp:=λ_ _ _ _=>trivial
def pt (b:Nat) (o:Obj):PH->Prop:=λh=>h b=some o
theorem mono_pt (b:Nat) (o:Obj):Mono (pt b o):=λ_ _ s H=>s _ _ H
theorem pt_get {b:Nat} {o:Obj} {C:PH->Prop} {h:PH} (H:(pt b o•C) h):h b=some o:=sep_l (mono_pt b o) H
def one (b:Nat) (o:Obj):PH:=ins (λ_=>none) b o
theorem one_sub {b:Nat} {o:Obj} {h:PH} (hb:h b=some o):Sub (one b o) h:=λx p hp=>by
 unfold one at hp
 by_cases e:x=b
 ·subst e;rw[ins_eq]at hp;cases hp;exact hb
 ·rw[ins_ne _ _ e]at hp;cases hp
theorem pt_put {b:Nat} {o p:Obj} {C:PH->Prop} {h:PH} (H:(pt b o•C) h):(pt b p•C) (ins h b p):=by
 obtain⟨h1,h2,d,s1,s2,a,c⟩:=H
 have hb:h2 b=none:=d b (by rw[show h1 b=some o from a];simp)
 refine⟨one b p,h2,λx hx=>?_,one_sub (ins_eq _ _ _),λx q hq=>?_,ins_eq _ _ _,c⟩
 ·by_cases e:x=b
  ·subst e;exact hb
  ·exact absurd (by unfold one;rw[ins_ne _ _ e]) hx
 ·rw[ins_ne _ _ (λe=>by rw[e,hb]at hq;cases hq)];exact s2 _ _ hq
theorem pt_new {b:Nat} {o:Obj} {C:PH->Prop} {h:PH} (hb:h b=none) (H:C h):(pt b o•C) (ins h b o):=
 ⟨one b o,h,λx hx=>by
  by_cases e:x=b
  ·subst e;exact hb
  ·exact absurd (by unfold one;rw[ins_ne _ _ e]) hx,one_sub (ins_eq _ _ _),sub_ins _ hb,ins_eq _ _ _,H⟩
theorem ACalls.sep {P:Program} {f:FuncId} {args:Array Value} {h:PH} {A C:PH->Prop} {Q R:AEnd->PH->Prop} (hs:(A•C) h) (H:∀g,A g->ACalls P f args g Q) (hR:∀e g,(Q e•C) g->R e g) :
  ACalls P f args h R:=by
 obtain⟨h1,h2,d,s1,s2,a,c⟩:=hs
 have hj:h=join h1 (λb=>match h1 b with | some _=>none | none=>h b):=by
  funext b
  unfold join
  cases hh:h1 b with
  | none=>simp[hh]
  | some o=>exact s1 _ _ hh
 rw[hj]
 refine ((H h1 a).frame _ λb hb=>?_).mono ?_
 ·cases hh:h1 b with
  | none=>exact absurd hh hb
  | some o=>rfl
 ·rintro e g ⟨g1,rfl,hd,hq⟩
  refine hR e _ ⟨g1,h2,λb hb=>?_,sub_join_l _ _,λb o hb=>?_,hq,c⟩
  ·cases hh:h2 b with
   | none=>rfl
   | some o=>
    refine absurd (hd b ?_) hb
    have:h1 b=none:=d.symm b (by rw[hh];simp)
    simp[this,s2 _ _ hh]
  ·have e1:h1 b=none:=d.symm b (by rw[hb];simp)
   have e2:g1 b=none:=hd b (by simp[e1,s2 _ _ hb])
   simp[join,e1,e2,s2 _ _ hb]
def stars (A:Nat->PH->Prop):Nat->PH->Prop
 | 0=>emp
 | n+1=>stars A n•A n
def upA (A:Nat->PH->Prop) (i:Nat) (B:PH->Prop):Nat->PH->Prop:=λk=>if k=i then B else A k
theorem stars_congr {A B:Nat->PH->Prop}:∀(n:Nat),(∀k,k<n->A k=B k)->stars A n=stars B n
 | 0,_=>rfl
 | n+1,H=>by unfold stars;rw[stars_congr n λk hk=>H k (by omega),H n (by omega)]
theorem sep_emp_eq {A:PH->Prop} (m:Mono A):A•emp=A:=funext λh=>propext ⟨sep_l m,sep_emp⟩
theorem mono_stars (A:Nat->PH->Prop):∀n,Mono (stars A n)
 | 0=>mono_emp
 | n+1=>mono_sep _ _
theorem stars_take {A:Nat->PH->Prop} {i:Nat} {B:PH->Prop} (hm:Mono B):∀(n:Nat),i<n->stars (upA A i B) n=B•stars (upA A i emp) n
 | n+1,hi=>by
  unfold stars
  by_cases e:i=n
  ·subst e
   have e1:stars (upA A i B) i=stars A i:=stars_congr _ λk hk=>by unfold upA;rw[if_neg (by omega)]
   have e2:stars (upA A i emp) i=stars A i:=stars_congr _ λk hk=>by unfold upA;rw[if_neg (by omega)]
   have e3:upA A i B i=B:=if_pos rfl
   have e4:upA A i emp i=emp:=if_pos rfl
   rw[e1,e2,e3,e4,sep_emp_eq (mono_stars A i),sep_comm]
  ·rw[stars_take hm n (by omega),sep_assoc]
   have e1:upA A i B n=A n:=if_neg (by omega)
   have e2:upA A i emp n=A n:=if_neg (by omega)
   rw[e1,e2]
theorem upA_self (A:Nat->PH->Prop) (i:Nat):upA A i (A i)=A:=by
 funext k;unfold upA;split
 ·rename_i e;rw[e]
 ·rfl
theorem stars_get {A:Nat->PH->Prop} {i n:Nat} (hi:i<n) (hm:Mono (A i)):stars A n=A i•stars (upA A i emp) n:=by
 have:=stars_take (A:=A) (B:=A i) hm n hi
 rwa [upA_self]at this
end Go.Pw

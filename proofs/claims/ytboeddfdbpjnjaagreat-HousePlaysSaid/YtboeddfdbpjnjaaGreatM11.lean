/- Texts of this claim, one behind the other. -/
import Derived.Test.YtboeddfdbpjnjaaGreatM10
import Derived.Laws.Externs
import Derived.KernelRfl
set_option linter.unusedSimpArgs false
set_option linter.unusedVariables false
namespace Go.Pw
open Go Go.Proofs
theorem R1 {P : Program} {f : FuncId} {b : Func} {e : Array Value → Sem Value} {args : Array Value} {h : PH} {v : Value} {K : Value → PH → Prop} (i : P.funcs[f]? = some b) (a : (b.name == "runtime.NumGoroutine") = false)
  (k:b.body.isNone=true) (d:Extern.findNext b=none) (j:Extern.find b=some e) (c:∀w:World,(e args).run P w = .ok v w) (g:K v h):Nk P f args h K:=λw _=>by
 refine⟨v,w.drawn,?_,g⟩;rw[run_callFunc_extern i a k d j,c w]
 rfl
section
variable {h:PH} {K:Value->PH->Prop}
theorem bH {b:Nat} (a:K (.int .u64 b) h):Nk Tryz.prog 78 #[.float .f64 b] h K:=
 R1 (e:=Extern.MathFloatBits.float64bits) Tryz.func78 (by kernel_rfl) (by kernel_rfl) (by kernel_rfl) (by kernel_rfl) (λw=>rfl) a
theorem Vc {n:Int} (a:K (.float .f64 n.toNat) h):Nk Tryz.prog 42 #[.int .u64 n] h K:=
 R1 (e:=Extern.MathFloatBits.float64frombits) Tryz.func42 (by kernel_rfl) (by kernel_rfl) (by kernel_rfl) (by kernel_rfl) (λw=>rfl) a
def dat (b:Nat):Ieee.Datum:=FloatKind.f64.decode b
def Hf (b:Nat):Nat:=FloatKind.f64.encode ((dat b).integral .zero)
theorem XG {b:Nat} (a:(dat b).isNaN=false) (f:K (.float .f64 (Hf b)) h):Nk Tryz.prog 178 #[.float .f64 b] h K:=
 R1 (e := Extern.MathFloor.toIntegral "math.archTrunc" .zero) Tryz.func178 (by kernel_rfl) (by kernel_rfl) (by kernel_rfl) (by kernel_rfl) (fun w => by
  unfold dat at a;have c : ∃ X : Bool → Nat → Sem Value, Extern.MathFloor.toIntegral "math.archTrunc" .zero #[.float .f64 b] = (match FloatKind.f64.decode b with | .nan s t => X s t | d => pure (.float .f64 (FloatKind.f64.encode (d.integral .zero)))) := ⟨_, rfl⟩;obtain⟨X,c⟩:=c;rw[c];unfold Hf dat;cases g:FloatKind.f64.decode b with
  | nan s t=>rw[g]at a;cases a
  | infinity s=>rfl
  | number s m i=>rfl) f
end
section
variable {P:Program} {K:Value->Prop}
def Gr (x y:Nat):Option Ordering:=Ieee.double.order x y
theorem JQ (t:TypeId) (x y:Nat):A6 P .neq t (.float .f64 x) (.float .f64 y) K↔K (.bool (Gr x y != some .eq)):=Bi λ_ _=>by
 simp[eqGuard,binOp,Op.floatCmp];rfl
theorem Pz (t:TypeId) (x y:Nat):A6 P .lss t (.float .f64 x) (.float .f64 y) K↔K (.bool (Gr x y==some .lt)):=Bi λ_ _=>by
 simp[eqGuard,binOp,Op.floatCmp];rfl
theorem JR (t:TypeId) (x y:Nat):A6 P .gtr t (.float .f64 x) (.float .f64 y) K↔K (.bool (Gr x y==some .gt)):=Bi λ_ _=>by
 simp[eqGuard,binOp,Op.floatCmp];rfl
end
end Go.Pw

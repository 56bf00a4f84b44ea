/- Texts of this claim, one behind the other. -/
import Derived.Test.YtboeddfdbpjnjaaGreatM10
import Derived.Laws.Externs
import Derived.KernelRfl
set_option linter.unusedSimpArgs false
set_option linter.unusedVariables false
namespace Go.Pw
open Go Go.Proofs
theorem vLib_of {P : Program} {f : FuncId} {fn : Func} {e : Array Value → Sem Value} {args : Array Value} {h : PH} {v : Value} {K : Value → PH → Prop} (hf : P.funcs[f]? = some fn) (hname : (fn.name == "runtime.NumGoroutine") = false)
  (hb:fn.body.isNone=true) (hn:Extern.findNext fn=none) (he:Extern.find fn=some e) (hr:∀w:World,(e args).run P w = .ok v w) (hk:K v h):vLib P f args h K:=λw _=>by
 refine⟨v,w.drawn,?_,hk⟩
 rw[run_callFunc_extern hf hname hb hn he,hr w]
 rfl
section
variable {h:PH} {K:Value->PH->Prop}
theorem f2b_ok {b:Nat} (hk:K (.int .u64 b) h):vLib Tryz.prog 78 #[.float .f64 b] h K:=
 vLib_of (e:=Extern.MathFloatBits.float64bits) Tryz.func78 (by kernel_rfl) (by kernel_rfl) (by kernel_rfl) (by kernel_rfl) (λw=>rfl) hk
theorem b2f_ok {n:Int} (hk:K (.float .f64 n.toNat) h):vLib Tryz.prog 42 #[.int .u64 n] h K:=
 vLib_of (e:=Extern.MathFloatBits.float64frombits) Tryz.func42 (by kernel_rfl) (by kernel_rfl) (by kernel_rfl) (by kernel_rfl) (λw=>rfl) hk
def dat (b:Nat):Ieee.Datum:=FloatKind.f64.decode b
def truncF (b:Nat):Nat:=FloatKind.f64.encode ((dat b).integral .zero)
theorem trunc_lib {b:Nat} (hb:(dat b).isNaN=false) (hk:K (.float .f64 (truncF b)) h):vLib Tryz.prog 178 #[.float .f64 b] h K:=
 vLib_of (e := Extern.MathFloor.toIntegral "math.archTrunc" .zero) Tryz.func178 (by kernel_rfl) (by kernel_rfl) (by kernel_rfl) (by kernel_rfl) (fun w => by
  unfold dat at hb
  have hX : ∃ X : Bool → Nat → Sem Value, Extern.MathFloor.toIntegral "math.archTrunc" .zero #[.float .f64 b] = (match FloatKind.f64.decode b with | .nan s t => X s t | d => pure (.float .f64 (FloatKind.f64.encode (d.integral .zero)))) := ⟨_, rfl⟩
  obtain⟨X,hX⟩:=hX
  rw[hX]
  unfold truncF dat
  cases hd:FloatKind.f64.decode b with
  | nan s t=>rw[hd]at hb;cases hb
  | infinity s=>rfl
  | number s m i=>rfl) hk
end
section
variable {P:Program} {K:Value->Prop}
def ordF (x y:Nat):Option Ordering:=Ieee.double.order x y
theorem vBin_fneq (t:TypeId) (x y:Nat):vBin P .neq t (.float .f64 x) (.float .f64 y) K↔K (.bool (ordF x y != some .eq)):=vBin_of λ_ _=>by
 simp[eqGuard,binOp,Op.floatCmp];rfl
theorem vBin_flss (t:TypeId) (x y:Nat):vBin P .lss t (.float .f64 x) (.float .f64 y) K↔K (.bool (ordF x y==some .lt)):=vBin_of λ_ _=>by
 simp[eqGuard,binOp,Op.floatCmp];rfl
theorem vBin_fgtr (t:TypeId) (x y:Nat):vBin P .gtr t (.float .f64 x) (.float .f64 y) K↔K (.bool (ordF x y==some .gt)):=vBin_of λ_ _=>by
 simp[eqGuard,binOp,Op.floatCmp];rfl
end
end Go.Pw

/- The functions without a body. -/
import Derived.Test.YtgpcjdmiecnphaaGreatPxU
import Derived.Test.YtgpcjdmiecnphaaGreatPxT
import Derived.Laws.Externs
set_option linter.unusedVariables false
namespace Go.Px
open Go Go.Pw Go.Proofs
theorem ext_run {P : Program} {f : FuncId} {fn : Func} {e : Array Value → Sem Value} {args : Array Value} {v : Value} (hf : P.funcs[f]? = some fn) (hname : (fn.name == "runtime.NumGoroutine") = false)
    (hb : fn.body.isNone = true) (hn : Extern.findNext fn = none) (he : Extern.find fn = some e) (hr : ∀ w : World, (e args).run P w = .ok v w) (w : World) : ∃ n, (callFunc f args).run P w = .ok (.value v) { w with drawn := n } := by
  refine ⟨w.drawn, ?_⟩
  rw [run_callFunc_extern hf hname hb hn he, hr w]
  rfl
theorem lib_ok : LibOK Tryz.prog lib := by
  intro f vs v ns xs hq hv
  unfold lib at hq
  split at hq
  · rename_i b hf
    have := Nat.eq_of_beq_eq_true hf
    subst this
    cases hq
    simp only [toVs, toV, Option.some.injEq] at hv
    subst hv
    exact ⟨.int .u64 (Int.ofNat b), rfl, ext_run (e := Extern.MathFloatBits.float64bits) Tryz.func115 (by kernel_rfl) (by kernel_rfl) (by kernel_rfl) (by kernel_rfl) (fun w => rfl)⟩
  · split at hq
    · rename_i n hf _
      have := Nat.eq_of_beq_eq_true hf
      subst this
      cases hq
      simp only [toVs, toV, Option.some.injEq] at hv
      subst hv
      exact ⟨.float .f64 n.toNat, rfl, ext_run (e := Extern.MathFloatBits.float64frombits) Tryz.func277 (by kernel_rfl) (by kernel_rfl) (by kernel_rfl) (by kernel_rfl) (fun w => rfl)⟩
    · cases hq
end Go.Px

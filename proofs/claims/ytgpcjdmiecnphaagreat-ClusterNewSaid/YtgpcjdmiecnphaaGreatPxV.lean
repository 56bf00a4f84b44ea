/- This program: its functions without a body, and all that is to be checked of the others. -/
import Derived.Test.YtgpcjdmiecnphaaGreatPxU
import Derived.Test.YtgpcjdmiecnphaaGreatPxT
import Derived.Laws.Externs
set_option linter.unusedVariables false
set_option maxRecDepth 1000000
namespace Go.Px
open Go Go.Pw Go.Proofs
noncomputable def fBs (a : Nat) : Nat → Bool
  | 0 => true
  | n + 1 => fB Tryz.prog ot gt (a + n) && fBs a n
theorem fBs_ok {a : Nat} : ∀ {n f : Nat}, fBs a n = true → a ≤ f → f < a + n → fB Tryz.prog ot gt f = true
  | 0, f, h, h1, h2 => by omega
  | n + 1, f, h, h1, h2 => by
    simp only [fBs, Bool.and_eq_true] at h
    by_cases e : f = a + n
    · subst e; exact h.1
    · exact fBs_ok h.2 h1 (by omega)
theorem fB0 : fBs 0 10 = true := by kernel_rfl
theorem fB1 : fBs 10 10 = true := by kernel_rfl
theorem fB2 : fBs 20 10 = true := by kernel_rfl
theorem fB3 : fBs 30 10 = true := by kernel_rfl
theorem fB4 : fBs 40 10 = true := by kernel_rfl
theorem fB5 : fBs 50 10 = true := by kernel_rfl
theorem fB6 : fBs 60 10 = true := by kernel_rfl
theorem fB7 : fBs 70 10 = true := by kernel_rfl
theorem fB8 : fBs 80 10 = true := by kernel_rfl
theorem fB9 : fBs 90 10 = true := by kernel_rfl
theorem fB10 : fBs 100 10 = true := by kernel_rfl
theorem fB11 : fBs 110 10 = true := by kernel_rfl
theorem fB12 : fBs 120 10 = true := by kernel_rfl
theorem fB13 : fBs 130 10 = true := by kernel_rfl
theorem fB14 : fBs 140 10 = true := by kernel_rfl
theorem fB15 : fBs 150 10 = true := by kernel_rfl
theorem fB16 : fBs 160 10 = true := by kernel_rfl
theorem fB17 : fBs 170 10 = true := by kernel_rfl
theorem fB18 : fBs 180 10 = true := by kernel_rfl
theorem fB19 : fBs 190 10 = true := by kernel_rfl
theorem fB20 : fBs 200 10 = true := by kernel_rfl
theorem fB21 : fBs 210 10 = true := by kernel_rfl
theorem fB22 : fBs 220 10 = true := by kernel_rfl
theorem fB23 : fBs 230 10 = true := by kernel_rfl
theorem fB24 : fBs 240 10 = true := by kernel_rfl
theorem fB25 : fBs 250 10 = true := by kernel_rfl
theorem fB26 : fBs 260 10 = true := by kernel_rfl
theorem fB27 : fBs 270 10 = true := by kernel_rfl
theorem fB28 : fBs 280 10 = true := by kernel_rfl
theorem fB29 : fBs 290 10 = true := by kernel_rfl
theorem fB30 : fBs 300 10 = true := by kernel_rfl
theorem fB31 : fBs 310 10 = true := by kernel_rfl
theorem fB32 : fBs 320 10 = true := by kernel_rfl
theorem fB33 : fBs 330 10 = true := by kernel_rfl
theorem fB34 : fBs 340 10 = true := by kernel_rfl
theorem fB35 : fBs 350 10 = true := by kernel_rfl
theorem fB36 : fBs 360 7 = true := by kernel_rfl
theorem prog_size : Tryz.prog.funcs.size = 367 := by kernel_rfl
end Go.Px

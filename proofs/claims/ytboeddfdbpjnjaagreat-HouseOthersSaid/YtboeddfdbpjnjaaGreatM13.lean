/- Texts of this claim, one behind the other. -/
import Derived.Test.YtboeddfdbpjnjaaGreatM4
import Derived.Test.YtboeddfdbpjnjaaGreatM12
/- Functions that defer a closure which recovers: printed by wip/tools/shprint.py. -/
set_option linter.unusedVariables false
set_option maxRecDepth 100000
namespace Go.Pw
open Go Go.Proofs
/- gavel/wire.OfOp, which defers gavel/wire.OfOp$1 -/
noncomputable def c58 : Code := bodyOf Tryz.f58
def o58 : List (Nat × List (Nat × List Nat)) := []
theorem s58 : Tryz.f58.body = some c58 := by kernel_rfl
def d32 (x0 x1 y2 y3 : Value) (R : AEnd → PH → Prop) (v : Value) (h : PH) : Prop :=
  vBin Tryz.prog .neq 20 v (.nilIface) fun t5 =>
  dIf t5 (vBuild [(0, 1), (1, 1), (2, 1), (3, 1), (4, 1), (5, 1)] #[.int .i64 0, .int .i64 0, .int .i64 0, .int .i64 0, .int .i64 0, .float .f64 0] [] fun t6 =>
  vCall Tryz.prog 59 #[v] h (fun t8 h_1 =>
  vStore 6 x0 t6 h_1 fun h_2 =>
  vStore 1 x1 t8 h_2 fun h_3 =>
  vLoad (some 6) y2 h_3 fun rv =>
  vLoad none y3 h_3 fun rv_1 =>
  R (.ret (.tuple #[rv, rv_1])) h_3)
  (fun _ _ => False))
  (vLoad (some 6) y2 h fun rv_2 =>
  vLoad none y3 h fun rv_3 =>
  R (.ret (.tuple #[rv_2, rv_3])) h)
noncomputable def c32 : Code := bodyOf Tryz.f32
def o32 : List (Nat × List (Nat × List Nat)) := []
def b32_9 (Kp : List PanicEntry → PH → Prop) (x0 : (Value × Value × Value × Value) → PH → Prop) (f : Value × Value × Value × Value) (kn : (Value × Value × Value × Value) → (Value × Value) → PH → Prop) (s : Value × Value) (h : PH) : Prop :=
  vBin Tryz.prog .lss 3 s.2 (.int .i64 8) fun t27 =>
  dIf t27 (vIxStr f.2.2.2 s.2 fun t32 =>
  vConvI .u64 t32 fun t33 =>
  vBin Tryz.prog .mul 3 (.int .i64 8) s.2 fun t35 =>
  vBin Tryz.prog .shl 102 t33 t35 fun t36 =>
  vBin Tryz.prog .or 102 s.1 t36 fun t37 =>
  vBin Tryz.prog .add 3 s.2 (.int .i64 1) fun t38 =>
  kn f (t37, t38) h)
  (x0 (f.1, f.2.1, f.2.2.1, s.1) h)

def sh32 (a0 : Value) (h : PH) (R : AEnd → PH → Prop) : Prop :=
  vNew #[.int .i64 0, .int .i64 0, .int .i64 0, .int .i64 0, .int .i64 0, .float .f64 0] 25 h fun t2 h_1 =>
  vNew #[.int .i64 0] 30 h_1 fun t3 h_2 =>
  vLenStr a0 fun t9 =>
  vBin Tryz.prog .gtr 3 t9 (.int .i64 256) fun t10 =>
  dIf t10 (vBuild [(0, 1), (1, 1), (2, 1), (3, 1), (4, 1), (5, 1)] #[.int .i64 0, .int .i64 0, .int .i64 0, .int .i64 0, .int .i64 0, .float .f64 0] [] fun t11 =>
  vStore 6 t2 t11 h_2 fun h_3 =>
  vStore 1 t3 (.int .i64 4) h_3 fun h_4 =>
  vLoad (some 6) t2 h_4 fun rv =>
  vLoad none t3 h_4 fun rv_1 =>
  R (.ret (.tuple #[rv, rv_1])) h_4)
  (vBuild [(0, 1), (1, 1)] #[.string ⟨#[]⟩, .int .i64 0] [(0, a0), (1, (.int .i64 0))] fun t14 =>
  vNew #[.string ⟨#[]⟩, .int .i64 0] 135 h_2 fun t4 h_5 =>
  vStore 2 t4 t14 h_5 fun h_6 =>
  vCall Tryz.prog 60 #[t4] h_6 (fun t15 h_7 =>
  vCall Tryz.prog 60 #[t4] h_7 (fun t16 h_8 =>
  vCall Tryz.prog 60 #[t4] h_8 (fun t17 h_9 =>
  vCall Tryz.prog 60 #[t4] h_9 (fun t18 h_10 =>
  vCall Tryz.prog 60 #[t4] h_10 (fun t19 h_11 =>
  vFA 0 t2 fun t20 =>
  vStore 1 t20 t15 h_11 fun h_12 =>
  vFA 1 t2 fun t21 =>
  vStore 1 t21 t16 h_12 fun h_13 =>
  vFA 2 t2 fun t22 =>
  vStore 1 t22 t17 h_13 fun h_14 =>
  vFA 3 t2 fun t23 =>
  vStore 1 t23 t18 h_14 fun h_15 =>
  vFA 4 t2 fun t24 =>
  vStore 1 t24 t19 h_15 fun h_16 =>
  vCall Tryz.prog 61 #[t4, (.int .i64 8)] h_16 (fun t25 h_17 =>
  lf (b32_9 (fun c h => ∃ v, c = [{ v := v, recovered := false }] ∧ d32 t2 t3 t2 t3 R v h) (fun v h => exq (fun ρ => (ρ 2, ρ 3, ρ 4, ρ 6)) v (fun r h_18 =>
  vCall Tryz.prog 62 #[(r 4)] h_18 (fun t39 h_19 =>
  vLib Tryz.prog 42 #[(r 6)] h_19 fun t41 h_20 =>
  vFA 5 (r 2) fun t42 =>
  vStore 1 t42 t41 h_20 fun h_21 =>
  vLoad (some 6) (r 2) h_21 fun t43 =>
  vStore 6 (r 2) t43 h_21 fun h_22 =>
  vStore 1 (r 3) (.int .i64 0) h_22 fun h_23 =>
  d32 t2 t3 t2 t3 R .nilIface h_23)
  (fun c h => ∃ v, c = [{ v := v, recovered := false }] ∧ d32 t2 t3 t2 t3 R v h)) h)) (t2, t3, t4, t25) ((.int .u64 0), (.int .i64 0)) h_17)
  (fun c h => ∃ v, c = [{ v := v, recovered := false }] ∧ d32 t2 t3 t2 t3 R v h))
  (fun c h => ∃ v, c = [{ v := v, recovered := false }] ∧ d32 t2 t3 t2 t3 R v h))
  (fun c h => ∃ v, c = [{ v := v, recovered := false }] ∧ d32 t2 t3 t2 t3 R v h))
  (fun c h => ∃ v, c = [{ v := v, recovered := false }] ∧ d32 t2 t3 t2 t3 R v h))
  (fun c h => ∃ v, c = [{ v := v, recovered := false }] ∧ d32 t2 t3 t2 t3 R v h))
  (fun c h => ∃ v, c = [{ v := v, recovered := false }] ∧ d32 t2 t3 t2 t3 R v h))
def L32 (Kp : List PanicEntry → PH → Prop) : Loops := fun c Q ρ h =>
    sel (Nat.beq (loopId c) 9) (lf (b32_9 Kp (fun v h => exq (fun ρ => (ρ 2, ρ 3, ρ 4, ρ 6)) v (Q (.exit 0)) h)) ((fun ρ => (ρ 2, ρ 3, ρ 4, ρ 5)) ρ) ((fun ρ => (ρ 6, ρ 26)) ρ) h)
    (False)
theorem B32_9 (Kp : List PanicEntry → PH → Prop) (KN : (Value × Value × Value × Value) → (Value × Value) → PH → Prop) (XX : Exit → (Value × Value × Value × Value) → PH → Prop) (ρ : Env) (h : PH) :
    den Tryz.prog qf (ordOf o32) Kp (L32 Kp) (loopAt (dropC 3 c32) 0) (lq KN XX (fun ρ => (ρ 2, ρ 3, ρ 4, ρ 5)) (fun ρ => (ρ 6, ρ 26)) (fun ρ => (ρ 2, ρ 3, ρ 4, ρ 6))) ρ h = b32_9 Kp (XX (.exit 0)) ((fun ρ => (ρ 2, ρ 3, ρ 4, ρ 5)) ρ) KN ((fun ρ => (ρ 6, ρ 26)) ρ) h := by kernel_rfl
theorem l32 (Kp : List PanicEntry → PH → Prop) : LoopsOK Tryz.prog qf (ordOf o32) Kp (L32 Kp) (dropC 3 c32) :=
  LoopsOK.mk 1 (by kernel_rfl) fun i hi Q ρ h H => match i, hi with
    | 0, _ => loop_gen (F := Value × Value × Value × Value) (S := Value × Value) (X := Value × Value × Value × Value) (φ := (fun ρ => (ρ 2, ρ 3, ρ 4, ρ 5))) (π := (fun ρ => (ρ 6, ρ 26))) (ξ := (fun ρ => (ρ 2, ρ 3, ρ 4, ρ 6))) (B := (fun (XX : Exit → (Value × Value × Value × Value) → PH → Prop) => b32_9 Kp (XX (.exit 0)))) (B32_9 _) (of_den (by kernel_rfl) H)
    | n + 1, hi => absurd hi (by omega)
theorem e32 (a0 : Value) (h : PH) (R : AEnd → PH → Prop) : denGdL Tryz.prog qf (ordOf o32) (ordOf o58) L32 2 c32 c58 12 58 3 2 #[.tmp 2, .tmp 3] Tryz.f32.results.toList #[a0] h R = sh32 a0 h R := by kernel_rfl
theorem g32 : guardBL Tryz.prog qf (ordOf o32) (ordOf o58) 2 Tryz.f32 Tryz.f58 c32 c58 12 3 2 2 = true := by kernel_rfl
theorem s32 : Tryz.f32.body = some c32 := by kernel_rfl
theorem call32 {a0 : Value} {h : PH} {R : AEnd → PH → Prop} (H : sh32 a0 h R) : ACalls Tryz.prog 32 #[a0] h R :=
  ACalls_of_guardBL (k := 2) (t := 12) (tr := 3) (tx := 2) (capOps := #[.tmp 2, .tmp 3]) mixed Tryz.func32 (by kernel_rfl) s32 Tryz.func58 (by kernel_rfl) s58 (by kernel_rfl) (by kernel_rfl) (by kernel_rfl) g32 l32 (of_den (e32 a0 h R) H)

/- gavel/wire.GetInt, which defers gavel/wire.GetInt$1 -/
/- gavel/wire.GetText, which defers gavel/wire.GetText$1 -/
end Go.Pw

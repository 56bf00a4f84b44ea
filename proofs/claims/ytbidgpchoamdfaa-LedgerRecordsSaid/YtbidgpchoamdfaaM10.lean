/- Texts of this claim, one behind the other. -/
import Derived.Test.YtbidgpchoamdfaaM4
import Derived.Test.YtbidgpchoamdfaaM9
/- Functions that defer a closure which recovers: printed by wip/tools/shprint.py. -/
set_option linter.unusedVariables false
set_option maxRecDepth 100000
namespace Go.Pw
open Go Go.Proofs
/- gavel/wire.GetInt, which defers gavel/wire.GetInt$1 -/
noncomputable def c65 : Code := bodyOf Try.f65
def o65 : List (Nat × List (Nat × List Nat)) := []
theorem s65 : Try.f65.body = some c65 := by kernel_rfl
def d58 (x0 x1 x2 y4 y5 y6 : Value) (R : AEnd → PH → Prop) (v : Value) (h : PH) : Prop :=
  vBin Try.prog .neq 20 v (.nilIface) fun t6 =>
  dIf t6 (vCall Try.prog 66 #[v] h (fun t8 h_1 =>
  vStore 1 x0 (.int .i64 0) h_1 fun h_2 =>
  vStore 1 x1 (.int .i64 0) h_2 fun h_3 =>
  vStore 1 x2 t8 h_3 fun h_4 =>
  vLoad none y4 h_4 fun rv =>
  vLoad none y5 h_4 fun rv_1 =>
  vLoad none y6 h_4 fun rv_2 =>
  R (.ret (.tuple #[rv, rv_1, rv_2])) h_4)
  (fun _ _ => False))
  (vLoad none y4 h fun rv_3 =>
  vLoad none y5 h fun rv_4 =>
  vLoad none y6 h fun rv_5 =>
  R (.ret (.tuple #[rv_3, rv_4, rv_5])) h)
noncomputable def c58 : Code := bodyOf Try.f58
def o58 : List (Nat × List (Nat × List Nat)) := [(6, [(0, []), (1, []), (2, []), (3, [2]), (4, []), (5, [])])]
def sh58 (a0 a1 : Value) (h : PH) (R : AEnd → PH → Prop) : Prop :=
  vNew #[.int .i64 0] 3 h fun t4 h_1 =>
  vNew #[.int .i64 0] 3 h_1 fun t5 h_2 =>
  vNew #[.int .i64 0] 29 h_2 fun t6 h_3 =>
  vBin Try.prog .lss 3 a1 (.int .i64 0) fun t9 =>
  gq (boolOf t9) false (fun K =>
  K a1 h_3)
  (fun t11 h_4 =>
  gq (boolOf t9) false (fun K_1 =>
  K_1 a0 h_4)
  (fun t12 h_5 =>
  gq (boolOf t9) false (fun K_2 =>
  vLenStr t12 fun u =>
  K_2 u h_5)
  (fun t13 h_6 =>
  gq (boolOf t9) false (fun K_3 =>
  vBin Try.prog .gtr 3 t11 t13 fun u_1 =>
  K_3 u_1 h_6)
  (fun t14 h_7 =>
  vPick t9 (.bool true) t14 fun t15 =>
  dIf t15 (vStore 1 t4 (.int .i64 0) h_7 fun h_8 =>
  vStore 1 t5 (.int .i64 0) h_8 fun h_9 =>
  vStore 1 t6 (.int .i64 1) h_9 fun h_10 =>
  vLoad none t4 h_10 fun rv =>
  vLoad none t5 h_10 fun rv_1 =>
  vLoad none t6 h_10 fun rv_2 =>
  R (.ret (.tuple #[rv, rv_1, rv_2])) h_10)
  (vBuild [(0, 1), (1, 1)] #[.string ⟨#[]⟩, .int .i64 0] [(0, a0), (1, a1)] fun t19 =>
  vNew #[.string ⟨#[]⟩, .int .i64 0] 111 h_7 fun t7 h_11 =>
  vStore 2 t7 t19 h_11 fun h_12 =>
  vCall Try.prog 67 #[t7] h_12 (fun t20 h_13 =>
  vStore 1 t4 t20 h_13 fun h_14 =>
  vLoad none t4 h_14 fun t21 =>
  vFA 1 t7 fun t22 =>
  vLoad none t22 h_14 fun t23 =>
  vStore 1 t4 t21 h_14 fun h_15 =>
  (vLoad none t22 h_15 fun u_2 =>
  t23 = u_2) ∧
  vStore 1 t5 t23 h_15 fun h_16 =>
  vStore 1 t6 (.int .i64 0) h_16 fun h_17 =>
  d58 t4 t5 t6 t4 t5 t6 R .nilIface h_17)
  (fun c h => ∃ v, c = [{ v := v, recovered := false }] ∧ d58 t4 t5 t6 t4 t5 t6 R v h))) h_6) h_5) h_4) h_3
theorem e58 (a0 a1 : Value) (h : PH) (R : AEnd → PH → Prop) : denGd Try.prog qf (ordOf o58) (ordOf o65) 2 c58 c65 16 65 4 3 #[.tmp 4, .tmp 5, .tmp 6] Try.f58.results.toList #[a0, a1] h R = sh58 a0 a1 h R := by kernel_rfl
theorem g58 : guardB Try.prog qf (ordOf o58) (ordOf o65) 2 Try.f58 Try.f65 c58 c65 16 4 3 3 = true := by kernel_rfl
theorem s58 : Try.f58.body = some c58 := by kernel_rfl
theorem call58 {a0 a1 : Value} {h : PH} {R : AEnd → PH → Prop} (H : sh58 a0 a1 h R) : ACalls Try.prog 58 #[a0, a1] h R :=
  ACalls_of_guardB (k := 2) (t := 16) (tr := 4) (tx := 3) (capOps := #[.tmp 4, .tmp 5, .tmp 6]) mixed Try.func58 (by kernel_rfl) s58 Try.func65 (by kernel_rfl) s65 (by kernel_rfl) (by kernel_rfl) (by kernel_rfl) g58 (of_den (e58 a0 a1 h R) H)

/- gavel/wire.GetText, which defers gavel/wire.GetText$1 -/
noncomputable def c68 : Code := bodyOf Try.f68
def o68 : List (Nat × List (Nat × List Nat)) := []
theorem s68 : Try.f68.body = some c68 := by kernel_rfl
def d59 (x0 x1 x2 y4 y5 y6 : Value) (R : AEnd → PH → Prop) (v : Value) (h : PH) : Prop :=
  vBin Try.prog .neq 20 v (.nilIface) fun t6 =>
  dIf t6 (vCall Try.prog 66 #[v] h (fun t8 h_1 =>
  vStore 1 x0 (.string ⟨#[]⟩) h_1 fun h_2 =>
  vStore 1 x1 (.int .i64 0) h_2 fun h_3 =>
  vStore 1 x2 t8 h_3 fun h_4 =>
  vLoad none y4 h_4 fun rv =>
  vLoad none y5 h_4 fun rv_1 =>
  vLoad none y6 h_4 fun rv_2 =>
  R (.ret (.tuple #[rv, rv_1, rv_2])) h_4)
  (fun _ _ => False))
  (vLoad none y4 h fun rv_3 =>
  vLoad none y5 h fun rv_4 =>
  vLoad none y6 h fun rv_5 =>
  R (.ret (.tuple #[rv_3, rv_4, rv_5])) h)
noncomputable def c59 : Code := bodyOf Try.f59
def o59 : List (Nat × List (Nat × List Nat)) := [(6, [(0, []), (1, []), (2, []), (3, [2]), (4, []), (5, [])])]
def sh59 (a0 a1 : Value) (h : PH) (R : AEnd → PH → Prop) : Prop :=
  vNew #[.string ⟨#[]⟩] 9 h fun t4 h_1 =>
  vNew #[.int .i64 0] 3 h_1 fun t5 h_2 =>
  vNew #[.int .i64 0] 29 h_2 fun t6 h_3 =>
  vBin Try.prog .lss 3 a1 (.int .i64 0) fun t9 =>
  gq (boolOf t9) false (fun K =>
  K a1 h_3)
  (fun t11 h_4 =>
  gq (boolOf t9) false (fun K_1 =>
  K_1 a0 h_4)
  (fun t12 h_5 =>
  gq (boolOf t9) false (fun K_2 =>
  vLenStr t12 fun u =>
  K_2 u h_5)
  (fun t13 h_6 =>
  gq (boolOf t9) false (fun K_3 =>
  vBin Try.prog .gtr 3 t11 t13 fun u_1 =>
  K_3 u_1 h_6)
  (fun t14 h_7 =>
  vPick t9 (.bool true) t14 fun t15 =>
  dIf t15 (vStore 1 t4 (.string ⟨#[]⟩) h_7 fun h_8 =>
  vStore 1 t5 (.int .i64 0) h_8 fun h_9 =>
  vStore 1 t6 (.int .i64 1) h_9 fun h_10 =>
  vLoad none t4 h_10 fun rv =>
  vLoad none t5 h_10 fun rv_1 =>
  vLoad none t6 h_10 fun rv_2 =>
  R (.ret (.tuple #[rv, rv_1, rv_2])) h_10)
  (vBuild [(0, 1), (1, 1)] #[.string ⟨#[]⟩, .int .i64 0] [(0, a0), (1, a1)] fun t19 =>
  vNew #[.string ⟨#[]⟩, .int .i64 0] 111 h_7 fun t7 h_11 =>
  vStore 2 t7 t19 h_11 fun h_12 =>
  vCall Try.prog 69 #[t7] h_12 (fun t20 h_13 =>
  vStore 1 t4 t20 h_13 fun h_14 =>
  vLoad none t4 h_14 fun t21 =>
  vFA 1 t7 fun t22 =>
  vLoad none t22 h_14 fun t23 =>
  vStore 1 t4 t21 h_14 fun h_15 =>
  (vLoad none t22 h_15 fun u_2 =>
  t23 = u_2) ∧
  vStore 1 t5 t23 h_15 fun h_16 =>
  vStore 1 t6 (.int .i64 0) h_16 fun h_17 =>
  d59 t4 t5 t6 t4 t5 t6 R .nilIface h_17)
  (fun c h => ∃ v, c = [{ v := v, recovered := false }] ∧ d59 t4 t5 t6 t4 t5 t6 R v h))) h_6) h_5) h_4) h_3
theorem e59 (a0 a1 : Value) (h : PH) (R : AEnd → PH → Prop) : denGd Try.prog qf (ordOf o59) (ordOf o68) 2 c59 c68 16 68 4 3 #[.tmp 4, .tmp 5, .tmp 6] Try.f59.results.toList #[a0, a1] h R = sh59 a0 a1 h R := by kernel_rfl
theorem g59 : guardB Try.prog qf (ordOf o59) (ordOf o68) 2 Try.f59 Try.f68 c59 c68 16 4 3 3 = true := by kernel_rfl
theorem s59 : Try.f59.body = some c59 := by kernel_rfl
theorem call59 {a0 a1 : Value} {h : PH} {R : AEnd → PH → Prop} (H : sh59 a0 a1 h R) : ACalls Try.prog 59 #[a0, a1] h R :=
  ACalls_of_guardB (k := 2) (t := 16) (tr := 4) (tx := 3) (capOps := #[.tmp 4, .tmp 5, .tmp 6]) mixed Try.func59 (by kernel_rfl) s59 Try.func68 (by kernel_rfl) s68 (by kernel_rfl) (by kernel_rfl) (by kernel_rfl) g59 (of_den (e59 a0 a1 h R) H)

end Go.Pw

/- The functions of the program, told as predicate transformers: printed by wip/tools/shprint.py; each is what the model makes of the function, by the kernel's reckoning. -/
import Derived.Test.YtbidgpchoamdfaaSh
set_option linter.unusedVariables false
set_option maxRecDepth 100000
namespace Go.Pw
open Go Go.Proofs
/- gavel/gavelref01.Number -/
noncomputable def c52 : Code := bodyOf Try.f52
def o52 : List (Nat × List (Nat × List Nat)) := []
def b52_2 (Kp : List PanicEntry → PH → Prop) (x0 : (Value × Value) → PH → Prop) (f : Unit) (kn : (Unit) → (Value × Value) → PH → Prop) (s : Value × Value) (h : PH) : Prop :=
  vBin Try.prog .gtr 3 s.1 (.int .i64 127) fun t5 =>
  dIf t5 (vBin Try.prog .rem 3 s.1 (.int .i64 128) fun t8 =>
  vBin Try.prog .add 3 (.int .i64 128) t8 fun t9 =>
  vConvI .u8 t9 fun t10 =>
  (1 * 1 ≤ 2 ^ 24) ∧ vBuildS 5 1 1 #[.int .u8 0] [(0, t10)] h fun t11 h_1 =>
  (0 < 1) ∧ (0 < 1) ∧ (Array.size #[(.int .u8 0 : Value)] = 1) ∧ vAppend false 5 1 1 s.2 t11 h_1 fun t12 h_2 =>
  vBin Try.prog .quo 3 s.1 (.int .i64 128) fun t14 =>
  kn f (t14, t12) h_2)
  (x0 (s.1, s.2) h)

def sh52 (a0 : Value) (h : PH) (R : AEnd → PH → Prop) : Prop :=
  lf (b52_2 (fun c h => R (.pan c) h) (fun v h => exq (fun ρ => (ρ 0, ρ 3)) v (fun r h_1 =>
  vConvI .u8 (r 0) fun t17 =>
  (1 * 1 ≤ 2 ^ 24) ∧ vBuildS 5 1 1 #[.int .u8 0] [(0, t17)] h_1 fun t18 h_2 =>
  (0 < 1) ∧ (0 < 1) ∧ (Array.size #[(.int .u8 0 : Value)] = 1) ∧ vAppend false 5 1 1 (r 3) t18 h_2 fun t19 h_3 =>
  vConvBS t19 h_3 fun t20 =>
  R (.ret t20) h_3) h)) () (a0, (.slice none 0 0)) h
def L52 (Kp : List PanicEntry → PH → Prop) : Loops := fun c Q ρ h =>
    sel (Nat.beq (loopId c) 2) (lf (b52_2 Kp (fun v h => exq (fun ρ => (ρ 0, ρ 3)) v (Q (.exit 0)) h)) ((fun ρ => ()) ρ) ((fun ρ => (ρ 0, ρ 3)) ρ) h)
    (False)
theorem B52_2 (Kp : List PanicEntry → PH → Prop) (KN : (Unit) → (Value × Value) → PH → Prop) (XX : Exit → (Value × Value) → PH → Prop) (ρ : Env) (h : PH) :
    den Try.prog qf (ordOf o52) Kp (L52 Kp) (loopAt c52 0) (lq KN XX (fun ρ => ()) (fun ρ => (ρ 0, ρ 3)) (fun ρ => (ρ 0, ρ 3))) ρ h = b52_2 Kp (XX (.exit 0)) ((fun ρ => ()) ρ) KN ((fun ρ => (ρ 0, ρ 3)) ρ) h := by kernel_rfl
theorem l52 (R : AEnd → PH → Prop) : LoopsOK Try.prog qf (ordOf o52) (fun c h => R (.pan c) h) (L52 (fun c h => R (.pan c) h)) c52 :=
  LoopsOK.mk 1 (by kernel_rfl) fun i hi Q ρ h H => match i, hi with
    | 0, _ => loop_gen (F := Unit) (S := Value × Value) (X := Value × Value) (φ := (fun ρ => ())) (π := (fun ρ => (ρ 0, ρ 3))) (ξ := (fun ρ => (ρ 0, ρ 3))) (B := (fun (XX : Exit → (Value × Value) → PH → Prop) => b52_2 (fun c h => R (.pan c) h) (XX (.exit 0)))) (B52_2 _) (of_den (by kernel_rfl) H)
    | n + 1, hi => absurd hi (by omega)
theorem e52 (a0 : Value) (h : PH) (R : AEnd → PH → Prop) : denF Try.prog qf (ordOf o52) (L52 (fun c h => R (.pan c) h)) Try.f52.results.toList c52 #[a0] h R = sh52 a0 h R := by kernel_rfl
theorem k52 : codeOK Try.prog qf Try.f52.ntmps (ordOf o52) c52 = true := by kernel_rfl
theorem s52 : Try.f52.body = some c52 := by kernel_rfl
theorem call52 {a0 : Value} {h : PH} {R : AEnd → PH → Prop} (H : sh52 a0 h R) : ACalls Try.prog 52 #[a0] h R :=
  ACalls_of_den mixed Try.func52 s52 (by kernel_rfl) k52 (l52 R) (of_den (e52 a0 h R) H)

/- gavel/gavelref01.Laid -/
noncomputable def c53 : Code := bodyOf Try.f53
def o53 : List (Nat × List (Nat × List Nat)) := []
def sh53 (a0 : Value) (h : PH) (R : AEnd → PH → Prop) : Prop :=
  vLenStr a0 fun t4 =>
  vCall Try.prog 52 #[t4] h (fun t5 h_1 =>
  vBin Try.prog .add 9 t5 a0 fun t7 =>
  R (.ret t7) h_1)
  (fun c h => R (.pan c) h)
theorem l53 (R : AEnd → PH → Prop) : LoopsOK Try.prog qf (ordOf o53) (fun c h => R (.pan c) h) noLoops c53 := noLoops_ok (by kernel_rfl)
theorem e53 (a0 : Value) (h : PH) (R : AEnd → PH → Prop) : denF Try.prog qf (ordOf o53) noLoops Try.f53.results.toList c53 #[a0] h R = sh53 a0 h R := by kernel_rfl
theorem k53 : codeOK Try.prog qf Try.f53.ntmps (ordOf o53) c53 = true := by kernel_rfl
theorem s53 : Try.f53.body = some c53 := by kernel_rfl
theorem call53 {a0 : Value} {h : PH} {R : AEnd → PH → Prop} (H : sh53 a0 h R) : ACalls Try.prog 53 #[a0] h R :=
  ACalls_of_den mixed Try.func53 s53 (by kernel_rfl) k53 (l53 R) (of_den (e53 a0 h R) H)

/- (*gavel/wire.writer).number -/
noncomputable def c54 : Code := bodyOf Try.f54
def o54 : List (Nat × List (Nat × List Nat)) := []
def b54_1 (Kp : List PanicEntry → PH → Prop) (x0 : (Value × Value) → PH → Prop) (f : Value) (kn : (Value) → Value → PH → Prop) (s : Value) (h : PH) : Prop :=
  vBin Try.prog .geq 3 s (.int .i64 128) fun t6 =>
  dIf t6 (vNil f fun t9 =>
  vFA 0 t9 fun t10 =>
  vLoad none t10 h fun t11 =>
  vBin Try.prog .and 3 s (.int .i64 127) fun t13 =>
  vBin Try.prog .or 3 t13 (.int .i64 128) fun t14 =>
  vConvI .u8 t14 fun t15 =>
  (1 * 1 ≤ 2 ^ 24) ∧ vBuildS 5 1 1 #[.int .u8 0] [(0, t15)] h fun t16 h_1 =>
  (0 < 1) ∧ (0 < 1) ∧ (Array.size #[(.int .u8 0 : Value)] = 1) ∧ vAppend false 5 1 1 t11 t16 h_1 fun t17 h_2 =>
  vNil f fun t18 =>
  vFA 0 t18 fun t19 =>
  vStore 1 t19 t17 h_2 fun h_3 =>
  vBin Try.prog .shr 3 s (.int .u64 7) fun t21 =>
  kn f t21 h_3)
  (x0 (f, s) h)

def sh54 (a0 a1 : Value) (h : PH) (R : AEnd → PH → Prop) : Prop :=
  lf (b54_1 (fun c h => R (.pan c) h) (fun v h => exq (fun ρ => (ρ 0, ρ 1)) v (fun r h_1 =>
  vNil (r 0) fun t24 =>
  vFA 0 t24 fun t25 =>
  vLoad none t25 h_1 fun t26 =>
  vConvI .u8 (r 1) fun t28 =>
  (1 * 1 ≤ 2 ^ 24) ∧ vBuildS 5 1 1 #[.int .u8 0] [(0, t28)] h_1 fun t29 h_2 =>
  (0 < 1) ∧ (0 < 1) ∧ (Array.size #[(.int .u8 0 : Value)] = 1) ∧ vAppend false 5 1 1 t26 t29 h_2 fun t30 h_3 =>
  vNil (r 0) fun t31 =>
  vFA 0 t31 fun t32 =>
  vStore 1 t32 t30 h_3 fun h_4 =>
  R (.ret (r 0)) h_4) h)) a0 a1 h
def L54 (Kp : List PanicEntry → PH → Prop) : Loops := fun c Q ρ h =>
    sel (Nat.beq (loopId c) 1) (lf (b54_1 Kp (fun v h => exq (fun ρ => (ρ 0, ρ 1)) v (Q (.exit 0)) h)) ((fun ρ => ρ 0) ρ) ((fun ρ => ρ 1) ρ) h)
    (False)
theorem B54_1 (Kp : List PanicEntry → PH → Prop) (KN : (Value) → (Value) → PH → Prop) (XX : Exit → (Value × Value) → PH → Prop) (ρ : Env) (h : PH) :
    den Try.prog qf (ordOf o54) Kp (L54 Kp) (loopAt c54 0) (lq KN XX (fun ρ => ρ 0) (fun ρ => ρ 1) (fun ρ => (ρ 0, ρ 1))) ρ h = b54_1 Kp (XX (.exit 0)) ((fun ρ => ρ 0) ρ) KN ((fun ρ => ρ 1) ρ) h := by kernel_rfl
theorem l54 (R : AEnd → PH → Prop) : LoopsOK Try.prog qf (ordOf o54) (fun c h => R (.pan c) h) (L54 (fun c h => R (.pan c) h)) c54 :=
  LoopsOK.mk 1 (by kernel_rfl) fun i hi Q ρ h H => match i, hi with
    | 0, _ => loop_gen (F := Value) (S := Value) (X := Value × Value) (φ := (fun ρ => ρ 0)) (π := (fun ρ => ρ 1)) (ξ := (fun ρ => (ρ 0, ρ 1))) (B := (fun (XX : Exit → (Value × Value) → PH → Prop) => b54_1 (fun c h => R (.pan c) h) (XX (.exit 0)))) (B54_1 _) (of_den (by kernel_rfl) H)
    | n + 1, hi => absurd hi (by omega)
theorem e54 (a0 a1 : Value) (h : PH) (R : AEnd → PH → Prop) : denF Try.prog qf (ordOf o54) (L54 (fun c h => R (.pan c) h)) Try.f54.results.toList c54 #[a0, a1] h R = sh54 a0 a1 h R := by kernel_rfl
theorem k54 : codeOK Try.prog qf Try.f54.ntmps (ordOf o54) c54 = true := by kernel_rfl
theorem s54 : Try.f54.body = some c54 := by kernel_rfl
theorem call54 {a0 a1 : Value} {h : PH} {R : AEnd → PH → Prop} (H : sh54 a0 a1 h R) : ACalls Try.prog 54 #[a0, a1] h R :=
  ACalls_of_den mixed Try.func54 s54 (by kernel_rfl) k54 (l54 R) (of_den (e54 a0 a1 h R) H)

/- (*gavel/wire.writer).text -/
noncomputable def c55 : Code := bodyOf Try.f55
def o55 : List (Nat × List (Nat × List Nat)) := []
def sh55 (a0 a1 : Value) (h : PH) (R : AEnd → PH → Prop) : Prop :=
  vLenStr a1 fun t8 =>
  vCall Try.prog 54 #[a0, t8] h (fun t11 h_1 =>
  vNil a0 fun t14 =>
  vFA 0 t14 fun t15 =>
  vLoad none t15 h_1 fun t16 =>
  (0 < 1) ∧ (0 < 1) ∧ (Array.size #[(.int .u8 0 : Value)] = 1) ∧ vAppend true 5 1 1 t16 a1 h_1 fun t18 h_2 =>
  vNil t11 fun t19 =>
  vFA 0 t19 fun t20 =>
  vStore 1 t20 t18 h_2 fun h_3 =>
  R (.ret a0) h_3)
  (fun c h => R (.pan c) h)
theorem l55 (R : AEnd → PH → Prop) : LoopsOK Try.prog qf (ordOf o55) (fun c h => R (.pan c) h) noLoops c55 := noLoops_ok (by kernel_rfl)
theorem e55 (a0 a1 : Value) (h : PH) (R : AEnd → PH → Prop) : denF Try.prog qf (ordOf o55) noLoops Try.f55.results.toList c55 #[a0, a1] h R = sh55 a0 a1 h R := by kernel_rfl
theorem k55 : codeOK Try.prog qf Try.f55.ntmps (ordOf o55) c55 = true := by kernel_rfl
theorem s55 : Try.f55.body = some c55 := by kernel_rfl
theorem call55 {a0 a1 : Value} {h : PH} {R : AEnd → PH → Prop} (H : sh55 a0 a1 h R) : ACalls Try.prog 55 #[a0, a1] h R :=
  ACalls_of_den mixed Try.func55 s55 (by kernel_rfl) k55 (l55 R) (of_den (e55 a0 a1 h R) H)

/- (*gavel/ledger.Ledger).part -/
noncomputable def c56 : Code := bodyOf Try.f56
def o56 : List (Nat × List (Nat × List Nat)) := []
def sh56 (a0 a1 a2 a3 : Value) (h : PH) (R : AEnd → PH → Prop) : Prop :=
  vCall Try.prog 39 #[a0, a1] h (fun t15 h_1 =>
  vExt t15 0 fun t16 =>
  vExt t15 1 fun t17 =>
  vBin Try.prog .eql 29 t17 (.int .i64 0) fun t19 =>
  gq (boolOf t19) true (fun K =>
  K a2 h_1)
  (fun t21 h_2 =>
  gq (boolOf t19) true (fun K_1 =>
  vBin Try.prog .lss 3 t21 (.int .i64 0) fun u =>
  K_1 u h_2)
  (fun t22 h_3 =>
  gq (boolOf t19) true (fun K_2 =>
  K_2 t22 h_3)
  (fun t23 h_4 =>
  gq (boolOf t23) false (fun K_3 =>
  K_3 a2 h_4)
  (fun t24 h_5 =>
  gq (boolOf t23) false (fun K_4 =>
  K_4 a0 h_5)
  (fun t25 h_6 =>
  gq (boolOf t23) false (fun K_5 =>
  vNil t25 fun u_1 =>
  K_5 u_1 h_6)
  (fun t26 h_7 =>
  gq (boolOf t23) false (fun K_6 =>
  vFA 0 t26 fun u_2 =>
  K_6 u_2 h_7)
  (fun t27 h_8 =>
  gq (boolOf t23) false (fun K_7 =>
  vLoad none t27 h_8 fun u_3 =>
  K_7 u_3 h_8)
  (fun t28 h_9 =>
  gq (boolOf t23) false (fun K_8 =>
  vBin Try.prog .geq 3 t24 t28 fun u_4 =>
  K_8 u_4 h_9)
  (fun t29 h_10 =>
  gq (boolOf t19) true (fun K_9 =>
  vPick t23 (.bool true) t29 fun u_5 =>
  K_9 u_5 h_10)
  (fun t30 h_11 =>
  gq (boolOf t19) true (fun K_10 =>
  K_10 t30 h_11)
  (fun t31 h_12 =>
  gq (boolOf t31) false (fun K_11 =>
  K_11 a3 h_12)
  (fun t32 h_13 =>
  gq (boolOf t31) false (fun K_12 =>
  vCall Try.prog 64 #[t32] h_13 (fun u_6 h_14 =>
  K_12 u_6 h_14)
  (fun c h => R (.pan c) h))
  (fun t33 h_15 =>
  gq (boolOf t31) false (fun K_13 =>
  vUn Try.prog .not t33 fun u_7 =>
  K_13 u_7 h_15)
  (fun t34 h_16 =>
  gq (boolOf t19) true (fun K_14 =>
  vPick t31 (.bool true) t34 fun u_8 =>
  K_14 u_8 h_16)
  (fun t35 h_17 =>
  vPick t19 t35 (.bool false) fun t36 =>
  dIf t36 (R (.ret (.tuple #[t16, (.int .i64 1)])) h_17)
  (R (.ret (.tuple #[t16, t17])) h_17)) h_16) h_15) h_13) h_12) h_11) h_10) h_9) h_8) h_7) h_6) h_5) h_4) h_3) h_2) h_1)
  (fun c h => R (.pan c) h)
theorem l56 (R : AEnd → PH → Prop) : LoopsOK Try.prog qf (ordOf o56) (fun c h => R (.pan c) h) noLoops c56 := noLoops_ok (by kernel_rfl)
theorem e56 (a0 a1 a2 a3 : Value) (h : PH) (R : AEnd → PH → Prop) : denF Try.prog qf (ordOf o56) noLoops Try.f56.results.toList c56 #[a0, a1, a2, a3] h R = sh56 a0 a1 a2 a3 h R := by kernel_rfl
theorem k56 : codeOK Try.prog qf Try.f56.ntmps (ordOf o56) c56 = true := by kernel_rfl
theorem s56 : Try.f56.body = some c56 := by kernel_rfl
theorem call56 {a0 a1 a2 a3 : Value} {h : PH} {R : AEnd → PH → Prop} (H : sh56 a0 a1 a2 a3 h R) : ACalls Try.prog 56 #[a0, a1, a2, a3] h R :=
  ACalls_of_den mixed Try.func56 s56 (by kernel_rfl) k56 (l56 R) (of_den (e56 a0 a1 a2 a3 h R) H)

/- (*gavel/ledger.Ledger).read$1 -/
noncomputable def c57 : Code := bodyOf Try.f57
def o57 : List (Nat × List (Nat × List Nat)) := []
def sh57 (a0 a1 : Value) (h : PH) (R : AEnd → PH → Prop) : Prop :=
  vLoad none a0 h fun t7 =>
  vLoad none a1 h fun t8 =>
  vCall Try.prog 58 #[t7, t8] h (fun t9 h_1 =>
  vExt t9 0 fun t10 =>
  vExt t9 1 fun t11 =>
  vExt t9 2 fun t12 =>
  vBin Try.prog .neq 29 t12 (.int .i64 0) fun t14 =>
  gq (boolOf t14) false (fun K =>
  K t10 h_1)
  (fun t16 h_2 =>
  gq (boolOf t14) false (fun K_1 =>
  vBin Try.prog .gtr 3 t16 (.int .i64 1099511627776) fun u =>
  K_1 u h_2)
  (fun t17 h_3 =>
  vPick t14 (.bool true) t17 fun t18 =>
  dIf t18 (vLoad none a0 h_3 fun t19 =>
  vLenStr t19 fun t20 =>
  vBin Try.prog .add 3 t20 (.int .i64 1) fun t21 =>
  vStore 1 a1 t21 h_3 fun h_4 =>
  R (.ret (.int .i64 0)) h_4)
  (vStore 1 a1 t11 h_3 fun h_5 =>
  R (.ret t10) h_5)) h_2) h_1)
  (fun c h => R (.pan c) h)
theorem l57 (R : AEnd → PH → Prop) : LoopsOK Try.prog qf (ordOf o57) (fun c h => R (.pan c) h) noLoops c57 := noLoops_ok (by kernel_rfl)
theorem e57 (a0 a1 : Value) (h : PH) (R : AEnd → PH → Prop) : denF Try.prog qf (ordOf o57) noLoops Try.f57.results.toList c57 #[a0, a1] h R = sh57 a0 a1 h R := by kernel_rfl
theorem k57 : codeOK Try.prog qf Try.f57.ntmps (ordOf o57) c57 = true := by kernel_rfl
theorem s57 : Try.f57.body = some c57 := by kernel_rfl
theorem call57 {a0 a1 : Value} {h : PH} {R : AEnd → PH → Prop} (H : sh57 a0 a1 h R) : ACalls Try.prog 57 #[a0, a1] h R :=
  ACalls_of_den mixed Try.func57 s57 (by kernel_rfl) k57 (l57 R) (of_den (e57 a0 a1 h R) H)

/- gavel/gavelref01.Int -/
noncomputable def c60 : Code := bodyOf Try.f60
def o60 : List (Nat × List (Nat × List Nat)) := []
def b60_3 (Kp : List PanicEntry → PH → Prop) (x0 : (Value × Value × Value) → PH → Prop) (xr : (Value × Value × Value) → PH → Prop) (f : Value × Value) (kn : (Value × Value) → (Value × Value × Value × Value × Value × Value) → PH → Prop) (s : Value × Value × Value × Value × Value × Value) (h : PH) : Prop :=
  vBin Try.prog .lss 3 s.2.2.2.2.2 (.int .i64 8) fun t12 =>
  dIf t12 (vBin Try.prog .add 3 f.2 s.2.2.2.2.2 fun t17 =>
  vLenStr f.1 fun t19 =>
  vBin Try.prog .geq 3 t17 t19 fun t20 =>
  dIf t20 (xr ((.int .i64 0), (.int .i64 0), (.int .i64 10)) h)
  (vBin Try.prog .add 3 f.2 s.2.2.2.2.2 fun t24 =>
  vIxStr f.1 t24 fun t25 =>
  vConvI .i64 t25 fun t26 =>
  vBin Try.prog .rem 3 t26 (.int .i64 128) fun t29 =>
  vBin Try.prog .mul 3 t29 s.2.2.2.2.1 fun t31 =>
  vBin Try.prog .add 3 s.2.2.2.1 t31 fun t32 =>
  vBin Try.prog .mul 3 s.2.2.2.2.1 (.int .i64 128) fun t34 =>
  vBin Try.prog .geq 3 t26 (.int .i64 128) fun t36 =>
  dIf t36 (vBin Try.prog .add 3 s.2.2.2.2.2 (.int .i64 1) fun t14 =>
  kn f (s.1, s.2.1, s.2.2.1, t32, t34, t14) h)
  (vBin Try.prog .eql 3 t26 (.int .i64 0) fun t38 =>
  gq (boolOf t38) true (fun K =>
  K s.2.2.2.2.2 h)
  (fun t40 h_1 =>
  gq (boolOf t38) true (fun K_1 =>
  vBin Try.prog .gtr 3 t40 (.int .i64 0) fun u =>
  K_1 u h_1)
  (fun t41 h_2 =>
  vPick t38 t41 (.bool false) fun t42 =>
  gq (boolOf t42) false (fun K_2 =>
  K_2 t32 h_2)
  (fun t44 h_3 =>
  gq (boolOf t42) false (fun K_3 =>
  vBin Try.prog .gtr 3 t44 (.int .i64 9007199254740992) fun u_1 =>
  K_3 u_1 h_3)
  (fun t45 h_4 =>
  vPick t42 (.bool true) t45 fun t46 =>
  dIf t46 (xr ((.int .i64 0), (.int .i64 0), (.int .i64 11)) h_4)
  (vBin Try.prog .add 3 f.2 s.2.2.2.2.2 fun t50 =>
  vBin Try.prog .add 3 t50 (.int .i64 1) fun t51 =>
  xr (t32, t51, (.int .i64 0)) h_4)) h_3) h_2) h_1) h)))
  (x0 (s.1, s.2.1, s.2.2.1) h)

def sh60 (a0 a1 : Value) (h : PH) (R : AEnd → PH → Prop) : Prop :=
  lf (b60_3 (fun c h => R (.pan c) h) (fun v h => exq (fun ρ => (ρ 4, ρ 5, ρ 6)) v (fun r h_1 =>
  R (.ret (.tuple #[(.int .i64 0), (.int .i64 0), (.int .i64 11)])) h_1) h) (fun v h => exq (fun ρ => (ρ 4, ρ 5, ρ 6)) v (fun r h_2 =>
  R (.ret (.tuple #[(r 4), (r 5), (r 6)])) h_2) h)) (a0, a1) ((.int .i64 0), (.int .i64 0), (.int .i64 0), (.int .i64 0), (.int .i64 1), (.int .i64 0)) h
def L60 (Kp : List PanicEntry → PH → Prop) : Loops := fun c Q ρ h =>
    sel (Nat.beq (loopId c) 3) (lf (b60_3 Kp (fun v h => exq (fun ρ => (ρ 4, ρ 5, ρ 6)) v (Q (.exit 0)) h) (fun v h => exq (fun ρ => (ρ 4, ρ 5, ρ 6)) v (Q .ret) h)) ((fun ρ => (ρ 0, ρ 1)) ρ) ((fun ρ => (ρ 4, ρ 5, ρ 6, ρ 7, ρ 8, ρ 9)) ρ) h)
    (False)
theorem B60_3 (Kp : List PanicEntry → PH → Prop) (KN : (Value × Value) → (Value × Value × Value × Value × Value × Value) → PH → Prop) (XX : Exit → (Value × Value × Value) → PH → Prop) (ρ : Env) (h : PH) :
    den Try.prog qf (ordOf o60) Kp (L60 Kp) (loopAt c60 0) (lq KN XX (fun ρ => (ρ 0, ρ 1)) (fun ρ => (ρ 4, ρ 5, ρ 6, ρ 7, ρ 8, ρ 9)) (fun ρ => (ρ 4, ρ 5, ρ 6))) ρ h = b60_3 Kp (XX (.exit 0)) (XX .ret) ((fun ρ => (ρ 0, ρ 1)) ρ) KN ((fun ρ => (ρ 4, ρ 5, ρ 6, ρ 7, ρ 8, ρ 9)) ρ) h := by kernel_rfl
theorem l60 (R : AEnd → PH → Prop) : LoopsOK Try.prog qf (ordOf o60) (fun c h => R (.pan c) h) (L60 (fun c h => R (.pan c) h)) c60 :=
  LoopsOK.mk 1 (by kernel_rfl) fun i hi Q ρ h H => match i, hi with
    | 0, _ => loop_gen (F := Value × Value) (S := Value × Value × Value × Value × Value × Value) (X := Value × Value × Value) (φ := (fun ρ => (ρ 0, ρ 1))) (π := (fun ρ => (ρ 4, ρ 5, ρ 6, ρ 7, ρ 8, ρ 9))) (ξ := (fun ρ => (ρ 4, ρ 5, ρ 6))) (B := (fun (XX : Exit → (Value × Value × Value) → PH → Prop) => b60_3 (fun c h => R (.pan c) h) (XX (.exit 0)) (XX .ret))) (B60_3 _) (of_den (by kernel_rfl) H)
    | n + 1, hi => absurd hi (by omega)
theorem e60 (a0 a1 : Value) (h : PH) (R : AEnd → PH → Prop) : denF Try.prog qf (ordOf o60) (L60 (fun c h => R (.pan c) h)) Try.f60.results.toList c60 #[a0, a1] h R = sh60 a0 a1 h R := by kernel_rfl
theorem k60 : codeOK Try.prog qf Try.f60.ntmps (ordOf o60) c60 = true := by kernel_rfl
theorem s60 : Try.f60.body = some c60 := by kernel_rfl
theorem call60 {a0 a1 : Value} {h : PH} {R : AEnd → PH → Prop} (H : sh60 a0 a1 h R) : ACalls Try.prog 60 #[a0, a1] h R :=
  ACalls_of_den mixed Try.func60 s60 (by kernel_rfl) k60 (l60 R) (of_den (e60 a0 a1 h R) H)

/- gavel/gavelref01.Text -/
noncomputable def c61 : Code := bodyOf Try.f61
def o61 : List (Nat × List (Nat × List Nat)) := []
def sh61 (a0 a1 : Value) (h : PH) (R : AEnd → PH → Prop) : Prop :=
  vCall Try.prog 60 #[a0, a1] h (fun t12 h_1 =>
  vExt t12 0 fun t13 =>
  vExt t12 1 fun t14 =>
  vExt t12 2 fun t15 =>
  vBin Try.prog .neq 29 t15 (.int .i64 0) fun t17 =>
  dIf t17 (R (.ret (.tuple #[(.string ⟨#[]⟩), (.int .i64 0), t15])) h_1)
  (vBin Try.prog .gtr 3 t13 (.int .i64 1048576) fun t20 =>
  dIf t20 (R (.ret (.tuple #[(.string ⟨#[]⟩), (.int .i64 0), (.int .i64 4)])) h_1)
  (vLenStr a0 fun t23 =>
  vBin Try.prog .sub 3 t23 t14 fun t25 =>
  vBin Try.prog .gtr 3 t13 t25 fun t26 =>
  dIf t26 (R (.ret (.tuple #[(.string ⟨#[]⟩), (.int .i64 0), (.int .i64 10)])) h_1)
  (vBin Try.prog .add 3 t14 t13 fun t31 =>
  vSlStr (some t14) (some t31) a0 fun t32 =>
  vBin Try.prog .add 3 t14 t13 fun t35 =>
  R (.ret (.tuple #[t32, t35, (.int .i64 0)])) h_1))))
  (fun c h => R (.pan c) h)
theorem l61 (R : AEnd → PH → Prop) : LoopsOK Try.prog qf (ordOf o61) (fun c h => R (.pan c) h) noLoops c61 := noLoops_ok (by kernel_rfl)
theorem e61 (a0 a1 : Value) (h : PH) (R : AEnd → PH → Prop) : denF Try.prog qf (ordOf o61) noLoops Try.f61.results.toList c61 #[a0, a1] h R = sh61 a0 a1 h R := by kernel_rfl
theorem k61 : codeOK Try.prog qf Try.f61.ntmps (ordOf o61) c61 = true := by kernel_rfl
theorem s61 : Try.f61.body = some c61 := by kernel_rfl
theorem call61 {a0 a1 : Value} {h : PH} {R : AEnd → PH → Prop} (H : sh61 a0 a1 h R) : ACalls Try.prog 61 #[a0, a1] h R :=
  ACalls_of_den mixed Try.func61 s61 (by kernel_rfl) k61 (l61 R) (of_den (e61 a0 a1 h R) H)

/- gavel/gavelref06.Refused -/
noncomputable def c62 : Code := bodyOf Try.f62
def o62 : List (Nat × List (Nat × List Nat)) := []
def sh62 (a0 a1 a2 a3 : Value) (h : PH) (R : AEnd → PH → Prop) : Prop :=
  vNew (Value.cells a0) 52 h fun t4 h_1 =>
  vBin Try.prog .lss 3 a1 (.int .i64 0) fun t10 =>
  gq (boolOf t10) false (fun K =>
  K a1 h_1)
  (fun t12 h_2 =>
  gq (boolOf t10) false (fun K_1 =>
  vFA 1 t4 fun u =>
  K_1 u h_2)
  (fun t13 h_3 =>
  gq (boolOf t10) false (fun K_2 =>
  vLoad none t13 h_3 fun u_1 =>
  K_2 u_1 h_3)
  (fun t14 h_4 =>
  gq (boolOf t10) false (fun K_3 =>
  vLenS t14 fun u_2 =>
  K_3 u_2 h_4)
  (fun t15 h_5 =>
  gq (boolOf t10) false (fun K_4 =>
  vBin Try.prog .geq 3 t12 t15 fun u_3 =>
  K_4 u_3 h_5)
  (fun t16 h_6 =>
  vPick t10 (.bool true) t16 fun t17 =>
  dIf t17 (R (.ret (.int .i64 60)) h_6)
  (vBin Try.prog .lss 3 a2 (.int .i64 0) fun t19 =>
  gq (boolOf t19) false (fun K_5 =>
  K_5 a2 h_6)
  (fun t21 h_7 =>
  gq (boolOf t19) false (fun K_6 =>
  vFA 0 t4 fun u_4 =>
  K_6 u_4 h_7)
  (fun t22 h_8 =>
  gq (boolOf t19) false (fun K_7 =>
  vLoad none t22 h_8 fun u_5 =>
  K_7 u_5 h_8)
  (fun t23 h_9 =>
  gq (boolOf t19) false (fun K_8 =>
  vBin Try.prog .gtr 3 t21 t23 fun u_6 =>
  K_8 u_6 h_9)
  (fun t24 h_10 =>
  vPick t19 (.bool true) t24 fun t25 =>
  gq (boolOf t25) false (fun K_9 =>
  K_9 a3 h_10)
  (fun t27 h_11 =>
  gq (boolOf t25) false (fun K_10 =>
  vBin Try.prog .lss 3 t27 (.int .i64 1) fun u_7 =>
  K_10 u_7 h_11)
  (fun t28 h_12 =>
  vPick t25 (.bool true) t28 fun t29 =>
  gq (boolOf t29) false (fun K_11 =>
  K_11 a3 h_12)
  (fun t31 h_13 =>
  gq (boolOf t29) false (fun K_12 =>
  vBin Try.prog .gtr 3 t31 (.int .i64 1099511627776) fun u_8 =>
  K_12 u_8 h_13)
  (fun t32 h_14 =>
  vPick t29 (.bool true) t32 fun t33 =>
  dIf t33 (R (.ret (.int .i64 1)) h_14)
  (R (.ret (.int .i64 0)) h_14)) h_13) h_12) h_11) h_10) h_9) h_8) h_7) h_6)) h_5) h_4) h_3) h_2) h_1
theorem l62 (R : AEnd → PH → Prop) : LoopsOK Try.prog qf (ordOf o62) (fun c h => R (.pan c) h) noLoops c62 := noLoops_ok (by kernel_rfl)
theorem e62 (a0 a1 a2 a3 : Value) (h : PH) (R : AEnd → PH → Prop) : denF Try.prog qf (ordOf o62) noLoops Try.f62.results.toList c62 #[a0, a1, a2, a3] h R = sh62 a0 a1 a2 a3 h R := by kernel_rfl
theorem k62 : codeOK Try.prog qf Try.f62.ntmps (ordOf o62) c62 = true := by kernel_rfl
theorem s62 : Try.f62.body = some c62 := by kernel_rfl
theorem call62 {a0 a1 a2 a3 : Value} {h : PH} {R : AEnd → PH → Prop} (H : sh62 a0 a1 a2 a3 h R) : ACalls Try.prog 62 #[a0, a1, a2, a3] h R :=
  ACalls_of_den mixed Try.func62 s62 (by kernel_rfl) k62 (l62 R) (of_den (e62 a0 a1 a2 a3 h R) H)

/- gavel/gavelref06.Copy -/
noncomputable def c63 : Code := bodyOf Try.f63
def o63 : List (Nat × List (Nat × List Nat)) := []
def sh63 (a0 : Value) (h : PH) (R : AEnd → PH → Prop) : Prop :=
  vNew (Value.cells a0) 52 h fun t1 h_1 =>
  vNew #[.int .i64 0, .slice none 0 0] 52 h_1 fun t2 h_2 =>
  vFA 1 t1 fun t5 =>
  vLoad none t5 h_2 fun t6 =>
  (0 < 12) ∧ (0 < 104) ∧ (Array.size #[(.int .i64 0 : Value), (.int .i64 0 : Value), (.int .i64 0 : Value), (.int .i64 0 : Value), (.int .i64 0 : Value), (.int .i64 0 : Value), (.int .i64 0 : Value), (.int .i64 0 : Value), (.int .i64 0 : Value), (.int .i64 0 : Value), (.int .i64 0 : Value), (.string ⟨#[]⟩ : Value)] = 12) ∧ vAppend false 83 12 104 (.slice none 0 0) t6 h_2 fun t7 h_3 =>
  vFA 0 t1 fun t8 =>
  vLoad none t8 h_3 fun t9 =>
  vBuild [(0, 1), (1, 1)] #[.int .i64 0, .slice none 0 0] [(0, t9), (1, t7)] fun t11 =>
  vStore 2 t2 t11 h_3 fun h_4 =>
  vLoad (some 2) t2 h_4 fun rv =>
  R (.ret rv) h_4
theorem l63 (R : AEnd → PH → Prop) : LoopsOK Try.prog qf (ordOf o63) (fun c h => R (.pan c) h) noLoops c63 := noLoops_ok (by kernel_rfl)
theorem e63 (a0 : Value) (h : PH) (R : AEnd → PH → Prop) : denF Try.prog qf (ordOf o63) noLoops Try.f63.results.toList c63 #[a0] h R = sh63 a0 h R := by kernel_rfl
theorem k63 : codeOK Try.prog qf Try.f63.ntmps (ordOf o63) c63 = true := by kernel_rfl
theorem s63 : Try.f63.body = some c63 := by kernel_rfl
theorem call63 {a0 : Value} {h : PH} {R : AEnd → PH → Prop} (H : sh63 a0 h R) : ACalls Try.prog 63 #[a0] h R :=
  ACalls_of_den mixed Try.func63 s63 (by kernel_rfl) k63 (l63 R) (of_den (e63 a0 h R) H)

end Go.Pw

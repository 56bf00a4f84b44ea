/- The functions of the program, told as predicate transformers: printed by wip/tools/shprint.py; each is what the model makes of the function, by the kernel's reckoning. -/
import Derived.Test.YtbidgpchoamdfaaSh
set_option linter.unusedVariables false
set_option maxRecDepth 100000
namespace Go.Pw
open Go Go.Proofs
/- gavel/ledger.amount -/
noncomputable def c64 : Code := bodyOf Try.f64
def o64 : List (Nat × List (Nat × List Nat)) := []
def sh64 (a0 : Value) (h : PH) (R : AEnd → PH → Prop) : Prop :=
  vBin Try.prog .geq 3 a0 (.int .i64 1) fun t4 =>
  gq (boolOf t4) true (fun K =>
  K a0 h)
  (fun t6 h_1 =>
  gq (boolOf t4) true (fun K_1 =>
  vBin Try.prog .leq 3 t6 (.int .i64 1099511627776) fun u =>
  K_1 u h_1)
  (fun t7 h_2 =>
  vPick t4 t7 (.bool false) fun t8 =>
  R (.ret t8) h_2) h_1) h
theorem l64 (R : AEnd → PH → Prop) : LoopsOK Try.prog qf (ordOf o64) (fun c h => R (.pan c) h) noLoops c64 := noLoops_ok (by kernel_rfl)
theorem e64 (a0 : Value) (h : PH) (R : AEnd → PH → Prop) : denF Try.prog qf (ordOf o64) noLoops Try.f64.results.toList c64 #[a0] h R = sh64 a0 h R := by kernel_rfl
theorem k64 : codeOK Try.prog qf Try.f64.ntmps (ordOf o64) c64 = true := by kernel_rfl
theorem s64 : Try.f64.body = some c64 := by kernel_rfl
theorem call64 {a0 : Value} {h : PH} {R : AEnd → PH → Prop} (H : sh64 a0 h R) : ACalls Try.prog 64 #[a0] h R :=
  ACalls_of_den mixed Try.func64 s64 (by kernel_rfl) k64 (l64 R) (of_den (e64 a0 h R) H)

/- gavel/wire.caught -/
noncomputable def c66 : Code := bodyOf Try.f66
def o66 : List (Nat × List (Nat × List Nat)) := []
def sh66 (a0 : Value) (h : PH) (R : AEnd → PH → Prop) : Prop :=
  vAssert Try.prog 20 113 a0 fun t7 =>
  vExt t7 0 fun t8 =>
  vExt t7 1 fun t9 =>
  dIf t9 (R (.ret t8) h)
  (R (.ret (.int .i64 11)) h)
theorem l66 (R : AEnd → PH → Prop) : LoopsOK Try.prog qf (ordOf o66) (fun c h => R (.pan c) h) noLoops c66 := noLoops_ok (by kernel_rfl)
theorem e66 (a0 : Value) (h : PH) (R : AEnd → PH → Prop) : denF Try.prog qf (ordOf o66) noLoops Try.f66.results.toList c66 #[a0] h R = sh66 a0 h R := by kernel_rfl
theorem k66 : codeOK Try.prog qf Try.f66.ntmps (ordOf o66) c66 = true := by kernel_rfl
theorem s66 : Try.f66.body = some c66 := by kernel_rfl
theorem call66 {a0 : Value} {h : PH} {R : AEnd → PH → Prop} (H : sh66 a0 h R) : ACalls Try.prog 66 #[a0] h R :=
  ACalls_of_den mixed Try.func66 s66 (by kernel_rfl) k66 (l66 R) (of_den (e66 a0 h R) H)

/- (*gavel/wire.reader).number -/
noncomputable def c67 : Code := bodyOf Try.f67
def o67 : List (Nat × List (Nat × List Nat)) := [(4, [(0, []), (1, []), (2, []), (3, []), (4, []), (5, []), (6, []), (7, []), (8, []), (9, [])]), (6, [(0, []), (1, []), (2, []), (3, []), (4, []), (5, []), (6, []), (7, []), (8, []), (9, []), (10, [])])]
def b67_4 (Kp : List PanicEntry → PH → Prop) (xr : Value → PH → Prop) (f : Value) (kn : (Value) → (Value × Value × Value) → PH → Prop) (s : Value × Value × Value) (h : PH) : Prop :=
  vNil f fun t9 =>
  vFA 1 t9 fun t10 =>
  vLoad none t10 h fun t11 =>
  vNil f fun t13 =>
  vFA 0 t13 fun t14 =>
  vLoad none t14 h fun t15 =>
  vLenStr t15 fun t16 =>
  vBin Try.prog .geq 3 t11 t16 fun t17 =>
  dIf t17 (vIface 113 (.int .i64 10) fun t18 =>
  vPanic t18 h Kp)
  (vNil f fun t20 =>
  vFA 0 t20 fun t21 =>
  vLoad none t21 h fun t22 =>
  vNil f fun t24 =>
  vFA 1 t24 fun t25 =>
  vLoad none t25 h fun t26 =>
  vIxStr t22 t26 fun t27 =>
  vConvI .i64 t27 fun t28 =>
  vNil f fun t30 =>
  vFA 1 t30 fun t31 =>
  vLoad none t31 h fun t32 =>
  vBin Try.prog .add 3 t32 (.int .i64 1) fun t33 =>
  vNil f fun t34 =>
  vFA 1 t34 fun t35 =>
  vStore 1 t35 t33 h fun h_1 =>
  vBin Try.prog .and 3 t28 (.int .i64 127) fun t38 =>
  vBin Try.prog .mul 3 (.int .i64 7) s.2.2 fun t40 =>
  vBin Try.prog .shl 3 t38 t40 fun t41 =>
  vBin Try.prog .or 3 s.2.1 t41 fun t42 =>
  vBin Try.prog .geq 3 t28 (.int .i64 128) fun t44 =>
  dIf t44 (vBin Try.prog .eql 3 s.2.2 (.int .i64 7) fun t46 =>
  dIf t46 (vIface 113 (.int .i64 11) fun t47 =>
  vPanic t47 h_1 Kp)
  (vBin Try.prog .add 3 s.2.2 (.int .i64 1) fun t7 =>
  kn f (s.1, t42, t7) h_1))
  (vBin Try.prog .eql 3 t28 (.int .i64 0) fun t49 =>
  gq (boolOf t49) true (fun K =>
  K s.2.2 h_1)
  (fun t51 h_2 =>
  gq (boolOf t49) true (fun K_1 =>
  vBin Try.prog .gtr 3 t51 (.int .i64 0) fun u =>
  K_1 u h_2)
  (fun t52 h_3 =>
  vPick t49 t52 (.bool false) fun t53 =>
  gq (boolOf t53) false (fun K_2 =>
  K_2 t42 h_3)
  (fun t55 h_4 =>
  gq (boolOf t53) false (fun K_3 =>
  vBin Try.prog .gtr 3 t55 (.int .i64 9007199254740992) fun u_1 =>
  K_3 u_1 h_4)
  (fun t56 h_5 =>
  vPick t53 (.bool true) t56 fun t57 =>
  dIf t57 (vIface 113 (.int .i64 11) fun t58 =>
  vPanic t58 h_5 Kp)
  (xr t42 h_5)) h_4) h_3) h_2) h_1))

def sh67 (a0 : Value) (h : PH) (R : AEnd → PH → Prop) : Prop :=
  lf (b67_4 (fun c h => R (.pan c) h) (fun v h => exq (fun ρ => ρ 2) v (fun r h_1 =>
  R (.ret (r 2)) h_1) h)) a0 ((.int .i64 0), (.int .i64 0), (.int .i64 0)) h
def L67 (Kp : List PanicEntry → PH → Prop) : Loops := fun c Q ρ h =>
    sel (Nat.beq (loopId c) 4) (lf (b67_4 Kp  (fun v h => exq (fun ρ => ρ 2) v (Q .ret) h)) ((fun ρ => ρ 0) ρ) ((fun ρ => (ρ 2, ρ 3, ρ 4)) ρ) h)
    (False)
theorem B67_4 (Kp : List PanicEntry → PH → Prop) (KN : (Value) → (Value × Value × Value) → PH → Prop) (XX : Exit → (Value) → PH → Prop) (ρ : Env) (h : PH) :
    den Try.prog qf (ordOf o67) Kp (L67 Kp) (loopAt c67 0) (lq KN XX (fun ρ => ρ 0) (fun ρ => (ρ 2, ρ 3, ρ 4)) (fun ρ => ρ 2)) ρ h = b67_4 Kp (XX .ret) ((fun ρ => ρ 0) ρ) KN ((fun ρ => (ρ 2, ρ 3, ρ 4)) ρ) h := by kernel_rfl
theorem l67 (R : AEnd → PH → Prop) : LoopsOK Try.prog qf (ordOf o67) (fun c h => R (.pan c) h) (L67 (fun c h => R (.pan c) h)) c67 :=
  LoopsOK.mk 1 (by kernel_rfl) fun i hi Q ρ h H => match i, hi with
    | 0, _ => loop_gen (F := Value) (S := Value × Value × Value) (X := Value) (φ := (fun ρ => ρ 0)) (π := (fun ρ => (ρ 2, ρ 3, ρ 4))) (ξ := (fun ρ => ρ 2)) (B := (fun (XX : Exit → (Value) → PH → Prop) => b67_4 (fun c h => R (.pan c) h) (XX .ret))) (B67_4 _) (of_den (by kernel_rfl) H)
    | n + 1, hi => absurd hi (by omega)
theorem e67 (a0 : Value) (h : PH) (R : AEnd → PH → Prop) : denF Try.prog qf (ordOf o67) (L67 (fun c h => R (.pan c) h)) Try.f67.results.toList c67 #[a0] h R = sh67 a0 h R := by kernel_rfl
theorem k67 : codeOK Try.prog qf Try.f67.ntmps (ordOf o67) c67 = true := by kernel_rfl
theorem s67 : Try.f67.body = some c67 := by kernel_rfl
theorem call67 {a0 : Value} {h : PH} {R : AEnd → PH → Prop} (H : sh67 a0 h R) : ACalls Try.prog 67 #[a0] h R :=
  ACalls_of_den mixed Try.func67 s67 (by kernel_rfl) k67 (l67 R) (of_den (e67 a0 h R) H)

/- (*gavel/wire.reader).text -/
noncomputable def c69 : Code := bodyOf Try.f69
def o69 : List (Nat × List (Nat × List Nat)) := []
def sh69 (a0 : Value) (h : PH) (R : AEnd → PH → Prop) : Prop :=
  vCall Try.prog 67 #[a0] h (fun t5 h_1 =>
  vBin Try.prog .gtr 3 t5 (.int .i64 1048576) fun t7 =>
  dIf t7 (vIface 113 (.int .i64 4) fun t8 =>
  vPanic t8 h_1 (fun c h => R (.pan c) h))
  (vCall Try.prog 70 #[a0, t5] h_1 (fun t11 h_2 =>
  R (.ret t11) h_2)
  (fun c h => R (.pan c) h)))
  (fun c h => R (.pan c) h)
theorem l69 (R : AEnd → PH → Prop) : LoopsOK Try.prog qf (ordOf o69) (fun c h => R (.pan c) h) noLoops c69 := noLoops_ok (by kernel_rfl)
theorem e69 (a0 : Value) (h : PH) (R : AEnd → PH → Prop) : denF Try.prog qf (ordOf o69) noLoops Try.f69.results.toList c69 #[a0] h R = sh69 a0 h R := by kernel_rfl
theorem k69 : codeOK Try.prog qf Try.f69.ntmps (ordOf o69) c69 = true := by kernel_rfl
theorem s69 : Try.f69.body = some c69 := by kernel_rfl
theorem call69 {a0 : Value} {h : PH} {R : AEnd → PH → Prop} (H : sh69 a0 h R) : ACalls Try.prog 69 #[a0] h R :=
  ACalls_of_den mixed Try.func69 s69 (by kernel_rfl) k69 (l69 R) (of_den (e69 a0 h R) H)

/- (*gavel/wire.reader).bytes -/
noncomputable def c70 : Code := bodyOf Try.f70
def o70 : List (Nat × List (Nat × List Nat)) := [(1, [(0, []), (1, []), (2, []), (3, []), (4, []), (5, []), (6, []), (7, []), (8, []), (9, []), (10, []), (11, [])]), (4, [(0, []), (1, []), (2, []), (3, []), (4, []), (5, []), (6, []), (7, []), (8, []), (9, []), (10, []), (11, []), (12, []), (13, []), (14, []), (15, [])])]
def sh70 (a0 a1 : Value) (h : PH) (R : AEnd → PH → Prop) : Prop :=
  vNil a0 fun t7 =>
  vFA 0 t7 fun t8 =>
  vLoad none t8 h fun t9 =>
  vLenStr t9 fun t10 =>
  vNil a0 fun t12 =>
  vFA 1 t12 fun t13 =>
  vLoad none t13 h fun t14 =>
  vBin Try.prog .sub 3 t10 t14 fun t15 =>
  vBin Try.prog .gtr 3 a1 t15 fun t16 =>
  dIf t16 (vIface 113 (.int .i64 10) fun t17 =>
  vPanic t17 h (fun c h => R (.pan c) h))
  (vNil a0 fun t19 =>
  vFA 1 t19 fun t20 =>
  vLoad none t20 h fun t21 =>
  vBin Try.prog .add 3 t21 a1 fun t23 =>
  vNil a0 fun t24 =>
  vFA 1 t24 fun t25 =>
  vStore 1 t25 t23 h fun h_1 =>
  vNil a0 fun t27 =>
  vFA 0 t27 fun t28 =>
  vLoad none t28 h_1 fun t29 =>
  vNil a0 fun t31 =>
  vFA 1 t31 fun t32 =>
  vLoad none t32 h_1 fun t33 =>
  vBin Try.prog .sub 3 t33 a1 fun t35 =>
  vNil a0 fun t37 =>
  vFA 1 t37 fun t38 =>
  vLoad none t38 h_1 fun t39 =>
  vSlStr (some t35) (some t39) t29 fun t40 =>
  R (.ret t40) h_1)
theorem l70 (R : AEnd → PH → Prop) : LoopsOK Try.prog qf (ordOf o70) (fun c h => R (.pan c) h) noLoops c70 := noLoops_ok (by kernel_rfl)
theorem e70 (a0 a1 : Value) (h : PH) (R : AEnd → PH → Prop) : denF Try.prog qf (ordOf o70) noLoops Try.f70.results.toList c70 #[a0, a1] h R = sh70 a0 a1 h R := by kernel_rfl
theorem k70 : codeOK Try.prog qf Try.f70.ntmps (ordOf o70) c70 = true := by kernel_rfl
theorem s70 : Try.f70.body = some c70 := by kernel_rfl
theorem call70 {a0 a1 : Value} {h : PH} {R : AEnd → PH → Prop} (H : sh70 a0 a1 h R) : ACalls Try.prog 70 #[a0, a1] h R :=
  ACalls_of_den mixed Try.func70 s70 (by kernel_rfl) k70 (l70 R) (of_den (e70 a0 a1 h R) H)

end Go.Pw

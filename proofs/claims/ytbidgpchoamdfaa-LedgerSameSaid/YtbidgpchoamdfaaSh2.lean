/- The functions of the program, told as predicate transformers: printed by wip/tools/shprint.py; each is what the model makes of the function, by the kernel's reckoning. -/
import Derived.Test.YtbidgpchoamdfaaSh
set_option linter.unusedVariables false
set_option maxRecDepth 100000
namespace Go.Pw
open Go Go.Proofs
/- gavel/gavelref06.Records -/
noncomputable def c22 : Code := bodyOf Try.f22
def o22 : List (Nat × List (Nat × List Nat)) := [(6, [(0, []), (1, []), (3, []), (4, []), (5, []), (6, []), (7, []), (8, []), (9, []), (12, []), (13, []), (14, []), (2, [5, 8, 14]), (10, [14]), (11, []), (15, []), (16, []), (17, [])]), (10, [(0, []), (1, []), (2, []), (3, []), (4, []), (5, []), (6, []), (7, []), (8, []), (9, []), (10, []), (11, []), (12, [])]), (15, [(0, []), (1, []), (3, []), (4, []), (5, []), (2, [5]), (6, []), (7, []), (8, []), (9, []), (10, []), (11, [])])]
def b22_8 (Kp : List PanicEntry → PH → Prop) (x2 : (Value × Value × Value × Value × Value) → PH → Prop) (f : Value × Value × Value × Value) (kn : (Value × Value × Value × Value) → (Value × Value) → PH → Prop) (s : Value × Value) (h : PH) : Prop :=
  vFA 0 f.1 fun t39 =>
  vLoad none t39 h fun t40 =>
  vBin Try.prog .leq 3 s.2 t40 fun t41 =>
  dIf t41 (vFA 0 f.2.2.2 fun t46 =>
  vIxA 5 1 t46 s.2 fun t47 =>
  vLoad none t47 h fun t48 =>
  vFA 5 f.2.2.2 fun t50 =>
  vIxA 5 1 t50 s.2 fun t51 =>
  vLoad none t51 h fun t52 =>
  vBin Try.prog .add 3 t48 t52 fun t53 =>
  vCall Try.prog 52 #[t53] h (fun t54 h_1 =>
  vBin Try.prog .add 9 s.1 t54 fun t55 =>
  vBin Try.prog .add 3 s.2 (.int .i64 1) fun t43 =>
  kn f (t55, t43) h_1)
  Kp)
  (x2 (f.1, f.2.1, f.2.2.1, f.2.2.2, s.1) h)

def b22_12 (Kp : List PanicEntry → PH → Prop) (x4 : (Value × Value × Value × Value × Value) → PH → Prop) (f : Value × Value × Value × Value) (kn : (Value × Value × Value × Value) → (Value × Value) → PH → Prop) (s : Value × Value) (h : PH) : Prop :=
  vFA 0 f.1 fun t57 =>
  vLoad none t57 h fun t58 =>
  vBin Try.prog .leq 3 s.2 t58 fun t59 =>
  dIf t59 (vFA 5 f.2.2.2 fun t64 =>
  vIxA 5 1 t64 s.2 fun t65 =>
  vLoad none t65 h fun t66 =>
  vCall Try.prog 52 #[t66] h (fun t67 h_1 =>
  vBin Try.prog .add 9 s.1 t67 fun t68 =>
  vBin Try.prog .add 3 s.2 (.int .i64 1) fun t61 =>
  kn f (t68, t61) h_1)
  Kp)
  (x4 (f.1, f.2.1, f.2.2.1, f.2.2.2, s.1) h)

def b22_3 (Kp : List PanicEntry → PH → Prop) (x0 : Value → PH → Prop) (f : Value) (kn : (Value) → (Value × Value) → PH → Prop) (s : Value × Value) (h : PH) : Prop :=
  vFA 1 f fun t10 =>
  vLoad none t10 h fun t11 =>
  vLenS t11 fun t12 =>
  vBin Try.prog .lss 3 s.2 t12 fun t13 =>
  dIf t13 (vFA 1 f fun t16 =>
  vLoad none t16 h fun t17 =>
  vIxS 12 t17 s.2 fun t19 =>
  vLoad (some 12) t19 h fun t20 =>
  vNew #[.int .i64 0, .int .i64 0, .int .i64 0, .int .i64 0, .int .i64 0, .int .i64 0, .int .i64 0, .int .i64 0, .int .i64 0, .int .i64 0, .int .i64 0, .string ⟨#[]⟩] 83 h fun t5 h_1 =>
  vStore 12 t5 t20 h_1 fun h_2 =>
  vFA 10 t5 fun t21 =>
  vLoad none t21 h_2 fun t22 =>
  vFA 0 t5 fun t24 =>
  vIxA 5 1 t24 (.int .i64 0) fun t25 =>
  vLoad none t25 h_2 fun t26 =>
  vFA 5 t5 fun t27 =>
  vIxA 5 1 t27 (.int .i64 0) fun t28 =>
  vLoad none t28 h_2 fun t29 =>
  vBin Try.prog .add 3 t26 t29 fun t30 =>
  vFA 5 t5 fun t33 =>
  vIxA 5 1 t33 (.int .i64 0) fun t34 =>
  vLoad none t34 h_2 fun t35 =>
  vCall Try.prog 52 #[t22] h_2 (fun t23 h_3 =>
  (vLoad none t25 h_3 fun u =>
  t26 = u) ∧
  (vLoad none t28 h_3 fun u_1 =>
  t29 = u_1) ∧
  (vLoad none t34 h_3 fun u_2 =>
  t35 = u_2) ∧
  vCall Try.prog 52 #[t30] h_3 (fun t31 h_4 =>
  (vLoad none t34 h_4 fun u_3 =>
  t35 = u_3) ∧
  vBin Try.prog .add 9 t23 t31 fun t32 =>
  vCall Try.prog 52 #[t35] h_4 (fun t36 h_5 =>
  vBin Try.prog .add 9 t32 t36 fun t37 =>
  lf (b22_8 Kp (fun v h => exq (fun ρ => (ρ 1, ρ 3, ρ 4, ρ 5, ρ 6)) v (fun r h_6 =>
  lf (b22_12 Kp (fun v h => exq (fun ρ => (ρ 1, ρ 3, ρ 4, ρ 5, ρ 6)) v (fun r_1 h_7 =>
  vFA 11 (r_1 5) fun t73 =>
  vLoad none t73 h_7 fun t74 =>
  vCall Try.prog 42 #[(r_1 4)] h_7 (fun t71 h_8 =>
  (vLoad none t73 h_8 fun u_4 =>
  t74 = u_4) ∧
  vCall Try.prog 53 #[t74] h_8 (fun t75 h_9 =>
  vBin Try.prog .add 9 (r_1 6) t75 fun t76 =>
  vBuild [(0, 1), (1, 1)] #[.string ⟨#[]⟩, .string ⟨#[]⟩] [(0, t71), (1, t76)] fun t77 =>
  (1 * 2 ≤ 2 ^ 24) ∧ vBuildS 32 2 1 #[.string ⟨#[]⟩, .string ⟨#[]⟩] [(0, t77)] h_9 fun t78 h_10 =>
  (0 < 2) ∧ (0 < 32) ∧ (Array.size #[(.string ⟨#[]⟩ : Value), (.string ⟨#[]⟩ : Value)] = 2) ∧ vAppend false 32 2 32 (r_1 3) t78 h_10 fun t79 h_11 =>
  vBin Try.prog .add 3 (r_1 4) (.int .i64 1) fun t15 =>
  kn (r_1 1) (t79, t15) h_11)
  Kp)
  Kp) h)) ((r 1), (r 3), (r 4), (r 5)) ((r 6), (.int .i64 1)) h_6) h)) (f, s.1, s.2, t5) (t37, (.int .i64 1)) h_5)
  Kp)
  Kp)
  Kp)
  (x0 s.1 h)

def sh22 (a0 : Value) (h : PH) (R : AEnd → PH → Prop) : Prop :=
  vNew (Value.cells a0) 52 h fun t1 h_1 =>
  lf (b22_3 (fun c h => R (.pan c) h) (fun v h => exq (fun ρ => ρ 3) v (fun r h_2 =>
  R (.ret (r 3)) h_2) h)) t1 ((.slice none 0 0), (.int .i64 0)) h_1
def L22 (Kp : List PanicEntry → PH → Prop) : Loops := fun c Q ρ h =>
    sel (Nat.beq (loopId c) 3) (lf (b22_3 Kp (fun v h => exq (fun ρ => ρ 3) v (Q (.exit 0)) h)) ((fun ρ => ρ 1) ρ) ((fun ρ => (ρ 3, ρ 4)) ρ) h)
    (sel (Nat.beq (loopId c) 8) (lf (b22_8 Kp (fun v h => exq (fun ρ => (ρ 1, ρ 3, ρ 4, ρ 5, ρ 6)) v (Q (.exit 2)) h)) ((fun ρ => (ρ 1, ρ 3, ρ 4, ρ 5)) ρ) ((fun ρ => (ρ 6, ρ 7)) ρ) h)
    (sel (Nat.beq (loopId c) 12) (lf (b22_12 Kp (fun v h => exq (fun ρ => (ρ 1, ρ 3, ρ 4, ρ 5, ρ 6)) v (Q (.exit 4)) h)) ((fun ρ => (ρ 1, ρ 3, ρ 4, ρ 5)) ρ) ((fun ρ => (ρ 6, ρ 8)) ρ) h)
    (False)))
theorem B22_3 (Kp : List PanicEntry → PH → Prop) (KN : (Value) → (Value × Value) → PH → Prop) (XX : Exit → (Value) → PH → Prop) (ρ : Env) (h : PH) :
    den Try.prog qf (ordOf o22) Kp (L22 Kp) (loopAt c22 0) (lq KN XX (fun ρ => ρ 1) (fun ρ => (ρ 3, ρ 4)) (fun ρ => ρ 3)) ρ h = b22_3 Kp (XX (.exit 0)) ((fun ρ => ρ 1) ρ) KN ((fun ρ => (ρ 3, ρ 4)) ρ) h := by kernel_rfl
theorem B22_8 (Kp : List PanicEntry → PH → Prop) (KN : (Value × Value × Value × Value) → (Value × Value) → PH → Prop) (XX : Exit → (Value × Value × Value × Value × Value) → PH → Prop) (ρ : Env) (h : PH) :
    den Try.prog qf (ordOf o22) Kp (L22 Kp) (loopAt c22 1) (lq KN XX (fun ρ => (ρ 1, ρ 3, ρ 4, ρ 5)) (fun ρ => (ρ 6, ρ 7)) (fun ρ => (ρ 1, ρ 3, ρ 4, ρ 5, ρ 6))) ρ h = b22_8 Kp (XX (.exit 2)) ((fun ρ => (ρ 1, ρ 3, ρ 4, ρ 5)) ρ) KN ((fun ρ => (ρ 6, ρ 7)) ρ) h := by kernel_rfl
theorem B22_12 (Kp : List PanicEntry → PH → Prop) (KN : (Value × Value × Value × Value) → (Value × Value) → PH → Prop) (XX : Exit → (Value × Value × Value × Value × Value) → PH → Prop) (ρ : Env) (h : PH) :
    den Try.prog qf (ordOf o22) Kp (L22 Kp) (loopAt c22 2) (lq KN XX (fun ρ => (ρ 1, ρ 3, ρ 4, ρ 5)) (fun ρ => (ρ 6, ρ 8)) (fun ρ => (ρ 1, ρ 3, ρ 4, ρ 5, ρ 6))) ρ h = b22_12 Kp (XX (.exit 4)) ((fun ρ => (ρ 1, ρ 3, ρ 4, ρ 5)) ρ) KN ((fun ρ => (ρ 6, ρ 8)) ρ) h := by kernel_rfl
theorem l22 (R : AEnd → PH → Prop) : LoopsOK Try.prog qf (ordOf o22) (fun c h => R (.pan c) h) (L22 (fun c h => R (.pan c) h)) c22 :=
  LoopsOK.mk 3 (by kernel_rfl) fun i hi Q ρ h H => match i, hi with
    | 0, _ => loop_gen (F := Value) (S := Value × Value) (X := Value) (φ := (fun ρ => ρ 1)) (π := (fun ρ => (ρ 3, ρ 4))) (ξ := (fun ρ => ρ 3)) (B := (fun (XX : Exit → (Value) → PH → Prop) => b22_3 (fun c h => R (.pan c) h) (XX (.exit 0)))) (B22_3 _) (of_den (by kernel_rfl) H)
    | 1, _ => loop_gen (F := Value × Value × Value × Value) (S := Value × Value) (X := Value × Value × Value × Value × Value) (φ := (fun ρ => (ρ 1, ρ 3, ρ 4, ρ 5))) (π := (fun ρ => (ρ 6, ρ 7))) (ξ := (fun ρ => (ρ 1, ρ 3, ρ 4, ρ 5, ρ 6))) (B := (fun (XX : Exit → (Value × Value × Value × Value × Value) → PH → Prop) => b22_8 (fun c h => R (.pan c) h) (XX (.exit 2)))) (B22_8 _) (of_den (by kernel_rfl) H)
    | 2, _ => loop_gen (F := Value × Value × Value × Value) (S := Value × Value) (X := Value × Value × Value × Value × Value) (φ := (fun ρ => (ρ 1, ρ 3, ρ 4, ρ 5))) (π := (fun ρ => (ρ 6, ρ 8))) (ξ := (fun ρ => (ρ 1, ρ 3, ρ 4, ρ 5, ρ 6))) (B := (fun (XX : Exit → (Value × Value × Value × Value × Value) → PH → Prop) => b22_12 (fun c h => R (.pan c) h) (XX (.exit 4)))) (B22_12 _) (of_den (by kernel_rfl) H)
    | n + 3, hi => absurd hi (by omega)
theorem e22 (a0 : Value) (h : PH) (R : AEnd → PH → Prop) : denF Try.prog qf (ordOf o22) (L22 (fun c h => R (.pan c) h)) Try.f22.results.toList c22 #[a0] h R = sh22 a0 h R := by kernel_rfl
theorem k22 : codeOK Try.prog qf Try.f22.ntmps (ordOf o22) c22 = true := by kernel_rfl
theorem s22 : Try.f22.body = some c22 := by kernel_rfl
theorem call22 {a0 : Value} {h : PH} {R : AEnd → PH → Prop} (H : sh22 a0 h R) : ACalls Try.prog 22 #[a0] h R :=
  ACalls_of_den mixed Try.func22 s22 (by kernel_rfl) k22 (l22 R) (of_den (e22 a0 h R) H)

/- gavel/ledger.New -/
noncomputable def c23 : Code := bodyOf Try.f23
def o23 : List (Nat × List (Nat × List Nat)) := []
def sh23 (a0 a1 : Value) (h : PH) (R : AEnd → PH → Prop) : Prop :=
  vBin Try.prog .lss 3 a0 (.int .i64 1) fun t7 =>
  gq (boolOf t7) false (fun K =>
  K a0 h)
  (fun t9 h_1 =>
  gq (boolOf t7) false (fun K_1 =>
  vBin Try.prog .gtr 3 t9 (.int .i64 16) fun u =>
  K_1 u h_1)
  (fun t10 h_2 =>
  vPick t7 (.bool true) t10 fun t11 =>
  gq (boolOf t11) false (fun K_2 =>
  K_2 a1 h_2)
  (fun t13 h_3 =>
  gq (boolOf t11) false (fun K_3 =>
  vBin Try.prog .lss 3 t13 (.int .i64 1) fun u_1 =>
  K_3 u_1 h_3)
  (fun t14 h_4 =>
  vPick t11 (.bool true) t14 fun t15 =>
  gq (boolOf t15) false (fun K_4 =>
  K_4 a1 h_4)
  (fun t17 h_5 =>
  gq (boolOf t15) false (fun K_5 =>
  vBin Try.prog .gtr 3 t17 (.int .i64 4) fun u_2 =>
  K_5 u_2 h_5)
  (fun t18 h_6 =>
  vPick t15 (.bool true) t18 fun t19 =>
  dIf t19 (R (.ret (.tuple #[(.pointer none), (.int .i64 1)])) h_6)
  (vMakeS 66 12 104 #[.int .i64 0, .int .i64 0, .int .i64 0, .int .i64 0, .int .i64 0, .int .i64 0, .int .i64 0, .int .i64 0, .int .i64 0, .int .i64 0, .int .i64 0, .string ⟨#[]⟩] a0 a0 h_6 fun t22 h_7 =>
  vBuild [(0, 1), (1, 1)] #[.int .i64 0, .slice none 0 0] [(0, a1), (1, t22)] fun t23 =>
  vNew (Value.cells t23) 64 h_7 fun t24 h_8 =>
  R (.ret (.tuple #[t24, (.int .i64 0)])) h_8)) h_5) h_4) h_3) h_2) h_1) h
theorem l23 (R : AEnd → PH → Prop) : LoopsOK Try.prog qf (ordOf o23) (fun c h => R (.pan c) h) noLoops c23 := noLoops_ok (by kernel_rfl)
theorem e23 (a0 a1 : Value) (h : PH) (R : AEnd → PH → Prop) : denF Try.prog qf (ordOf o23) noLoops Try.f23.results.toList c23 #[a0, a1] h R = sh23 a0 a1 h R := by kernel_rfl
theorem k23 : codeOK Try.prog qf Try.f23.ntmps (ordOf o23) c23 = true := by kernel_rfl
theorem s23 : Try.f23.body = some c23 := by kernel_rfl
theorem call23 {a0 a1 : Value} {h : PH} {R : AEnd → PH → Prop} (H : sh23 a0 a1 h R) : ACalls Try.prog 23 #[a0, a1] h R :=
  ACalls_of_den mixed Try.func23 s23 (by kernel_rfl) k23 (l23 R) (of_den (e23 a0 a1 h R) H)

/- gavel/wire.PutInt -/
noncomputable def c24 : Code := bodyOf Try.f24
def o24 : List (Nat × List (Nat × List Nat)) := []
def sh24 (a0 : Value) (h : PH) (R : AEnd → PH → Prop) : Prop :=
  vBin Try.prog .lss 3 a0 (.int .i64 0) fun t6 =>
  gq (boolOf t6) false (fun K =>
  K a0 h)
  (fun t8 h_1 =>
  gq (boolOf t6) false (fun K_1 =>
  vBin Try.prog .gtr 3 t8 (.int .i64 9007199254740992) fun u =>
  K_1 u h_1)
  (fun t9 h_2 =>
  vPick t6 (.bool true) t9 fun t10 =>
  dIf t10 (R (.ret (.tuple #[(.string ⟨#[]⟩), (.int .i64 1)])) h_2)
  (vNew #[.slice none 0 0] 95 h_2 fun t4 h_3 =>
  vCall Try.prog 54 #[t4, a0] h_3 (fun t12 h_4 =>
  vNil t12 fun t13 =>
  vFA 0 t13 fun t14 =>
  vLoad none t14 h_4 fun t15 =>
  vConvBS t15 h_4 fun t16 =>
  R (.ret (.tuple #[t16, (.int .i64 0)])) h_4)
  (fun c h => R (.pan c) h))) h_1) h
theorem l24 (R : AEnd → PH → Prop) : LoopsOK Try.prog qf (ordOf o24) (fun c h => R (.pan c) h) noLoops c24 := noLoops_ok (by kernel_rfl)
theorem e24 (a0 : Value) (h : PH) (R : AEnd → PH → Prop) : denF Try.prog qf (ordOf o24) noLoops Try.f24.results.toList c24 #[a0] h R = sh24 a0 h R := by kernel_rfl
theorem k24 : codeOK Try.prog qf Try.f24.ntmps (ordOf o24) c24 = true := by kernel_rfl
theorem s24 : Try.f24.body = some c24 := by kernel_rfl
theorem call24 {a0 : Value} {h : PH} {R : AEnd → PH → Prop} (H : sh24 a0 h R) : ACalls Try.prog 24 #[a0] h R :=
  ACalls_of_den mixed Try.func24 s24 (by kernel_rfl) k24 (l24 R) (of_den (e24 a0 h R) H)

/- gavel/wire.PutText -/
noncomputable def c25 : Code := bodyOf Try.f25
def o25 : List (Nat × List (Nat × List Nat)) := []
def sh25 (a0 : Value) (h : PH) (R : AEnd → PH → Prop) : Prop :=
  vLenStr a0 fun t6 =>
  vBin Try.prog .gtr 3 t6 (.int .i64 1048576) fun t7 =>
  dIf t7 (R (.ret (.tuple #[(.string ⟨#[]⟩), (.int .i64 4)])) h)
  (vNew #[.slice none 0 0] 95 h fun t4 h_1 =>
  vCall Try.prog 55 #[t4, a0] h_1 (fun t9 h_2 =>
  vNil t9 fun t10 =>
  vFA 0 t10 fun t11 =>
  vLoad none t11 h_2 fun t12 =>
  vConvBS t12 h_2 fun t13 =>
  R (.ret (.tuple #[t13, (.int .i64 0)])) h_2)
  (fun c h => R (.pan c) h))
theorem l25 (R : AEnd → PH → Prop) : LoopsOK Try.prog qf (ordOf o25) (fun c h => R (.pan c) h) noLoops c25 := noLoops_ok (by kernel_rfl)
theorem e25 (a0 : Value) (h : PH) (R : AEnd → PH → Prop) : denF Try.prog qf (ordOf o25) noLoops Try.f25.results.toList c25 #[a0] h R = sh25 a0 h R := by kernel_rfl
theorem k25 : codeOK Try.prog qf Try.f25.ntmps (ordOf o25) c25 = true := by kernel_rfl
theorem s25 : Try.f25.body = some c25 := by kernel_rfl
theorem call25 {a0 : Value} {h : PH} {R : AEnd → PH → Prop} (H : sh25 a0 h R) : ACalls Try.prog 25 #[a0] h R :=
  ACalls_of_den mixed Try.func25 s25 (by kernel_rfl) k25 (l25 R) (of_den (e25 a0 h R) H)

/- gavel/ledger.key -/
noncomputable def c26 : Code := bodyOf Try.f26
def o26 : List (Nat × List (Nat × List Nat)) := []
def sh26 (a0 : Value) (h : PH) (R : AEnd → PH → Prop) : Prop :=
  vBin Try.prog .quo 3 a0 (.int .i64 10) fun t4 =>
  vBin Try.prog .add 3 (.int .i64 48) t4 fun t5 =>
  vConvI .u8 t5 fun t6 =>
  vBin Try.prog .rem 3 a0 (.int .i64 10) fun t8 =>
  vBin Try.prog .add 3 (.int .i64 48) t8 fun t9 =>
  vConvI .u8 t9 fun t10 =>
  (2 * 1 ≤ 2 ^ 24) ∧ vBuildS 5 1 2 #[.int .u8 0] [(0, t6), (1, t10)] h fun t11 h_1 =>
  vConvBS t11 h_1 fun t12 =>
  vBin Try.prog .add 9 (.string ⟨#[97, 99, 99, 116, 47]⟩) t12 fun t13 =>
  R (.ret t13) h_1
theorem l26 (R : AEnd → PH → Prop) : LoopsOK Try.prog qf (ordOf o26) (fun c h => R (.pan c) h) noLoops c26 := noLoops_ok (by kernel_rfl)
theorem e26 (a0 : Value) (h : PH) (R : AEnd → PH → Prop) : denF Try.prog qf (ordOf o26) noLoops Try.f26.results.toList c26 #[a0] h R = sh26 a0 h R := by kernel_rfl
theorem k26 : codeOK Try.prog qf Try.f26.ntmps (ordOf o26) c26 = true := by kernel_rfl
theorem s26 : Try.f26.body = some c26 := by kernel_rfl
theorem call26 {a0 : Value} {h : PH} {R : AEnd → PH → Prop} (H : sh26 a0 h R) : ACalls Try.prog 26 #[a0] h R :=
  ACalls_of_den mixed Try.func26 s26 (by kernel_rfl) k26 (l26 R) (of_den (e26 a0 h R) H)

/- gavel/gavellaw06.around -/
noncomputable def c27 : Code := bodyOf Try.f27
def o27 : List (Nat × List (Nat × List Nat)) := []
def sh27 (a0 a1 : Value) (h : PH) (R : AEnd → PH → Prop) : Prop :=
  vBin Try.prog .rem 3 a0 a1 fun t8 =>
  vBin Try.prog .lss 3 t8 (.int .i64 0) fun t10 =>
  dIf t10 (vBin Try.prog .sub 3 (.int .i64 0) t8 fun t12 =>
  R (.ret t12) h)
  (R (.ret t8) h)
theorem l27 (R : AEnd → PH → Prop) : LoopsOK Try.prog qf (ordOf o27) (fun c h => R (.pan c) h) noLoops c27 := noLoops_ok (by kernel_rfl)
theorem e27 (a0 a1 : Value) (h : PH) (R : AEnd → PH → Prop) : denF Try.prog qf (ordOf o27) noLoops Try.f27.results.toList c27 #[a0, a1] h R = sh27 a0 a1 h R := by kernel_rfl
theorem k27 : codeOK Try.prog qf Try.f27.ntmps (ordOf o27) c27 = true := by kernel_rfl
theorem s27 : Try.f27.body = some c27 := by kernel_rfl
theorem call27 {a0 a1 : Value} {h : PH} {R : AEnd → PH → Prop} (H : sh27 a0 a1 h R) : ACalls Try.prog 27 #[a0, a1] h R :=
  ACalls_of_den mixed Try.func27 s27 (by kernel_rfl) k27 (l27 R) (of_den (e27 a0 a1 h R) H)

/- (*gavel/ledger.Ledger).Pay -/
noncomputable def c28 : Code := bodyOf Try.f28
def o28 : List (Nat × List (Nat × List Nat)) := []
def sh28 (a0 a1 a2 : Value) (h : PH) (R : AEnd → PH → Prop) : Prop :=
  vCall Try.prog 56 #[a0, a1, (.int .i64 0), a2] h (fun t15 h_1 =>
  vExt t15 0 fun t16 =>
  vExt t15 1 fun t17 =>
  vBin Try.prog .neq 29 t17 (.int .i64 0) fun t19 =>
  dIf t19 (R (.ret t17) h_1)
  (vCall Try.prog 14 #[a0] h_1 (fun t23 h_2 =>
  vExt t23 0 fun t24 =>
  vExt t23 1 fun t25 =>
  vNew #[.int .i64 0, .int .i64 0, .int .i64 0, .int .i64 0] 37 h_2 fun t10 h_3 =>
  vStore 4 t10 t25 h_3 fun h_4 =>
  vBin Try.prog .add 3 t24 a2 fun t28 =>
  vBin Try.prog .gtr 3 t28 (.int .i64 1099511627776) fun t29 =>
  dIf t29 (R (.ret (.int .i64 62)) h_4)
  (vNil t16 fun t31 =>
  vFA 0 t31 fun t32 =>
  vFA 0 t32 fun t33 =>
  vLoad none t33 h_4 fun t34 =>
  vBin Try.prog .add 3 t34 a2 fun t36 =>
  vNil t16 fun t37 =>
  vFA 0 t37 fun t38 =>
  vFA 0 t38 fun t39 =>
  vStore 1 t39 t36 h_4 fun h_5 =>
  R (.ret (.int .i64 0)) h_5))
  (fun c h => R (.pan c) h)))
  (fun c h => R (.pan c) h)
theorem l28 (R : AEnd → PH → Prop) : LoopsOK Try.prog qf (ordOf o28) (fun c h => R (.pan c) h) noLoops c28 := noLoops_ok (by kernel_rfl)
theorem e28 (a0 a1 a2 : Value) (h : PH) (R : AEnd → PH → Prop) : denF Try.prog qf (ordOf o28) noLoops Try.f28.results.toList c28 #[a0, a1, a2] h R = sh28 a0 a1 a2 h R := by kernel_rfl
theorem k28 : codeOK Try.prog qf Try.f28.ntmps (ordOf o28) c28 = true := by kernel_rfl
theorem s28 : Try.f28.body = some c28 := by kernel_rfl
theorem call28 {a0 a1 a2 : Value} {h : PH} {R : AEnd → PH → Prop} (H : sh28 a0 a1 a2 h R) : ACalls Try.prog 28 #[a0, a1, a2] h R :=
  ACalls_of_den mixed Try.func28 s28 (by kernel_rfl) k28 (l28 R) (of_den (e28 a0 a1 a2 h R) H)

/- (*gavel/ledger.Ledger).Take -/
noncomputable def c29 : Code := bodyOf Try.f29
def o29 : List (Nat × List (Nat × List Nat)) := [(4, [(0, []), (1, []), (2, []), (3, []), (4, []), (5, []), (6, []), (7, []), (8, []), (9, []), (10, []), (11, []), (12, [])])]
def sh29 (a0 a1 a2 : Value) (h : PH) (R : AEnd → PH → Prop) : Prop :=
  vCall Try.prog 56 #[a0, a1, (.int .i64 0), a2] h (fun t13 h_1 =>
  vExt t13 0 fun t14 =>
  vExt t13 1 fun t15 =>
  vBin Try.prog .neq 29 t15 (.int .i64 0) fun t17 =>
  dIf t17 (R (.ret t15) h_1)
  (vNil t14 fun t20 =>
  vFA 0 t20 fun t21 =>
  vFA 0 t21 fun t22 =>
  vLoad none t22 h_1 fun t23 =>
  vNil t14 fun t25 =>
  vFA 0 t25 fun t26 =>
  vFA 1 t26 fun t27 =>
  vLoad none t27 h_1 fun t28 =>
  vBin Try.prog .sub 3 t23 t28 fun t29 =>
  vBin Try.prog .lss 3 t29 a2 fun t31 =>
  dIf t31 (R (.ret (.int .i64 61)) h_1)
  (vNil t14 fun t33 =>
  vFA 0 t33 fun t34 =>
  vFA 0 t34 fun t35 =>
  vLoad none t35 h_1 fun t36 =>
  vBin Try.prog .sub 3 t36 a2 fun t38 =>
  vNil t14 fun t39 =>
  vFA 0 t39 fun t40 =>
  vFA 0 t40 fun t41 =>
  vStore 1 t41 t38 h_1 fun h_2 =>
  R (.ret (.int .i64 0)) h_2)))
  (fun c h => R (.pan c) h)
theorem l29 (R : AEnd → PH → Prop) : LoopsOK Try.prog qf (ordOf o29) (fun c h => R (.pan c) h) noLoops c29 := noLoops_ok (by kernel_rfl)
theorem e29 (a0 a1 a2 : Value) (h : PH) (R : AEnd → PH → Prop) : denF Try.prog qf (ordOf o29) noLoops Try.f29.results.toList c29 #[a0, a1, a2] h R = sh29 a0 a1 a2 h R := by kernel_rfl
theorem k29 : codeOK Try.prog qf Try.f29.ntmps (ordOf o29) c29 = true := by kernel_rfl
theorem s29 : Try.f29.body = some c29 := by kernel_rfl
theorem call29 {a0 a1 a2 : Value} {h : PH} {R : AEnd → PH → Prop} (H : sh29 a0 a1 a2 h R) : ACalls Try.prog 29 #[a0, a1, a2] h R :=
  ACalls_of_den mixed Try.func29 s29 (by kernel_rfl) k29 (l29 R) (of_den (e29 a0 a1 a2 h R) H)

/- (*gavel/ledger.Ledger).Store -/
noncomputable def c30 : Code := bodyOf Try.f30
def o30 : List (Nat × List (Nat × List Nat)) := [(7, [(0, []), (1, []), (2, []), (3, []), (4, []), (5, []), (6, []), (7, []), (8, []), (9, []), (10, []), (11, []), (12, []), (13, [])])]
def sh30 (a0 a1 a2 a3 : Value) (h : PH) (R : AEnd → PH → Prop) : Prop :=
  vCall Try.prog 56 #[a0, a1, a2, a3] h (fun t18 h_1 =>
  vExt t18 0 fun t19 =>
  vExt t18 1 fun t20 =>
  vBin Try.prog .neq 29 t20 (.int .i64 0) fun t22 =>
  dIf t22 (R (.ret t20) h_1)
  (vCall Try.prog 14 #[a0] h_1 (fun t26 h_2 =>
  vExt t26 0 fun t27 =>
  vExt t26 1 fun t28 =>
  vNew #[.int .i64 0, .int .i64 0, .int .i64 0, .int .i64 0] 37 h_2 fun t12 h_3 =>
  vStore 4 t12 t28 h_3 fun h_4 =>
  vIxA 4 1 t12 a2 fun t30 =>
  vLoad none t30 h_4 fun t31 =>
  vBin Try.prog .add 3 t31 a3 fun t33 =>
  vBin Try.prog .gtr 3 t33 (.int .i64 1099511627776) fun t34 =>
  dIf t34 (R (.ret (.int .i64 62)) h_4)
  (vNil t19 fun t37 =>
  vFA 0 t37 fun t38 =>
  vFA 2 t38 fun t39 =>
  vIxA 4 1 t39 a2 fun t40 =>
  vLoad none t40 h_4 fun t41 =>
  vBin Try.prog .add 3 t41 a3 fun t43 =>
  vNil t19 fun t44 =>
  vFA 0 t44 fun t45 =>
  vFA 2 t45 fun t46 =>
  vIxA 4 1 t46 a2 fun t47 =>
  vStore 1 t47 t43 h_4 fun h_5 =>
  R (.ret (.int .i64 0)) h_5))
  (fun c h => R (.pan c) h)))
  (fun c h => R (.pan c) h)
theorem l30 (R : AEnd → PH → Prop) : LoopsOK Try.prog qf (ordOf o30) (fun c h => R (.pan c) h) noLoops c30 := noLoops_ok (by kernel_rfl)
theorem e30 (a0 a1 a2 a3 : Value) (h : PH) (R : AEnd → PH → Prop) : denF Try.prog qf (ordOf o30) noLoops Try.f30.results.toList c30 #[a0, a1, a2, a3] h R = sh30 a0 a1 a2 a3 h R := by kernel_rfl
theorem k30 : codeOK Try.prog qf Try.f30.ntmps (ordOf o30) c30 = true := by kernel_rfl
theorem s30 : Try.f30.body = some c30 := by kernel_rfl
theorem call30 {a0 a1 a2 a3 : Value} {h : PH} {R : AEnd → PH → Prop} (H : sh30 a0 a1 a2 a3 h R) : ACalls Try.prog 30 #[a0, a1, a2, a3] h R :=
  ACalls_of_den mixed Try.func30 s30 (by kernel_rfl) k30 (l30 R) (of_den (e30 a0 a1 a2 a3 h R) H)

/- (*gavel/ledger.Ledger).Fetch -/
noncomputable def c31 : Code := bodyOf Try.f31
def o31 : List (Nat × List (Nat × List Nat)) := [(4, [(0, []), (1, []), (2, []), (3, []), (4, []), (5, []), (6, []), (7, []), (8, []), (9, []), (10, []), (11, []), (12, []), (13, []), (14, []), (15, []), (16, [])]), (6, [(0, []), (1, []), (2, []), (3, []), (4, []), (5, []), (6, []), (7, []), (8, []), (9, []), (10, []), (11, []), (12, []), (13, [])])]
def sh31 (a0 a1 a2 a3 : Value) (h : PH) (R : AEnd → PH → Prop) : Prop :=
  vCall Try.prog 56 #[a0, a1, a2, a3] h (fun t16 h_1 =>
  vExt t16 0 fun t17 =>
  vExt t16 1 fun t18 =>
  vBin Try.prog .neq 29 t18 (.int .i64 0) fun t20 =>
  dIf t20 (R (.ret t18) h_1)
  (vNil t17 fun t24 =>
  vFA 0 t24 fun t25 =>
  vFA 2 t25 fun t26 =>
  vIxA 4 1 t26 a2 fun t27 =>
  vLoad none t27 h_1 fun t28 =>
  vNil t17 fun t31 =>
  vFA 0 t31 fun t32 =>
  vFA 6 t32 fun t33 =>
  vIxA 4 1 t33 a2 fun t34 =>
  vLoad none t34 h_1 fun t35 =>
  vBin Try.prog .sub 3 t28 t35 fun t36 =>
  vBin Try.prog .lss 3 t36 a3 fun t38 =>
  dIf t38 (R (.ret (.int .i64 61)) h_1)
  (vNil t17 fun t41 =>
  vFA 0 t41 fun t42 =>
  vFA 2 t42 fun t43 =>
  vIxA 4 1 t43 a2 fun t44 =>
  vLoad none t44 h_1 fun t45 =>
  vBin Try.prog .sub 3 t45 a3 fun t47 =>
  vNil t17 fun t48 =>
  vFA 0 t48 fun t49 =>
  vFA 2 t49 fun t50 =>
  vIxA 4 1 t50 a2 fun t51 =>
  vStore 1 t51 t47 h_1 fun h_2 =>
  R (.ret (.int .i64 0)) h_2)))
  (fun c h => R (.pan c) h)
theorem l31 (R : AEnd → PH → Prop) : LoopsOK Try.prog qf (ordOf o31) (fun c h => R (.pan c) h) noLoops c31 := noLoops_ok (by kernel_rfl)
theorem e31 (a0 a1 a2 a3 : Value) (h : PH) (R : AEnd → PH → Prop) : denF Try.prog qf (ordOf o31) noLoops Try.f31.results.toList c31 #[a0, a1, a2, a3] h R = sh31 a0 a1 a2 a3 h R := by kernel_rfl
theorem k31 : codeOK Try.prog qf Try.f31.ntmps (ordOf o31) c31 = true := by kernel_rfl
theorem s31 : Try.f31.body = some c31 := by kernel_rfl
theorem call31 {a0 a1 a2 a3 : Value} {h : PH} {R : AEnd → PH → Prop} (H : sh31 a0 a1 a2 a3 h R) : ACalls Try.prog 31 #[a0, a1, a2, a3] h R :=
  ACalls_of_den mixed Try.func31 s31 (by kernel_rfl) k31 (l31 R) (of_den (e31 a0 a1 a2 a3 h R) H)

end Go.Pw

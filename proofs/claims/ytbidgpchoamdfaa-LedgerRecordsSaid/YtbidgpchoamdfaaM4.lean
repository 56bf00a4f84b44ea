/- Texts of this claim, one behind the other. -/
import Derived.Test.YtbidgpchoamdfaaM2
import Derived.Test.YtbidgpchoamdfaaProg
import Derived.KernelRfl
/- The functions of the program, told as predicate transformers: printed by wip/tools/shprint.py; each is what the model makes of the function, by the kernel's reckoning. -/
set_option linter.unusedVariables false
set_option maxRecDepth 100000
namespace Go.Pw
open Go Go.Proofs
theorem mixed : Try.prog.follows .mixedOrders = true := by kernel_rfl
def qf : FuncId → Bool := memN []
end Go.Pw
/- The functions of the program, told as predicate transformers: printed by wip/tools/shprint.py; each is what the model makes of the function, by the kernel's reckoning. -/
set_option linter.unusedVariables false
set_option maxRecDepth 100000
namespace Go.Pw
open Go Go.Proofs
/- gavel/gavelref06.Records -/
noncomputable def c22 : Code := bodyOf Try.f22
def o22 : List (Nat × List (Nat × List Nat)) := [(6, [(0, []), (1, []), (3, []), (4, []), (5, []), (6, []), (7, []), (8, []), (9, []), (12, []), (13, []), (14, []), (2, [5, 8, 14]), (10, [14]), (11, []), (15, []), (16, []), (17, [])]), (10, [(0, []), (1, []), (2, []), (3, []), (4, []), (5, []), (6, []), (7, []), (8, []), (9, []), (10, []), (11, []), (12, [])]), (15, [(0, []), (1, []), (3, []), (4, []), (5, []), (2, [5]), (6, []), (7, []), (8, []), (9, []), (10, []), (11, [])])]
def b22_8 (Kp : List PanicEntry → PH → Prop) (x2 : (Value × Value × Value × Value × Value) → PH → Prop) (f : Value × Value × Value × Value) (kn : (Value × Value × Value × Value) → (Value × Value) → PH → Prop) (s : Value × Value) (h : PH) : Prop :=
  vFA 0 f.1 fun t39 =>
  vLoad none t39 h fun t40 =>
  vBin Try.prog .leq 3 s.2 t40 fun t41 =>
  dIf t41 (vFA 0 f.2.2.2 fun t46 =>
  vIxA 5 1 t46 s.2 fun t47 =>
  vLoad none t47 h fun t48 =>
  vFA 5 f.2.2.2 fun t50 =>
  vIxA 5 1 t50 s.2 fun t51 =>
  vLoad none t51 h fun t52 =>
  vBin Try.prog .add 3 t48 t52 fun t53 =>
  vCall Try.prog 52 #[t53] h (fun t54 h_1 =>
  vBin Try.prog .add 9 s.1 t54 fun t55 =>
  vBin Try.prog .add 3 s.2 (.int .i64 1) fun t43 =>
  kn f (t55, t43) h_1)
  Kp)
  (x2 (f.1, f.2.1, f.2.2.1, f.2.2.2, s.1) h)

def b22_12 (Kp : List PanicEntry → PH → Prop) (x4 : (Value × Value × Value × Value × Value) → PH → Prop) (f : Value × Value × Value × Value) (kn : (Value × Value × Value × Value) → (Value × Value) → PH → Prop) (s : Value × Value) (h : PH) : Prop :=
  vFA 0 f.1 fun t57 =>
  vLoad none t57 h fun t58 =>
  vBin Try.prog .leq 3 s.2 t58 fun t59 =>
  dIf t59 (vFA 5 f.2.2.2 fun t64 =>
  vIxA 5 1 t64 s.2 fun t65 =>
  vLoad none t65 h fun t66 =>
  vCall Try.prog 52 #[t66] h (fun t67 h_1 =>
  vBin Try.prog .add 9 s.1 t67 fun t68 =>
  vBin Try.prog .add 3 s.2 (.int .i64 1) fun t61 =>
  kn f (t68, t61) h_1)
  Kp)
  (x4 (f.1, f.2.1, f.2.2.1, f.2.2.2, s.1) h)

def b22_3 (Kp : List PanicEntry → PH → Prop) (x0 : Value → PH → Prop) (f : Value) (kn : (Value) → (Value × Value) → PH → Prop) (s : Value × Value) (h : PH) : Prop :=
  vFA 1 f fun t10 =>
  vLoad none t10 h fun t11 =>
  vLenS t11 fun t12 =>
  vBin Try.prog .lss 3 s.2 t12 fun t13 =>
  dIf t13 (vFA 1 f fun t16 =>
  vLoad none t16 h fun t17 =>
  vIxS 12 t17 s.2 fun t19 =>
  vLoad (some 12) t19 h fun t20 =>
  vNew #[.int .i64 0, .int .i64 0, .int .i64 0, .int .i64 0, .int .i64 0, .int .i64 0, .int .i64 0, .int .i64 0, .int .i64 0, .int .i64 0, .int .i64 0, .string ⟨#[]⟩] 83 h fun t5 h_1 =>
  vStore 12 t5 t20 h_1 fun h_2 =>
  vFA 10 t5 fun t21 =>
  vLoad none t21 h_2 fun t22 =>
  vFA 0 t5 fun t24 =>
  vIxA 5 1 t24 (.int .i64 0) fun t25 =>
  vLoad none t25 h_2 fun t26 =>
  vFA 5 t5 fun t27 =>
  vIxA 5 1 t27 (.int .i64 0) fun t28 =>
  vLoad none t28 h_2 fun t29 =>
  vBin Try.prog .add 3 t26 t29 fun t30 =>
  vFA 5 t5 fun t33 =>
  vIxA 5 1 t33 (.int .i64 0) fun t34 =>
  vLoad none t34 h_2 fun t35 =>
  vCall Try.prog 52 #[t22] h_2 (fun t23 h_3 =>
  (vLoad none t25 h_3 fun u =>
  t26 = u) ∧
  (vLoad none t28 h_3 fun u_1 =>
  t29 = u_1) ∧
  (vLoad none t34 h_3 fun u_2 =>
  t35 = u_2) ∧
  vCall Try.prog 52 #[t30] h_3 (fun t31 h_4 =>
  (vLoad none t34 h_4 fun u_3 =>
  t35 = u_3) ∧
  vBin Try.prog .add 9 t23 t31 fun t32 =>
  vCall Try.prog 52 #[t35] h_4 (fun t36 h_5 =>
  vBin Try.prog .add 9 t32 t36 fun t37 =>
  lf (b22_8 Kp (fun v h => exq (fun ρ => (ρ 1, ρ 3, ρ 4, ρ 5, ρ 6)) v (fun r h_6 =>
  lf (b22_12 Kp (fun v h => exq (fun ρ => (ρ 1, ρ 3, ρ 4, ρ 5, ρ 6)) v (fun r_1 h_7 =>
  vFA 11 (r_1 5) fun t73 =>
  vLoad none t73 h_7 fun t74 =>
  vCall Try.prog 42 #[(r_1 4)] h_7 (fun t71 h_8 =>
  (vLoad none t73 h_8 fun u_4 =>
  t74 = u_4) ∧
  vCall Try.prog 53 #[t74] h_8 (fun t75 h_9 =>
  vBin Try.prog .add 9 (r_1 6) t75 fun t76 =>
  vBuild [(0, 1), (1, 1)] #[.string ⟨#[]⟩, .string ⟨#[]⟩] [(0, t71), (1, t76)] fun t77 =>
  (1 * 2 ≤ 2 ^ 24) ∧ vBuildS 32 2 1 #[.string ⟨#[]⟩, .string ⟨#[]⟩] [(0, t77)] h_9 fun t78 h_10 =>
  (0 < 2) ∧ (0 < 32) ∧ (Array.size #[(.string ⟨#[]⟩ : Value), (.string ⟨#[]⟩ : Value)] = 2) ∧ vAppend false 32 2 32 (r_1 3) t78 h_10 fun t79 h_11 =>
  vBin Try.prog .add 3 (r_1 4) (.int .i64 1) fun t15 =>
  kn (r_1 1) (t79, t15) h_11)
  Kp)
  Kp) h)) ((r 1), (r 3), (r 4), (r 5)) ((r 6), (.int .i64 1)) h_6) h)) (f, s.1, s.2, t5) (t37, (.int .i64 1)) h_5)
  Kp)
  Kp)
  Kp)
  (x0 s.1 h)

def sh22 (a0 : Value) (h : PH) (R : AEnd → PH → Prop) : Prop :=
  vNew (Value.cells a0) 52 h fun t1 h_1 =>
  lf (b22_3 (fun c h => R (.pan c) h) (fun v h => exq (fun ρ => ρ 3) v (fun r h_2 =>
  R (.ret (r 3)) h_2) h)) t1 ((.slice none 0 0), (.int .i64 0)) h_1
def L22 (Kp : List PanicEntry → PH → Prop) : Loops := fun c Q ρ h =>
    sel (Nat.beq (loopId c) 3) (lf (b22_3 Kp (fun v h => exq (fun ρ => ρ 3) v (Q (.exit 0)) h)) ((fun ρ => ρ 1) ρ) ((fun ρ => (ρ 3, ρ 4)) ρ) h)
    (sel (Nat.beq (loopId c) 8) (lf (b22_8 Kp (fun v h => exq (fun ρ => (ρ 1, ρ 3, ρ 4, ρ 5, ρ 6)) v (Q (.exit 2)) h)) ((fun ρ => (ρ 1, ρ 3, ρ 4, ρ 5)) ρ) ((fun ρ => (ρ 6, ρ 7)) ρ) h)
    (sel (Nat.beq (loopId c) 12) (lf (b22_12 Kp (fun v h => exq (fun ρ => (ρ 1, ρ 3, ρ 4, ρ 5, ρ 6)) v (Q (.exit 4)) h)) ((fun ρ => (ρ 1, ρ 3, ρ 4, ρ 5)) ρ) ((fun ρ => (ρ 6, ρ 8)) ρ) h)
    (False)))
theorem B22_3 (Kp : List PanicEntry → PH → Prop) (KN : (Value) → (Value × Value) → PH → Prop) (XX : Exit → (Value) → PH → Prop) (ρ : Env) (h : PH) :
    den Try.prog qf (ordOf o22) Kp (L22 Kp) (loopAt c22 0) (lq KN XX (fun ρ => ρ 1) (fun ρ => (ρ 3, ρ 4)) (fun ρ => ρ 3)) ρ h = b22_3 Kp (XX (.exit 0)) ((fun ρ => ρ 1) ρ) KN ((fun ρ => (ρ 3, ρ 4)) ρ) h := by kernel_rfl
theorem B22_8 (Kp : List PanicEntry → PH → Prop) (KN : (Value × Value × Value × Value) → (Value × Value) → PH → Prop) (XX : Exit → (Value × Value × Value × Value × Value) → PH → Prop) (ρ : Env) (h : PH) :
    den Try.prog qf (ordOf o22) Kp (L22 Kp) (loopAt c22 1) (lq KN XX (fun ρ => (ρ 1, ρ 3, ρ 4, ρ 5)) (fun ρ => (ρ 6, ρ 7)) (fun ρ => (ρ 1, ρ 3, ρ 4, ρ 5, ρ 6))) ρ h = b22_8 Kp (XX (.exit 2)) ((fun ρ => (ρ 1, ρ 3, ρ 4, ρ 5)) ρ) KN ((fun ρ => (ρ 6, ρ 7)) ρ) h := by kernel_rfl
theorem B22_12 (Kp : List PanicEntry → PH → Prop) (KN : (Value × Value × Value × Value) → (Value × Value) → PH → Prop) (XX : Exit → (Value × Value × Value × Value × Value) → PH → Prop) (ρ : Env) (h : PH) :
    den Try.prog qf (ordOf o22) Kp (L22 Kp) (loopAt c22 2) (lq KN XX (fun ρ => (ρ 1, ρ 3, ρ 4, ρ 5)) (fun ρ => (ρ 6, ρ 8)) (fun ρ => (ρ 1, ρ 3, ρ 4, ρ 5, ρ 6))) ρ h = b22_12 Kp (XX (.exit 4)) ((fun ρ => (ρ 1, ρ 3, ρ 4, ρ 5)) ρ) KN ((fun ρ => (ρ 6, ρ 8)) ρ) h := by kernel_rfl
theorem l22 (R : AEnd → PH → Prop) : LoopsOK Try.prog qf (ordOf o22) (fun c h => R (.pan c) h) (L22 (fun c h => R (.pan c) h)) c22 :=
  LoopsOK.mk 3 (by kernel_rfl) fun i hi Q ρ h H => match i, hi with
    | 0, _ => loop_gen (F := Value) (S := Value × Value) (X := Value) (φ := (fun ρ => ρ 1)) (π := (fun ρ => (ρ 3, ρ 4))) (ξ := (fun ρ => ρ 3)) (B := (fun (XX : Exit → (Value) → PH → Prop) => b22_3 (fun c h => R (.pan c) h) (XX (.exit 0)))) (B22_3 _) (of_den (by kernel_rfl) H)
    | 1, _ => loop_gen (F := Value × Value × Value × Value) (S := Value × Value) (X := Value × Value × Value × Value × Value) (φ := (fun ρ => (ρ 1, ρ 3, ρ 4, ρ 5))) (π := (fun ρ => (ρ 6, ρ 7))) (ξ := (fun ρ => (ρ 1, ρ 3, ρ 4, ρ 5, ρ 6))) (B := (fun (XX : Exit → (Value × Value × Value × Value × Value) → PH → Prop) => b22_8 (fun c h => R (.pan c) h) (XX (.exit 2)))) (B22_8 _) (of_den (by kernel_rfl) H)
    | 2, _ => loop_gen (F := Value × Value × Value × Value) (S := Value × Value) (X := Value × Value × Value × Value × Value) (φ := (fun ρ => (ρ 1, ρ 3, ρ 4, ρ 5))) (π := (fun ρ => (ρ 6, ρ 8))) (ξ := (fun ρ => (ρ 1, ρ 3, ρ 4, ρ 5, ρ 6))) (B := (fun (XX : Exit → (Value × Value × Value × Value × Value) → PH → Prop) => b22_12 (fun c h => R (.pan c) h) (XX (.exit 4)))) (B22_12 _) (of_den (by kernel_rfl) H)
    | n + 3, hi => absurd hi (by omega)
theorem e22 (a0 : Value) (h : PH) (R : AEnd → PH → Prop) : denF Try.prog qf (ordOf o22) (L22 (fun c h => R (.pan c) h)) Try.f22.results.toList c22 #[a0] h R = sh22 a0 h R := by kernel_rfl
theorem k22 : codeOK Try.prog qf Try.f22.ntmps (ordOf o22) c22 = true := by kernel_rfl
theorem s22 : Try.f22.body = some c22 := by kernel_rfl
theorem call22 {a0 : Value} {h : PH} {R : AEnd → PH → Prop} (H : sh22 a0 h R) : ACalls Try.prog 22 #[a0] h R :=
  ACalls_of_den mixed Try.func22 s22 (by kernel_rfl) k22 (l22 R) (of_den (e22 a0 h R) H)

/- gavel/ledger.New -/
noncomputable def c23 : Code := bodyOf Try.f23
def o23 : List (Nat × List (Nat × List Nat)) := []
def sh23 (a0 a1 : Value) (h : PH) (R : AEnd → PH → Prop) : Prop :=
  vBin Try.prog .lss 3 a0 (.int .i64 1) fun t7 =>
  gq (boolOf t7) false (fun K =>
  K a0 h)
  (fun t9 h_1 =>
  gq (boolOf t7) false (fun K_1 =>
  vBin Try.prog .gtr 3 t9 (.int .i64 16) fun u =>
  K_1 u h_1)
  (fun t10 h_2 =>
  vPick t7 (.bool true) t10 fun t11 =>
  gq (boolOf t11) false (fun K_2 =>
  K_2 a1 h_2)
  (fun t13 h_3 =>
  gq (boolOf t11) false (fun K_3 =>
  vBin Try.prog .lss 3 t13 (.int .i64 1) fun u_1 =>
  K_3 u_1 h_3)
  (fun t14 h_4 =>
  vPick t11 (.bool true) t14 fun t15 =>
  gq (boolOf t15) false (fun K_4 =>
  K_4 a1 h_4)
  (fun t17 h_5 =>
  gq (boolOf t15) false (fun K_5 =>
  vBin Try.prog .gtr 3 t17 (.int .i64 4) fun u_2 =>
  K_5 u_2 h_5)
  (fun t18 h_6 =>
  vPick t15 (.bool true) t18 fun t19 =>
  dIf t19 (R (.ret (.tuple #[(.pointer none), (.int .i64 1)])) h_6)
  (vMakeS 66 12 104 #[.int .i64 0, .int .i64 0, .int .i64 0, .int .i64 0, .int .i64 0, .int .i64 0, .int .i64 0, .int .i64 0, .int .i64 0, .int .i64 0, .int .i64 0, .string ⟨#[]⟩] a0 a0 h_6 fun t22 h_7 =>
  vBuild [(0, 1), (1, 1)] #[.int .i64 0, .slice none 0 0] [(0, a1), (1, t22)] fun t23 =>
  vNew (Value.cells t23) 64 h_7 fun t24 h_8 =>
  R (.ret (.tuple #[t24, (.int .i64 0)])) h_8)) h_5) h_4) h_3) h_2) h_1) h
theorem l23 (R : AEnd → PH → Prop) : LoopsOK Try.prog qf (ordOf o23) (fun c h => R (.pan c) h) noLoops c23 := noLoops_ok (by kernel_rfl)
theorem e23 (a0 a1 : Value) (h : PH) (R : AEnd → PH → Prop) : denF Try.prog qf (ordOf o23) noLoops Try.f23.results.toList c23 #[a0, a1] h R = sh23 a0 a1 h R := by kernel_rfl
theorem k23 : codeOK Try.prog qf Try.f23.ntmps (ordOf o23) c23 = true := by kernel_rfl
theorem s23 : Try.f23.body = some c23 := by kernel_rfl
theorem call23 {a0 a1 : Value} {h : PH} {R : AEnd → PH → Prop} (H : sh23 a0 a1 h R) : ACalls Try.prog 23 #[a0, a1] h R :=
  ACalls_of_den mixed Try.func23 s23 (by kernel_rfl) k23 (l23 R) (of_den (e23 a0 a1 h R) H)

/- gavel/wire.PutInt -/
noncomputable def c24 : Code := bodyOf Try.f24
def o24 : List (Nat × List (Nat × List Nat)) := []
def sh24 (a0 : Value) (h : PH) (R : AEnd → PH → Prop) : Prop :=
  vBin Try.prog .lss 3 a0 (.int .i64 0) fun t6 =>
  gq (boolOf t6) false (fun K =>
  K a0 h)
  (fun t8 h_1 =>
  gq (boolOf t6) false (fun K_1 =>
  vBin Try.prog .gtr 3 t8 (.int .i64 9007199254740992) fun u =>
  K_1 u h_1)
  (fun t9 h_2 =>
  vPick t6 (.bool true) t9 fun t10 =>
  dIf t10 (R (.ret (.tuple #[(.string ⟨#[]⟩), (.int .i64 1)])) h_2)
  (vNew #[.slice none 0 0] 95 h_2 fun t4 h_3 =>
  vCall Try.prog 54 #[t4, a0] h_3 (fun t12 h_4 =>
  vNil t12 fun t13 =>
  vFA 0 t13 fun t14 =>
  vLoad none t14 h_4 fun t15 =>
  vConvBS t15 h_4 fun t16 =>
  R (.ret (.tuple #[t16, (.int .i64 0)])) h_4)
  (fun c h => R (.pan c) h))) h_1) h
theorem l24 (R : AEnd → PH → Prop) : LoopsOK Try.prog qf (ordOf o24) (fun c h => R (.pan c) h) noLoops c24 := noLoops_ok (by kernel_rfl)
theorem e24 (a0 : Value) (h : PH) (R : AEnd → PH → Prop) : denF Try.prog qf (ordOf o24) noLoops Try.f24.results.toList c24 #[a0] h R = sh24 a0 h R := by kernel_rfl
theorem k24 : codeOK Try.prog qf Try.f24.ntmps (ordOf o24) c24 = true := by kernel_rfl
theorem s24 : Try.f24.body = some c24 := by kernel_rfl
theorem call24 {a0 : Value} {h : PH} {R : AEnd → PH → Prop} (H : sh24 a0 h R) : ACalls Try.prog 24 #[a0] h R :=
  ACalls_of_den mixed Try.func24 s24 (by kernel_rfl) k24 (l24 R) (of_den (e24 a0 h R) H)

/- gavel/wire.PutText -/
noncomputable def c25 : Code := bodyOf Try.f25
def o25 : List (Nat × List (Nat × List Nat)) := []
def sh25 (a0 : Value) (h : PH) (R : AEnd → PH → Prop) : Prop :=
  vLenStr a0 fun t6 =>
  vBin Try.prog .gtr 3 t6 (.int .i64 1048576) fun t7 =>
  dIf t7 (R (.ret (.tuple #[(.string ⟨#[]⟩), (.int .i64 4)])) h)
  (vNew #[.slice none 0 0] 95 h fun t4 h_1 =>
  vCall Try.prog 55 #[t4, a0] h_1 (fun t9 h_2 =>
  vNil t9 fun t10 =>
  vFA 0 t10 fun t11 =>
  vLoad none t11 h_2 fun t12 =>
  vConvBS t12 h_2 fun t13 =>
  R (.ret (.tuple #[t13, (.int .i64 0)])) h_2)
  (fun c h => R (.pan c) h))
theorem l25 (R : AEnd → PH → Prop) : LoopsOK Try.prog qf (ordOf o25) (fun c h => R (.pan c) h) noLoops c25 := noLoops_ok (by kernel_rfl)
theorem e25 (a0 : Value) (h : PH) (R : AEnd → PH → Prop) : denF Try.prog qf (ordOf o25) noLoops Try.f25.results.toList c25 #[a0] h R = sh25 a0 h R := by kernel_rfl
theorem k25 : codeOK Try.prog qf Try.f25.ntmps (ordOf o25) c25 = true := by kernel_rfl
theorem s25 : Try.f25.body = some c25 := by kernel_rfl
theorem call25 {a0 : Value} {h : PH} {R : AEnd → PH → Prop} (H : sh25 a0 h R) : ACalls Try.prog 25 #[a0] h R :=
  ACalls_of_den mixed Try.func25 s25 (by kernel_rfl) k25 (l25 R) (of_den (e25 a0 h R) H)

/- gavel/ledger.key -/
noncomputable def c26 : Code := bodyOf Try.f26
def o26 : List (Nat × List (Nat × List Nat)) := []
def sh26 (a0 : Value) (h : PH) (R : AEnd → PH → Prop) : Prop :=
  vBin Try.prog .quo 3 a0 (.int .i64 10) fun t4 =>
  vBin Try.prog .add 3 (.int .i64 48) t4 fun t5 =>
  vConvI .u8 t5 fun t6 =>
  vBin Try.prog .rem 3 a0 (.int .i64 10) fun t8 =>
  vBin Try.prog .add 3 (.int .i64 48) t8 fun t9 =>
  vConvI .u8 t9 fun t10 =>
  (2 * 1 ≤ 2 ^ 24) ∧ vBuildS 5 1 2 #[.int .u8 0] [(0, t6), (1, t10)] h fun t11 h_1 =>
  vConvBS t11 h_1 fun t12 =>
  vBin Try.prog .add 9 (.string ⟨#[97, 99, 99, 116, 47]⟩) t12 fun t13 =>
  R (.ret t13) h_1
theorem l26 (R : AEnd → PH → Prop) : LoopsOK Try.prog qf (ordOf o26) (fun c h => R (.pan c) h) noLoops c26 := noLoops_ok (by kernel_rfl)
theorem e26 (a0 : Value) (h : PH) (R : AEnd → PH → Prop) : denF Try.prog qf (ordOf o26) noLoops Try.f26.results.toList c26 #[a0] h R = sh26 a0 h R := by kernel_rfl
theorem k26 : codeOK Try.prog qf Try.f26.ntmps (ordOf o26) c26 = true := by kernel_rfl
theorem s26 : Try.f26.body = some c26 := by kernel_rfl
theorem call26 {a0 : Value} {h : PH} {R : AEnd → PH → Prop} (H : sh26 a0 h R) : ACalls Try.prog 26 #[a0] h R :=
  ACalls_of_den mixed Try.func26 s26 (by kernel_rfl) k26 (l26 R) (of_den (e26 a0 h R) H)

/- gavel/gavellaw06.around -/
noncomputable def c27 : Code := bodyOf Try.f27
def o27 : List (Nat × List (Nat × List Nat)) := []
def sh27 (a0 a1 : Value) (h : PH) (R : AEnd → PH → Prop) : Prop :=
  vBin Try.prog .rem 3 a0 a1 fun t8 =>
  vBin Try.prog .lss 3 t8 (.int .i64 0) fun t10 =>
  dIf t10 (vBin Try.prog .sub 3 (.int .i64 0) t8 fun t12 =>
  R (.ret t12) h)
  (R (.ret t8) h)
theorem l27 (R : AEnd → PH → Prop) : LoopsOK Try.prog qf (ordOf o27) (fun c h => R (.pan c) h) noLoops c27 := noLoops_ok (by kernel_rfl)
theorem e27 (a0 a1 : Value) (h : PH) (R : AEnd → PH → Prop) : denF Try.prog qf (ordOf o27) noLoops Try.f27.results.toList c27 #[a0, a1] h R = sh27 a0 a1 h R := by kernel_rfl
theorem k27 : codeOK Try.prog qf Try.f27.ntmps (ordOf o27) c27 = true := by kernel_rfl
theorem s27 : Try.f27.body = some c27 := by kernel_rfl
theorem call27 {a0 a1 : Value} {h : PH} {R : AEnd → PH → Prop} (H : sh27 a0 a1 h R) : ACalls Try.prog 27 #[a0, a1] h R :=
  ACalls_of_den mixed Try.func27 s27 (by kernel_rfl) k27 (l27 R) (of_den (e27 a0 a1 h R) H)

/- (*gavel/ledger.Ledger).Pay -/
noncomputable def c28 : Code := bodyOf Try.f28
def o28 : List (Nat × List (Nat × List Nat)) := []
def sh28 (a0 a1 a2 : Value) (h : PH) (R : AEnd → PH → Prop) : Prop :=
  vCall Try.prog 56 #[a0, a1, (.int .i64 0), a2] h (fun t15 h_1 =>
  vExt t15 0 fun t16 =>
  vExt t15 1 fun t17 =>
  vBin Try.prog .neq 29 t17 (.int .i64 0) fun t19 =>
  dIf t19 (R (.ret t17) h_1)
  (vCall Try.prog 14 #[a0] h_1 (fun t23 h_2 =>
  vExt t23 0 fun t24 =>
  vExt t23 1 fun t25 =>
  vNew #[.int .i64 0, .int .i64 0, .int .i64 0, .int .i64 0] 37 h_2 fun t10 h_3 =>
  vStore 4 t10 t25 h_3 fun h_4 =>
  vBin Try.prog .add 3 t24 a2 fun t28 =>
  vBin Try.prog .gtr 3 t28 (.int .i64 1099511627776) fun t29 =>
  dIf t29 (R (.ret (.int .i64 62)) h_4)
  (vNil t16 fun t31 =>
  vFA 0 t31 fun t32 =>
  vFA 0 t32 fun t33 =>
  vLoad none t33 h_4 fun t34 =>
  vBin Try.prog .add 3 t34 a2 fun t36 =>
  vNil t16 fun t37 =>
  vFA 0 t37 fun t38 =>
  vFA 0 t38 fun t39 =>
  vStore 1 t39 t36 h_4 fun h_5 =>
  R (.ret (.int .i64 0)) h_5))
  (fun c h => R (.pan c) h)))
  (fun c h => R (.pan c) h)
theorem l28 (R : AEnd → PH → Prop) : LoopsOK Try.prog qf (ordOf o28) (fun c h => R (.pan c) h) noLoops c28 := noLoops_ok (by kernel_rfl)
theorem e28 (a0 a1 a2 : Value) (h : PH) (R : AEnd → PH → Prop) : denF Try.prog qf (ordOf o28) noLoops Try.f28.results.toList c28 #[a0, a1, a2] h R = sh28 a0 a1 a2 h R := by kernel_rfl
theorem k28 : codeOK Try.prog qf Try.f28.ntmps (ordOf o28) c28 = true := by kernel_rfl
theorem s28 : Try.f28.body = some c28 := by kernel_rfl
theorem call28 {a0 a1 a2 : Value} {h : PH} {R : AEnd → PH → Prop} (H : sh28 a0 a1 a2 h R) : ACalls Try.prog 28 #[a0, a1, a2] h R :=
  ACalls_of_den mixed Try.func28 s28 (by kernel_rfl) k28 (l28 R) (of_den (e28 a0 a1 a2 h R) H)

/- (*gavel/ledger.Ledger).Take -/
noncomputable def c29 : Code := bodyOf Try.f29
def o29 : List (Nat × List (Nat × List Nat)) := [(4, [(0, []), (1, []), (2, []), (3, []), (4, []), (5, []), (6, []), (7, []), (8, []), (9, []), (10, []), (11, []), (12, [])])]
def sh29 (a0 a1 a2 : Value) (h : PH) (R : AEnd → PH → Prop) : Prop :=
  vCall Try.prog 56 #[a0, a1, (.int .i64 0), a2] h (fun t13 h_1 =>
  vExt t13 0 fun t14 =>
  vExt t13 1 fun t15 =>
  vBin Try.prog .neq 29 t15 (.int .i64 0) fun t17 =>
  dIf t17 (R (.ret t15) h_1)
  (vNil t14 fun t20 =>
  vFA 0 t20 fun t21 =>
  vFA 0 t21 fun t22 =>
  vLoad none t22 h_1 fun t23 =>
  vNil t14 fun t25 =>
  vFA 0 t25 fun t26 =>
  vFA 1 t26 fun t27 =>
  vLoad none t27 h_1 fun t28 =>
  vBin Try.prog .sub 3 t23 t28 fun t29 =>
  vBin Try.prog .lss 3 t29 a2 fun t31 =>
  dIf t31 (R (.ret (.int .i64 61)) h_1)
  (vNil t14 fun t33 =>
  vFA 0 t33 fun t34 =>
  vFA 0 t34 fun t35 =>
  vLoad none t35 h_1 fun t36 =>
  vBin Try.prog .sub 3 t36 a2 fun t38 =>
  vNil t14 fun t39 =>
  vFA 0 t39 fun t40 =>
  vFA 0 t40 fun t41 =>
  vStore 1 t41 t38 h_1 fun h_2 =>
  R (.ret (.int .i64 0)) h_2)))
  (fun c h => R (.pan c) h)
theorem l29 (R : AEnd → PH → Prop) : LoopsOK Try.prog qf (ordOf o29) (fun c h => R (.pan c) h) noLoops c29 := noLoops_ok (by kernel_rfl)
theorem e29 (a0 a1 a2 : Value) (h : PH) (R : AEnd → PH → Prop) : denF Try.prog qf (ordOf o29) noLoops Try.f29.results.toList c29 #[a0, a1, a2] h R = sh29 a0 a1 a2 h R := by kernel_rfl
theorem k29 : codeOK Try.prog qf Try.f29.ntmps (ordOf o29) c29 = true := by kernel_rfl
theorem s29 : Try.f29.body = some c29 := by kernel_rfl
theorem call29 {a0 a1 a2 : Value} {h : PH} {R : AEnd → PH → Prop} (H : sh29 a0 a1 a2 h R) : ACalls Try.prog 29 #[a0, a1, a2] h R :=
  ACalls_of_den mixed Try.func29 s29 (by kernel_rfl) k29 (l29 R) (of_den (e29 a0 a1 a2 h R) H)

/- (*gavel/ledger.Ledger).Store -/
noncomputable def c30 : Code := bodyOf Try.f30
def o30 : List (Nat × List (Nat × List Nat)) := [(7, [(0, []), (1, []), (2, []), (3, []), (4, []), (5, []), (6, []), (7, []), (8, []), (9, []), (10, []), (11, []), (12, []), (13, [])])]
def sh30 (a0 a1 a2 a3 : Value) (h : PH) (R : AEnd → PH → Prop) : Prop :=
  vCall Try.prog 56 #[a0, a1, a2, a3] h (fun t18 h_1 =>
  vExt t18 0 fun t19 =>
  vExt t18 1 fun t20 =>
  vBin Try.prog .neq 29 t20 (.int .i64 0) fun t22 =>
  dIf t22 (R (.ret t20) h_1)
  (vCall Try.prog 14 #[a0] h_1 (fun t26 h_2 =>
  vExt t26 0 fun t27 =>
  vExt t26 1 fun t28 =>
  vNew #[.int .i64 0, .int .i64 0, .int .i64 0, .int .i64 0] 37 h_2 fun t12 h_3 =>
  vStore 4 t12 t28 h_3 fun h_4 =>
  vIxA 4 1 t12 a2 fun t30 =>
  vLoad none t30 h_4 fun t31 =>
  vBin Try.prog .add 3 t31 a3 fun t33 =>
  vBin Try.prog .gtr 3 t33 (.int .i64 1099511627776) fun t34 =>
  dIf t34 (R (.ret (.int .i64 62)) h_4)
  (vNil t19 fun t37 =>
  vFA 0 t37 fun t38 =>
  vFA 2 t38 fun t39 =>
  vIxA 4 1 t39 a2 fun t40 =>
  vLoad none t40 h_4 fun t41 =>
  vBin Try.prog .add 3 t41 a3 fun t43 =>
  vNil t19 fun t44 =>
  vFA 0 t44 fun t45 =>
  vFA 2 t45 fun t46 =>
  vIxA 4 1 t46 a2 fun t47 =>
  vStore 1 t47 t43 h_4 fun h_5 =>
  R (.ret (.int .i64 0)) h_5))
  (fun c h => R (.pan c) h)))
  (fun c h => R (.pan c) h)
theorem l30 (R : AEnd → PH → Prop) : LoopsOK Try.prog qf (ordOf o30) (fun c h => R (.pan c) h) noLoops c30 := noLoops_ok (by kernel_rfl)
theorem e30 (a0 a1 a2 a3 : Value) (h : PH) (R : AEnd → PH → Prop) : denF Try.prog qf (ordOf o30) noLoops Try.f30.results.toList c30 #[a0, a1, a2, a3] h R = sh30 a0 a1 a2 a3 h R := by kernel_rfl
theorem k30 : codeOK Try.prog qf Try.f30.ntmps (ordOf o30) c30 = true := by kernel_rfl
theorem s30 : Try.f30.body = some c30 := by kernel_rfl
theorem call30 {a0 a1 a2 a3 : Value} {h : PH} {R : AEnd → PH → Prop} (H : sh30 a0 a1 a2 a3 h R) : ACalls Try.prog 30 #[a0, a1, a2, a3] h R :=
  ACalls_of_den mixed Try.func30 s30 (by kernel_rfl) k30 (l30 R) (of_den (e30 a0 a1 a2 a3 h R) H)

/- (*gavel/ledger.Ledger).Fetch -/
noncomputable def c31 : Code := bodyOf Try.f31
def o31 : List (Nat × List (Nat × List Nat)) := [(4, [(0, []), (1, []), (2, []), (3, []), (4, []), (5, []), (6, []), (7, []), (8, []), (9, []), (10, []), (11, []), (12, []), (13, []), (14, []), (15, []), (16, [])]), (6, [(0, []), (1, []), (2, []), (3, []), (4, []), (5, []), (6, []), (7, []), (8, []), (9, []), (10, []), (11, []), (12, []), (13, [])])]
def sh31 (a0 a1 a2 a3 : Value) (h : PH) (R : AEnd → PH → Prop) : Prop :=
  vCall Try.prog 56 #[a0, a1, a2, a3] h (fun t16 h_1 =>
  vExt t16 0 fun t17 =>
  vExt t16 1 fun t18 =>
  vBin Try.prog .neq 29 t18 (.int .i64 0) fun t20 =>
  dIf t20 (R (.ret t18) h_1)
  (vNil t17 fun t24 =>
  vFA 0 t24 fun t25 =>
  vFA 2 t25 fun t26 =>
  vIxA 4 1 t26 a2 fun t27 =>
  vLoad none t27 h_1 fun t28 =>
  vNil t17 fun t31 =>
  vFA 0 t31 fun t32 =>
  vFA 6 t32 fun t33 =>
  vIxA 4 1 t33 a2 fun t34 =>
  vLoad none t34 h_1 fun t35 =>
  vBin Try.prog .sub 3 t28 t35 fun t36 =>
  vBin Try.prog .lss 3 t36 a3 fun t38 =>
  dIf t38 (R (.ret (.int .i64 61)) h_1)
  (vNil t17 fun t41 =>
  vFA 0 t41 fun t42 =>
  vFA 2 t42 fun t43 =>
  vIxA 4 1 t43 a2 fun t44 =>
  vLoad none t44 h_1 fun t45 =>
  vBin Try.prog .sub 3 t45 a3 fun t47 =>
  vNil t17 fun t48 =>
  vFA 0 t48 fun t49 =>
  vFA 2 t49 fun t50 =>
  vIxA 4 1 t50 a2 fun t51 =>
  vStore 1 t51 t47 h_1 fun h_2 =>
  R (.ret (.int .i64 0)) h_2)))
  (fun c h => R (.pan c) h)
theorem l31 (R : AEnd → PH → Prop) : LoopsOK Try.prog qf (ordOf o31) (fun c h => R (.pan c) h) noLoops c31 := noLoops_ok (by kernel_rfl)
theorem e31 (a0 a1 a2 a3 : Value) (h : PH) (R : AEnd → PH → Prop) : denF Try.prog qf (ordOf o31) noLoops Try.f31.results.toList c31 #[a0, a1, a2, a3] h R = sh31 a0 a1 a2 a3 h R := by kernel_rfl
theorem k31 : codeOK Try.prog qf Try.f31.ntmps (ordOf o31) c31 = true := by kernel_rfl
theorem s31 : Try.f31.body = some c31 := by kernel_rfl
theorem call31 {a0 a1 a2 a3 : Value} {h : PH} {R : AEnd → PH → Prop} (H : sh31 a0 a1 a2 a3 h R) : ACalls Try.prog 31 #[a0, a1, a2, a3] h R :=
  ACalls_of_den mixed Try.func31 s31 (by kernel_rfl) k31 (l31 R) (of_den (e31 a0 a1 a2 a3 h R) H)

end Go.Pw
/- The functions of the program, told as predicate transformers: printed by wip/tools/shprint.py; each is what the model makes of the function, by the kernel's reckoning. -/
set_option linter.unusedVariables false
set_option maxRecDepth 100000
namespace Go.Pw
open Go Go.Proofs
/- (*gavel/ledger.Ledger).Hold -/
noncomputable def c32 : Code := bodyOf Try.f32
def o32 : List (Nat × List (Nat × List Nat)) := [(4, [(0, []), (1, []), (2, []), (3, []), (4, []), (5, []), (6, []), (7, []), (8, []), (9, []), (10, []), (11, []), (12, [])])]
def sh32 (a0 a1 a2 : Value) (h : PH) (R : AEnd → PH → Prop) : Prop :=
  vCall Try.prog 56 #[a0, a1, (.int .i64 0), a2] h (fun t13 h_1 =>
  vExt t13 0 fun t14 =>
  vExt t13 1 fun t15 =>
  vBin Try.prog .neq 29 t15 (.int .i64 0) fun t17 =>
  dIf t17 (R (.ret t15) h_1)
  (vNil t14 fun t20 =>
  vFA 0 t20 fun t21 =>
  vFA 0 t21 fun t22 =>
  vLoad none t22 h_1 fun t23 =>
  vNil t14 fun t25 =>
  vFA 0 t25 fun t26 =>
  vFA 1 t26 fun t27 =>
  vLoad none t27 h_1 fun t28 =>
  vBin Try.prog .sub 3 t23 t28 fun t29 =>
  vBin Try.prog .lss 3 t29 a2 fun t31 =>
  dIf t31 (R (.ret (.int .i64 61)) h_1)
  (vNil t14 fun t33 =>
  vFA 0 t33 fun t34 =>
  vFA 1 t34 fun t35 =>
  vLoad none t35 h_1 fun t36 =>
  vBin Try.prog .add 3 t36 a2 fun t38 =>
  vNil t14 fun t39 =>
  vFA 0 t39 fun t40 =>
  vFA 1 t40 fun t41 =>
  vStore 1 t41 t38 h_1 fun h_2 =>
  R (.ret (.int .i64 0)) h_2)))
  (fun c h => R (.pan c) h)
theorem l32 (R : AEnd → PH → Prop) : LoopsOK Try.prog qf (ordOf o32) (fun c h => R (.pan c) h) noLoops c32 := noLoops_ok (by kernel_rfl)
theorem e32 (a0 a1 a2 : Value) (h : PH) (R : AEnd → PH → Prop) : denF Try.prog qf (ordOf o32) noLoops Try.f32.results.toList c32 #[a0, a1, a2] h R = sh32 a0 a1 a2 h R := by kernel_rfl
theorem k32 : codeOK Try.prog qf Try.f32.ntmps (ordOf o32) c32 = true := by kernel_rfl
theorem s32 : Try.f32.body = some c32 := by kernel_rfl
theorem call32 {a0 a1 a2 : Value} {h : PH} {R : AEnd → PH → Prop} (H : sh32 a0 a1 a2 h R) : ACalls Try.prog 32 #[a0, a1, a2] h R :=
  ACalls_of_den mixed Try.func32 s32 (by kernel_rfl) k32 (l32 R) (of_den (e32 a0 a1 a2 h R) H)

/- (*gavel/ledger.Ledger).Free -/
noncomputable def c33 : Code := bodyOf Try.f33
def o33 : List (Nat × List (Nat × List Nat)) := []
def sh33 (a0 a1 a2 : Value) (h : PH) (R : AEnd → PH → Prop) : Prop :=
  vCall Try.prog 56 #[a0, a1, (.int .i64 0), a2] h (fun t13 h_1 =>
  vExt t13 0 fun t14 =>
  vExt t13 1 fun t15 =>
  vBin Try.prog .neq 29 t15 (.int .i64 0) fun t17 =>
  dIf t17 (R (.ret t15) h_1)
  (vNil t14 fun t20 =>
  vFA 0 t20 fun t21 =>
  vFA 1 t21 fun t22 =>
  vLoad none t22 h_1 fun t23 =>
  vBin Try.prog .lss 3 t23 a2 fun t25 =>
  dIf t25 (R (.ret (.int .i64 61)) h_1)
  (vNil t14 fun t27 =>
  vFA 0 t27 fun t28 =>
  vFA 1 t28 fun t29 =>
  vLoad none t29 h_1 fun t30 =>
  vBin Try.prog .sub 3 t30 a2 fun t32 =>
  vNil t14 fun t33 =>
  vFA 0 t33 fun t34 =>
  vFA 1 t34 fun t35 =>
  vStore 1 t35 t32 h_1 fun h_2 =>
  R (.ret (.int .i64 0)) h_2)))
  (fun c h => R (.pan c) h)
theorem l33 (R : AEnd → PH → Prop) : LoopsOK Try.prog qf (ordOf o33) (fun c h => R (.pan c) h) noLoops c33 := noLoops_ok (by kernel_rfl)
theorem e33 (a0 a1 a2 : Value) (h : PH) (R : AEnd → PH → Prop) : denF Try.prog qf (ordOf o33) noLoops Try.f33.results.toList c33 #[a0, a1, a2] h R = sh33 a0 a1 a2 h R := by kernel_rfl
theorem k33 : codeOK Try.prog qf Try.f33.ntmps (ordOf o33) c33 = true := by kernel_rfl
theorem s33 : Try.f33.body = some c33 := by kernel_rfl
theorem call33 {a0 a1 a2 : Value} {h : PH} {R : AEnd → PH → Prop} (H : sh33 a0 a1 a2 h R) : ACalls Try.prog 33 #[a0, a1, a2] h R :=
  ACalls_of_den mixed Try.func33 s33 (by kernel_rfl) k33 (l33 R) (of_den (e33 a0 a1 a2 h R) H)

/- (*gavel/ledger.Ledger).Lock -/
noncomputable def c34 : Code := bodyOf Try.f34
def o34 : List (Nat × List (Nat × List Nat)) := [(4, [(0, []), (1, []), (2, []), (3, []), (4, []), (5, []), (6, []), (7, []), (8, []), (9, []), (10, []), (11, []), (12, []), (13, []), (14, []), (15, []), (16, [])]), (6, [(0, []), (1, []), (2, []), (3, []), (4, []), (5, []), (6, []), (7, []), (8, []), (9, []), (10, []), (11, []), (12, []), (13, [])])]
def sh34 (a0 a1 a2 a3 : Value) (h : PH) (R : AEnd → PH → Prop) : Prop :=
  vCall Try.prog 56 #[a0, a1, a2, a3] h (fun t16 h_1 =>
  vExt t16 0 fun t17 =>
  vExt t16 1 fun t18 =>
  vBin Try.prog .neq 29 t18 (.int .i64 0) fun t20 =>
  dIf t20 (R (.ret t18) h_1)
  (vNil t17 fun t24 =>
  vFA 0 t24 fun t25 =>
  vFA 2 t25 fun t26 =>
  vIxA 4 1 t26 a2 fun t27 =>
  vLoad none t27 h_1 fun t28 =>
  vNil t17 fun t31 =>
  vFA 0 t31 fun t32 =>
  vFA 6 t32 fun t33 =>
  vIxA 4 1 t33 a2 fun t34 =>
  vLoad none t34 h_1 fun t35 =>
  vBin Try.prog .sub 3 t28 t35 fun t36 =>
  vBin Try.prog .lss 3 t36 a3 fun t38 =>
  dIf t38 (R (.ret (.int .i64 61)) h_1)
  (vNil t17 fun t41 =>
  vFA 0 t41 fun t42 =>
  vFA 6 t42 fun t43 =>
  vIxA 4 1 t43 a2 fun t44 =>
  vLoad none t44 h_1 fun t45 =>
  vBin Try.prog .add 3 t45 a3 fun t47 =>
  vNil t17 fun t48 =>
  vFA 0 t48 fun t49 =>
  vFA 6 t49 fun t50 =>
  vIxA 4 1 t50 a2 fun t51 =>
  vStore 1 t51 t47 h_1 fun h_2 =>
  R (.ret (.int .i64 0)) h_2)))
  (fun c h => R (.pan c) h)
theorem l34 (R : AEnd → PH → Prop) : LoopsOK Try.prog qf (ordOf o34) (fun c h => R (.pan c) h) noLoops c34 := noLoops_ok (by kernel_rfl)
theorem e34 (a0 a1 a2 a3 : Value) (h : PH) (R : AEnd → PH → Prop) : denF Try.prog qf (ordOf o34) noLoops Try.f34.results.toList c34 #[a0, a1, a2, a3] h R = sh34 a0 a1 a2 a3 h R := by kernel_rfl
theorem k34 : codeOK Try.prog qf Try.f34.ntmps (ordOf o34) c34 = true := by kernel_rfl
theorem s34 : Try.f34.body = some c34 := by kernel_rfl
theorem call34 {a0 a1 a2 a3 : Value} {h : PH} {R : AEnd → PH → Prop} (H : sh34 a0 a1 a2 a3 h R) : ACalls Try.prog 34 #[a0, a1, a2, a3] h R :=
  ACalls_of_den mixed Try.func34 s34 (by kernel_rfl) k34 (l34 R) (of_den (e34 a0 a1 a2 a3 h R) H)

/- (*gavel/ledger.Ledger).Unlock -/
noncomputable def c35 : Code := bodyOf Try.f35
def o35 : List (Nat × List (Nat × List Nat)) := [(6, [(0, []), (1, []), (2, []), (3, []), (4, []), (5, []), (6, []), (7, []), (8, []), (9, []), (10, []), (11, []), (12, []), (13, [])])]
def sh35 (a0 a1 a2 a3 : Value) (h : PH) (R : AEnd → PH → Prop) : Prop :=
  vCall Try.prog 56 #[a0, a1, a2, a3] h (fun t16 h_1 =>
  vExt t16 0 fun t17 =>
  vExt t16 1 fun t18 =>
  vBin Try.prog .neq 29 t18 (.int .i64 0) fun t20 =>
  dIf t20 (R (.ret t18) h_1)
  (vNil t17 fun t24 =>
  vFA 0 t24 fun t25 =>
  vFA 6 t25 fun t26 =>
  vIxA 4 1 t26 a2 fun t27 =>
  vLoad none t27 h_1 fun t28 =>
  vBin Try.prog .lss 3 t28 a3 fun t30 =>
  dIf t30 (R (.ret (.int .i64 61)) h_1)
  (vNil t17 fun t33 =>
  vFA 0 t33 fun t34 =>
  vFA 6 t34 fun t35 =>
  vIxA 4 1 t35 a2 fun t36 =>
  vLoad none t36 h_1 fun t37 =>
  vBin Try.prog .sub 3 t37 a3 fun t39 =>
  vNil t17 fun t40 =>
  vFA 0 t40 fun t41 =>
  vFA 6 t41 fun t42 =>
  vIxA 4 1 t42 a2 fun t43 =>
  vStore 1 t43 t39 h_1 fun h_2 =>
  R (.ret (.int .i64 0)) h_2)))
  (fun c h => R (.pan c) h)
theorem l35 (R : AEnd → PH → Prop) : LoopsOK Try.prog qf (ordOf o35) (fun c h => R (.pan c) h) noLoops c35 := noLoops_ok (by kernel_rfl)
theorem e35 (a0 a1 a2 a3 : Value) (h : PH) (R : AEnd → PH → Prop) : denF Try.prog qf (ordOf o35) noLoops Try.f35.results.toList c35 #[a0, a1, a2, a3] h R = sh35 a0 a1 a2 a3 h R := by kernel_rfl
theorem k35 : codeOK Try.prog qf Try.f35.ntmps (ordOf o35) c35 = true := by kernel_rfl
theorem s35 : Try.f35.body = some c35 := by kernel_rfl
theorem call35 {a0 a1 a2 a3 : Value} {h : PH} {R : AEnd → PH → Prop} (H : sh35 a0 a1 a2 a3 h R) : ACalls Try.prog 35 #[a0, a1, a2, a3] h R :=
  ACalls_of_den mixed Try.func35 s35 (by kernel_rfl) k35 (l35 R) (of_den (e35 a0 a1 a2 a3 h R) H)

/- (*gavel/ledger.Ledger).Move -/
noncomputable def c36 : Code := bodyOf Try.f36
def o36 : List (Nat × List (Nat × List Nat)) := []
def sh36 (a0 a1 a2 a3 : Value) (h : PH) (R : AEnd → PH → Prop) : Prop :=
  vCall Try.prog 39 #[a0, a1] h (fun t17 h_1 =>
  vExt t17 0 fun t18 =>
  vExt t17 1 fun t19 =>
  vBin Try.prog .neq 29 t19 (.int .i64 0) fun t21 =>
  dIf t21 (R (.ret t19) h_1)
  (vCall Try.prog 56 #[a0, a2, (.int .i64 0), a3] h_1 (fun t27 h_2 =>
  vExt t27 0 fun t28 =>
  vExt t27 1 fun t29 =>
  vBin Try.prog .neq 29 t29 (.int .i64 0) fun t31 =>
  dIf t31 (R (.ret t29) h_2)
  (vNil a0 fun t34 =>
  vFA 1 t34 fun t35 =>
  vLoad none t35 h_2 fun t36 =>
  vIxS 12 t36 a1 fun t38 =>
  vNil t38 fun t40 =>
  vFA 0 t40 fun t41 =>
  vFA 1 t41 fun t42 =>
  vLoad none t42 h_2 fun t43 =>
  vBin Try.prog .lss 3 t43 a3 fun t45 =>
  dIf t45 (R (.ret (.int .i64 61)) h_2)
  (vNil t38 fun t47 =>
  vFA 0 t47 fun t48 =>
  vFA 1 t48 fun t49 =>
  vLoad none t49 h_2 fun t50 =>
  vBin Try.prog .sub 3 t50 a3 fun t52 =>
  vNil t38 fun t53 =>
  vFA 0 t53 fun t54 =>
  vFA 1 t54 fun t55 =>
  vStore 1 t55 t52 h_2 fun h_3 =>
  vNil t38 fun t57 =>
  vFA 0 t57 fun t58 =>
  vFA 0 t58 fun t59 =>
  vLoad none t59 h_3 fun t60 =>
  vBin Try.prog .sub 3 t60 a3 fun t62 =>
  vNil t38 fun t63 =>
  vFA 0 t63 fun t64 =>
  vFA 0 t64 fun t65 =>
  vStore 1 t65 t62 h_3 fun h_4 =>
  vNil t28 fun t67 =>
  vFA 0 t67 fun t68 =>
  vFA 0 t68 fun t69 =>
  vLoad none t69 h_4 fun t70 =>
  vBin Try.prog .add 3 t70 a3 fun t72 =>
  vNil t28 fun t73 =>
  vFA 0 t73 fun t74 =>
  vFA 0 t74 fun t75 =>
  vStore 1 t75 t72 h_4 fun h_5 =>
  R (.ret (.int .i64 0)) h_5)))
  (fun c h => R (.pan c) h)))
  (fun c h => R (.pan c) h)
theorem l36 (R : AEnd → PH → Prop) : LoopsOK Try.prog qf (ordOf o36) (fun c h => R (.pan c) h) noLoops c36 := noLoops_ok (by kernel_rfl)
theorem e36 (a0 a1 a2 a3 : Value) (h : PH) (R : AEnd → PH → Prop) : denF Try.prog qf (ordOf o36) noLoops Try.f36.results.toList c36 #[a0, a1, a2, a3] h R = sh36 a0 a1 a2 a3 h R := by kernel_rfl
theorem k36 : codeOK Try.prog qf Try.f36.ntmps (ordOf o36) c36 = true := by kernel_rfl
theorem s36 : Try.f36.body = some c36 := by kernel_rfl
theorem call36 {a0 a1 a2 a3 : Value} {h : PH} {R : AEnd → PH → Prop} (H : sh36 a0 a1 a2 a3 h R) : ACalls Try.prog 36 #[a0, a1, a2, a3] h R :=
  ACalls_of_den mixed Try.func36 s36 (by kernel_rfl) k36 (l36 R) (of_den (e36 a0 a1 a2 a3 h R) H)

/- (*gavel/ledger.Ledger).Hand -/
noncomputable def c37 : Code := bodyOf Try.f37
def o37 : List (Nat × List (Nat × List Nat)) := [(10, [(0, []), (1, []), (2, []), (3, []), (4, []), (5, []), (6, []), (7, []), (8, []), (9, []), (10, []), (11, []), (12, []), (13, [])]), (11, [(0, []), (1, []), (2, []), (3, []), (4, []), (5, []), (6, []), (7, []), (8, []), (9, []), (10, []), (11, []), (12, []), (13, [])]), (12, [(0, []), (1, []), (2, []), (3, []), (4, []), (5, []), (6, []), (7, []), (8, []), (9, []), (10, []), (11, []), (12, []), (13, [])])]
def sh37 (a0 a1 a2 a3 a4 : Value) (h : PH) (R : AEnd → PH → Prop) : Prop :=
  vCall Try.prog 39 #[a0, a1] h (fun t19 h_1 =>
  vExt t19 0 fun t20 =>
  vExt t19 1 fun t21 =>
  vBin Try.prog .neq 29 t21 (.int .i64 0) fun t23 =>
  dIf t23 (R (.ret t21) h_1)
  (vCall Try.prog 56 #[a0, a2, a3, a4] h_1 (fun t30 h_2 =>
  vExt t30 0 fun t31 =>
  vExt t30 1 fun t32 =>
  vBin Try.prog .neq 29 t32 (.int .i64 0) fun t34 =>
  dIf t34 (R (.ret t32) h_2)
  (vNil a0 fun t37 =>
  vFA 1 t37 fun t38 =>
  vLoad none t38 h_2 fun t39 =>
  vIxS 12 t39 a1 fun t41 =>
  vNil t41 fun t44 =>
  vFA 0 t44 fun t45 =>
  vFA 6 t45 fun t46 =>
  vIxA 4 1 t46 a3 fun t47 =>
  vLoad none t47 h_2 fun t48 =>
  vBin Try.prog .lss 3 t48 a4 fun t50 =>
  dIf t50 (R (.ret (.int .i64 61)) h_2)
  (vNil t41 fun t53 =>
  vFA 0 t53 fun t54 =>
  vFA 6 t54 fun t55 =>
  vIxA 4 1 t55 a3 fun t56 =>
  vLoad none t56 h_2 fun t57 =>
  vBin Try.prog .sub 3 t57 a4 fun t59 =>
  vNil t41 fun t60 =>
  vFA 0 t60 fun t61 =>
  vFA 6 t61 fun t62 =>
  vIxA 4 1 t62 a3 fun t63 =>
  vStore 1 t63 t59 h_2 fun h_3 =>
  vNil t41 fun t66 =>
  vFA 0 t66 fun t67 =>
  vFA 2 t67 fun t68 =>
  vIxA 4 1 t68 a3 fun t69 =>
  vLoad none t69 h_3 fun t70 =>
  vBin Try.prog .sub 3 t70 a4 fun t72 =>
  vNil t41 fun t73 =>
  vFA 0 t73 fun t74 =>
  vFA 2 t74 fun t75 =>
  vIxA 4 1 t75 a3 fun t76 =>
  vStore 1 t76 t72 h_3 fun h_4 =>
  vNil t31 fun t79 =>
  vFA 0 t79 fun t80 =>
  vFA 2 t80 fun t81 =>
  vIxA 4 1 t81 a3 fun t82 =>
  vLoad none t82 h_4 fun t83 =>
  vBin Try.prog .add 3 t83 a4 fun t85 =>
  vNil t31 fun t86 =>
  vFA 0 t86 fun t87 =>
  vFA 2 t87 fun t88 =>
  vIxA 4 1 t88 a3 fun t89 =>
  vStore 1 t89 t85 h_4 fun h_5 =>
  R (.ret (.int .i64 0)) h_5)))
  (fun c h => R (.pan c) h)))
  (fun c h => R (.pan c) h)
theorem l37 (R : AEnd → PH → Prop) : LoopsOK Try.prog qf (ordOf o37) (fun c h => R (.pan c) h) noLoops c37 := noLoops_ok (by kernel_rfl)
theorem e37 (a0 a1 a2 a3 a4 : Value) (h : PH) (R : AEnd → PH → Prop) : denF Try.prog qf (ordOf o37) noLoops Try.f37.results.toList c37 #[a0, a1, a2, a3, a4] h R = sh37 a0 a1 a2 a3 a4 h R := by kernel_rfl
theorem k37 : codeOK Try.prog qf Try.f37.ntmps (ordOf o37) c37 = true := by kernel_rfl
theorem s37 : Try.f37.body = some c37 := by kernel_rfl
theorem call37 {a0 a1 a2 a3 a4 : Value} {h : PH} {R : AEnd → PH → Prop} (H : sh37 a0 a1 a2 a3 a4 h R) : ACalls Try.prog 37 #[a0, a1, a2, a3, a4] h R :=
  ACalls_of_den mixed Try.func37 s37 (by kernel_rfl) k37 (l37 R) (of_den (e37 a0 a1 a2 a3 a4 h R) H)

/- (*gavel/ledger.Ledger).Mark -/
noncomputable def c38 : Code := bodyOf Try.f38
def o38 : List (Nat × List (Nat × List Nat)) := []
def sh38 (a0 a1 a2 a3 : Value) (h : PH) (R : AEnd → PH → Prop) : Prop :=
  vCall Try.prog 39 #[a0, a1] h (fun t14 h_1 =>
  vExt t14 0 fun t15 =>
  vExt t14 1 fun t16 =>
  vBin Try.prog .neq 29 t16 (.int .i64 0) fun t18 =>
  dIf t18 (R (.ret t16) h_1)
  (vBin Try.prog .lss 3 a2 (.int .i64 1) fun t21 =>
  gq (boolOf t21) false (fun K =>
  K a2 h_1)
  (fun t23 h_2 =>
  gq (boolOf t21) false (fun K_1 =>
  vBin Try.prog .gtr 3 t23 (.int .i64 1099511627776) fun u =>
  K_1 u h_2)
  (fun t24 h_3 =>
  vPick t21 (.bool true) t24 fun t25 =>
  gq (boolOf t25) false (fun K_2 =>
  K_2 a3 h_3)
  (fun t27 h_4 =>
  gq (boolOf t25) false (fun K_3 =>
  vLenStr t27 fun u_1 =>
  K_3 u_1 h_4)
  (fun t28 h_5 =>
  gq (boolOf t25) false (fun K_4 =>
  vBin Try.prog .gtr 3 t28 (.int .i64 256) fun u_2 =>
  K_4 u_2 h_5)
  (fun t29 h_6 =>
  vPick t25 (.bool true) t29 fun t30 =>
  dIf t30 (R (.ret (.int .i64 1)) h_6)
  (vNil t15 fun t33 =>
  vFA 10 t33 fun t34 =>
  vLoad none t34 h_6 fun t35 =>
  vBin Try.prog .leq 3 a2 t35 fun t36 =>
  dIf t36 (R (.ret (.int .i64 91)) h_6)
  (vNil t15 fun t41 =>
  vFA 10 t41 fun t42 =>
  vStore 1 t42 a2 h_6 fun h_7 =>
  vNil t15 fun t43 =>
  vFA 11 t43 fun t44 =>
  vStore 1 t44 a3 h_7 fun h_8 =>
  R (.ret (.int .i64 0)) h_8))) h_5) h_4) h_3) h_2) h_1))
  (fun c h => R (.pan c) h)
theorem l38 (R : AEnd → PH → Prop) : LoopsOK Try.prog qf (ordOf o38) (fun c h => R (.pan c) h) noLoops c38 := noLoops_ok (by kernel_rfl)
theorem e38 (a0 a1 a2 a3 : Value) (h : PH) (R : AEnd → PH → Prop) : denF Try.prog qf (ordOf o38) noLoops Try.f38.results.toList c38 #[a0, a1, a2, a3] h R = sh38 a0 a1 a2 a3 h R := by kernel_rfl
theorem k38 : codeOK Try.prog qf Try.f38.ntmps (ordOf o38) c38 = true := by kernel_rfl
theorem s38 : Try.f38.body = some c38 := by kernel_rfl
theorem call38 {a0 a1 a2 a3 : Value} {h : PH} {R : AEnd → PH → Prop} (H : sh38 a0 a1 a2 a3 h R) : ACalls Try.prog 38 #[a0, a1, a2, a3] h R :=
  ACalls_of_den mixed Try.func38 s38 (by kernel_rfl) k38 (l38 R) (of_den (e38 a0 a1 a2 a3 h R) H)

/- (*gavel/ledger.Ledger).find -/
noncomputable def c39 : Code := bodyOf Try.f39
def o39 : List (Nat × List (Nat × List Nat)) := []
def sh39 (a0 a1 : Value) (h : PH) (R : AEnd → PH → Prop) : Prop :=
  vBin Try.prog .eql 25 a0 (.pointer none) fun t7 =>
  dIf t7 (R (.ret (.tuple #[(.pointer none), (.int .i64 1)])) h)
  (vBin Try.prog .lss 3 a1 (.int .i64 0) fun t9 =>
  gq (boolOf t9) false (fun K =>
  K a1 h)
  (fun t11 h_1 =>
  gq (boolOf t9) false (fun K_1 =>
  K_1 a0 h_1)
  (fun t12 h_2 =>
  gq (boolOf t9) false (fun K_2 =>
  vNil t12 fun u =>
  K_2 u h_2)
  (fun t13 h_3 =>
  gq (boolOf t9) false (fun K_3 =>
  vFA 1 t13 fun u_1 =>
  K_3 u_1 h_3)
  (fun t14 h_4 =>
  gq (boolOf t9) false (fun K_4 =>
  vLoad none t14 h_4 fun u_2 =>
  K_4 u_2 h_4)
  (fun t15 h_5 =>
  gq (boolOf t9) false (fun K_5 =>
  vLenS t15 fun u_3 =>
  K_5 u_3 h_5)
  (fun t16 h_6 =>
  gq (boolOf t9) false (fun K_6 =>
  vBin Try.prog .geq 3 t11 t16 fun u_4 =>
  K_6 u_4 h_6)
  (fun t17 h_7 =>
  vPick t9 (.bool true) t17 fun t18 =>
  dIf t18 (R (.ret (.tuple #[(.pointer none), (.int .i64 60)])) h_7)
  (vNil a0 fun t20 =>
  vFA 1 t20 fun t21 =>
  vLoad none t21 h_7 fun t22 =>
  vIxS 12 t22 a1 fun t24 =>
  R (.ret (.tuple #[t24, (.int .i64 0)])) h_7)) h_6) h_5) h_4) h_3) h_2) h_1) h)
theorem l39 (R : AEnd → PH → Prop) : LoopsOK Try.prog qf (ordOf o39) (fun c h => R (.pan c) h) noLoops c39 := noLoops_ok (by kernel_rfl)
theorem e39 (a0 a1 : Value) (h : PH) (R : AEnd → PH → Prop) : denF Try.prog qf (ordOf o39) noLoops Try.f39.results.toList c39 #[a0, a1] h R = sh39 a0 a1 h R := by kernel_rfl
theorem k39 : codeOK Try.prog qf Try.f39.ntmps (ordOf o39) c39 = true := by kernel_rfl
theorem s39 : Try.f39.body = some c39 := by kernel_rfl
theorem call39 {a0 a1 : Value} {h : PH} {R : AEnd → PH → Prop} (H : sh39 a0 a1 h R) : ACalls Try.prog 39 #[a0, a1] h R :=
  ACalls_of_den mixed Try.func39 s39 (by kernel_rfl) k39 (l39 R) (of_den (e39 a0 a1 h R) H)

/- (*gavel/ledger.Ledger).read -/
noncomputable def c40 : Code := bodyOf Try.f40
def o40 : List (Nat × List (Nat × List Nat)) := [(7, [(0, []), (1, []), (2, []), (4, []), (5, []), (6, []), (3, []), (7, []), (8, [])]), (12, [(0, []), (1, []), (2, []), (4, []), (5, []), (6, []), (3, []), (7, []), (8, [])]), (15, [(0, []), (1, []), (2, []), (3, []), (4, []), (5, []), (6, []), (7, []), (8, []), (9, []), (10, []), (11, []), (12, []), (13, []), (14, []), (15, []), (16, []), (17, []), (18, []), (19, []), (20, []), (21, []), (22, []), (23, []), (24, []), (25, []), (26, []), (27, []), (28, []), (29, []), (30, []), (31, []), (32, []), (33, []), (34, []), (35, []), (36, [])])]
def b40_5 (Kp : List PanicEntry → PH → Prop) (x0 : (Value × Value × Value × Value × Value × Value) → PH → Prop) (f : Value × Value × Value × Value × Value × Value × Value) (kn : (Value × Value × Value × Value × Value × Value × Value) → Value → PH → Prop) (s : Value) (h : PH) : Prop :=
  vBin Try.prog .lss 3 s f.2.2.2.2.2.2 fun t39 =>
  dIf t39 (vNil f.2.1 fun t45 =>
  vFA 0 t45 fun t46 =>
  vFA 2 t46 fun t47 =>
  vCallV Try.prog f.2.2.2.2.2.1 #[] h (fun t44 h_1 =>
  vIxA 4 1 t47 s fun t48 =>
  vStore 1 t48 t44 h_1 fun h_2 =>
  vBin Try.prog .add 3 s (.int .i64 1) fun t49 =>
  kn f t49 h_2)
  Kp)
  (x0 (f.1, f.2.1, f.2.2.1, f.2.2.2.1, f.2.2.2.2.1, f.2.2.2.2.2.1) h)

def b40_10 (Kp : List PanicEntry → PH → Prop) (x2 : (Value × Value × Value × Value) → PH → Prop) (f : Value × Value × Value × Value × Value × Value) (kn : (Value × Value × Value × Value × Value × Value) → Value → PH → Prop) (s : Value) (h : PH) : Prop :=
  vBin Try.prog .lss 3 s f.2.2.2.2.2 fun t55 =>
  dIf t55 (vNil f.1 fun t61 =>
  vFA 0 t61 fun t62 =>
  vFA 6 t62 fun t63 =>
  vCallV Try.prog f.2.2.2.2.1 #[] h (fun t60 h_1 =>
  vIxA 4 1 t63 s fun t64 =>
  vStore 1 t64 t60 h_1 fun h_2 =>
  vBin Try.prog .add 3 s (.int .i64 1) fun t65 =>
  kn f t65 h_2)
  Kp)
  (x2 (f.1, f.2.1, f.2.2.1, f.2.2.2.1) h)

def b40_18 (Kp : List PanicEntry → PH → Prop) (x4 : (Value × Value × Value) → PH → Prop) (xr : (Value × Value × Value) → PH → Prop) (f : Value × Value × Value) (kn : (Value × Value × Value) → (Value × Value) → PH → Prop) (s : Value × Value) (h : PH) : Prop :=
  vBin Try.prog .lss 3 s.2 (.int .i64 4) fun t116 =>
  dIf t116 (vIxAg none 4 1 f.2.2 s.2 fun t118 =>
  vNil f.1 fun t121 =>
  vFA 0 t121 fun t122 =>
  vFA 6 t122 fun t123 =>
  vIxA 4 1 t123 s.2 fun t124 =>
  vLoad none t124 h fun t125 =>
  vBin Try.prog .gtr 3 t125 t118 fun t127 =>
  dIf t127 (xr (f.1, (.bool false), f.2.1) h)
  (vBin Try.prog .add 3 s.2 (.int .i64 1) fun t128 =>
  kn f (s.1, t128) h))
  (x4 (f.1, s.1, f.2.1) h)

def sh40 (a0 a1 a2 : Value) (h : PH) (R : AEnd → PH → Prop) : Prop :=
  vNew (Value.cells a2) 9 h fun t5 h_1 =>
  vNew #[.int .i64 0] 3 h_1 fun t7 h_2 =>
  vStore 1 t7 (.int .i64 0) h_2 fun h_3 =>
  vFunc (.func 57) #[] #[t5, t7] fun t16 =>
  vCallV Try.prog t16 #[] h_3 (fun t21 h_4 =>
  vCallV Try.prog t16 #[] h_4 (fun t23 h_5 =>
  vCallV Try.prog t16 #[] h_5 (fun t25 h_6 =>
  vNil a1 fun t26 =>
  vFA 10 t26 fun t27 =>
  vStore 1 t27 t21 h_6 fun h_7 =>
  vNil a1 fun t28 =>
  vFA 0 t28 fun t29 =>
  vFA 0 t29 fun t30 =>
  vStore 1 t30 t23 h_7 fun h_8 =>
  vNil a1 fun t31 =>
  vFA 0 t31 fun t32 =>
  vFA 1 t32 fun t33 =>
  vStore 1 t33 t25 h_8 fun h_9 =>
  vNil a0 fun t35 =>
  vFA 0 t35 fun t36 =>
  vLoad none t36 h_9 fun t37 =>
  lf (b40_5 (fun c h => R (.pan c) h) (fun v h => exq (fun ρ => (ρ 0, ρ 1, ρ 5, ρ 6, ρ 7, ρ 8)) v (fun r h_10 =>
  vNil (r 0) fun t51 =>
  vFA 0 t51 fun t52 =>
  vLoad none t52 h_10 fun t53 =>
  lf (b40_10 (fun c h => R (.pan c) h) (fun v h => exq (fun ρ => (ρ 1, ρ 5, ρ 6, ρ 7)) v (fun r_1 h_11 =>
  vLoad none (r_1 5) h_11 fun t67 =>
  vLoad none (r_1 7) h_11 fun t68 =>
  vCall Try.prog 59 #[t67, t68] h_11 (fun t69 h_12 =>
  vExt t69 0 fun t70 =>
  vExt t69 1 fun t71 =>
  vExt t69 2 fun t72 =>
  vBin Try.prog .neq 29 t72 (.int .i64 0) fun t74 =>
  gq (boolOf t74) false (fun K =>
  K t71 h_12)
  (fun t76 h_13 =>
  gq (boolOf t74) false (fun K_1 =>
  vLoad none (r_1 5) h_13 fun u =>
  K_1 u h_13)
  (fun t77 h_14 =>
  gq (boolOf t74) false (fun K_2 =>
  vLenStr t77 fun u_1 =>
  K_2 u_1 h_14)
  (fun t78 h_15 =>
  gq (boolOf t74) false (fun K_3 =>
  vBin Try.prog .neq 3 t76 t78 fun u_2 =>
  K_3 u_2 h_15)
  (fun t79 h_16 =>
  vPick t74 (.bool true) t79 fun t80 =>
  gq (boolOf t80) false (fun K_4 =>
  K_4 t70 h_16)
  (fun t82 h_17 =>
  gq (boolOf t80) false (fun K_5 =>
  vLenStr t82 fun u_3 =>
  K_5 u_3 h_17)
  (fun t83 h_18 =>
  gq (boolOf t80) false (fun K_6 =>
  vBin Try.prog .gtr 3 t83 (.int .i64 256) fun u_4 =>
  K_6 u_4 h_18)
  (fun t84 h_19 =>
  vPick t80 (.bool true) t84 fun t85 =>
  gq (boolOf t85) false (fun K_7 =>
  K_7 (r_1 1) h_19)
  (fun t87 h_20 =>
  gq (boolOf t85) false (fun K_8 =>
  vNil t87 fun u_5 =>
  K_8 u_5 h_20)
  (fun t88 h_21 =>
  gq (boolOf t85) false (fun K_9 =>
  vFA 0 t88 fun u_6 =>
  K_9 u_6 h_21)
  (fun t89 h_22 =>
  gq (boolOf t85) false (fun K_10 =>
  vFA 1 t89 fun u_7 =>
  K_10 u_7 h_22)
  (fun t90 h_23 =>
  gq (boolOf t85) false (fun K_11 =>
  vLoad none t90 h_23 fun u_8 =>
  K_11 u_8 h_23)
  (fun t91 h_24 =>
  gq (boolOf t85) false (fun K_12 =>
  K_12 (r_1 1) h_24)
  (fun t92 h_25 =>
  gq (boolOf t85) false (fun K_13 =>
  vNil t92 fun u_9 =>
  K_13 u_9 h_25)
  (fun t93 h_26 =>
  gq (boolOf t85) false (fun K_14 =>
  vFA 0 t93 fun u_10 =>
  K_14 u_10 h_26)
  (fun t94 h_27 =>
  gq (boolOf t85) false (fun K_15 =>
  vFA 0 t94 fun u_11 =>
  K_15 u_11 h_27)
  (fun t95 h_28 =>
  gq (boolOf t85) false (fun K_16 =>
  vLoad none t95 h_28 fun u_12 =>
  K_16 u_12 h_28)
  (fun t96 h_29 =>
  gq (boolOf t85) false (fun K_17 =>
  vBin Try.prog .gtr 3 t91 t96 fun u_13 =>
  K_17 u_13 h_29)
  (fun t97 h_30 =>
  vPick t85 (.bool true) t97 fun t98 =>
  gq (boolOf t98) false (fun K_18 =>
  K_18 (r_1 1) h_30)
  (fun t100 h_31 =>
  gq (boolOf t98) false (fun K_19 =>
  vNil t100 fun u_14 =>
  K_19 u_14 h_31)
  (fun t101 h_32 =>
  gq (boolOf t98) false (fun K_20 =>
  vFA 10 t101 fun u_15 =>
  K_20 u_15 h_32)
  (fun t102 h_33 =>
  gq (boolOf t98) false (fun K_21 =>
  vLoad none t102 h_33 fun u_16 =>
  K_21 u_16 h_33)
  (fun t103 h_34 =>
  gq (boolOf t98) false (fun K_22 =>
  vBin Try.prog .eql 3 t103 (.int .i64 0) fun u_17 =>
  K_22 u_17 h_34)
  (fun t104 h_35 =>
  gq (boolOf t98) false (fun K_23 =>
  K_23 t104 h_35)
  (fun t105 h_36 =>
  gq (boolOf t105) true (fun K_24 =>
  K_24 t70 h_36)
  (fun t106 h_37 =>
  gq (boolOf t105) true (fun K_25 =>
  vBin Try.prog .neq 9 t106 (.string ⟨#[]⟩) fun u_18 =>
  K_25 u_18 h_37)
  (fun t107 h_38 =>
  gq (boolOf t98) false (fun K_26 =>
  vPick t105 t107 (.bool false) fun u_19 =>
  K_26 u_19 h_38)
  (fun t108 h_39 =>
  vPick t98 (.bool true) t108 fun t109 =>
  dIf t109 (R (.ret (.bool false)) h_39)
  (vNil (r_1 1) fun t111 =>
  vFA 0 t111 fun t112 =>
  vFA 2 t112 fun t113 =>
  vLoad (some 4) t113 h_39 fun t114 =>
  lf (b40_18 (fun c h => R (.pan c) h) (fun v h => exq (fun ρ => (ρ 1, ρ 6, ρ 11)) v (fun r_2 h_40 =>
  vNil (r_2 1) fun t131 =>
  vFA 11 t131 fun t132 =>
  vStore 1 t132 (r_2 11) h_40 fun h_41 =>
  R (.ret (.bool true)) h_41) h) (fun v h => exq (fun ρ => (ρ 1, ρ 6, ρ 11)) v (fun r_2 h_42 =>
  R (.ret (r_2 6)) h_42) h)) ((r_1 1), t70, t114) ((r_1 6), (.int .i64 0)) h_39)) h_38) h_37) h_36) h_35) h_34) h_33) h_32) h_31) h_30) h_29) h_28) h_27) h_26) h_25) h_24) h_23) h_22) h_21) h_20) h_19) h_18) h_17) h_16) h_15) h_14) h_13) h_12)
  (fun c h => R (.pan c) h)) h)) ((r 1), (r 5), (r 6), (r 7), (r 8), t53) (.int .i64 0) h_10) h)) (a0, a1, t5, (.bool false), t7, t16, t37) (.int .i64 0) h_9)
  (fun c h => R (.pan c) h))
  (fun c h => R (.pan c) h))
  (fun c h => R (.pan c) h)
def L40 (Kp : List PanicEntry → PH → Prop) : Loops := fun c Q ρ h =>
    sel (Nat.beq (loopId c) 5) (lf (b40_5 Kp (fun v h => exq (fun ρ => (ρ 0, ρ 1, ρ 5, ρ 6, ρ 7, ρ 8)) v (Q (.exit 0)) h)) ((fun ρ => (ρ 0, ρ 1, ρ 5, ρ 6, ρ 7, ρ 8, ρ 37)) ρ) ((fun ρ => ρ 38) ρ) h)
    (sel (Nat.beq (loopId c) 10) (lf (b40_10 Kp (fun v h => exq (fun ρ => (ρ 1, ρ 5, ρ 6, ρ 7)) v (Q (.exit 2)) h)) ((fun ρ => (ρ 1, ρ 5, ρ 6, ρ 7, ρ 8, ρ 53)) ρ) ((fun ρ => ρ 54) ρ) h)
    (sel (Nat.beq (loopId c) 18) (lf (b40_18 Kp (fun v h => exq (fun ρ => (ρ 1, ρ 6, ρ 11)) v (Q (.exit 4)) h) (fun v h => exq (fun ρ => (ρ 1, ρ 6, ρ 11)) v (Q .ret) h)) ((fun ρ => (ρ 1, ρ 11, ρ 114)) ρ) ((fun ρ => (ρ 6, ρ 115)) ρ) h)
    (False)))
theorem B40_5 (Kp : List PanicEntry → PH → Prop) (KN : (Value × Value × Value × Value × Value × Value × Value) → (Value) → PH → Prop) (XX : Exit → (Value × Value × Value × Value × Value × Value) → PH → Prop) (ρ : Env) (h : PH) :
    den Try.prog qf (ordOf o40) Kp (L40 Kp) (loopAt c40 0) (lq KN XX (fun ρ => (ρ 0, ρ 1, ρ 5, ρ 6, ρ 7, ρ 8, ρ 37)) (fun ρ => ρ 38) (fun ρ => (ρ 0, ρ 1, ρ 5, ρ 6, ρ 7, ρ 8))) ρ h = b40_5 Kp (XX (.exit 0)) ((fun ρ => (ρ 0, ρ 1, ρ 5, ρ 6, ρ 7, ρ 8, ρ 37)) ρ) KN ((fun ρ => ρ 38) ρ) h := by kernel_rfl
theorem B40_10 (Kp : List PanicEntry → PH → Prop) (KN : (Value × Value × Value × Value × Value × Value) → (Value) → PH → Prop) (XX : Exit → (Value × Value × Value × Value) → PH → Prop) (ρ : Env) (h : PH) :
    den Try.prog qf (ordOf o40) Kp (L40 Kp) (loopAt c40 1) (lq KN XX (fun ρ => (ρ 1, ρ 5, ρ 6, ρ 7, ρ 8, ρ 53)) (fun ρ => ρ 54) (fun ρ => (ρ 1, ρ 5, ρ 6, ρ 7))) ρ h = b40_10 Kp (XX (.exit 2)) ((fun ρ => (ρ 1, ρ 5, ρ 6, ρ 7, ρ 8, ρ 53)) ρ) KN ((fun ρ => ρ 54) ρ) h := by kernel_rfl
theorem B40_18 (Kp : List PanicEntry → PH → Prop) (KN : (Value × Value × Value) → (Value × Value) → PH → Prop) (XX : Exit → (Value × Value × Value) → PH → Prop) (ρ : Env) (h : PH) :
    den Try.prog qf (ordOf o40) Kp (L40 Kp) (loopAt c40 2) (lq KN XX (fun ρ => (ρ 1, ρ 11, ρ 114)) (fun ρ => (ρ 6, ρ 115)) (fun ρ => (ρ 1, ρ 6, ρ 11))) ρ h = b40_18 Kp (XX (.exit 4)) (XX .ret) ((fun ρ => (ρ 1, ρ 11, ρ 114)) ρ) KN ((fun ρ => (ρ 6, ρ 115)) ρ) h := by kernel_rfl
theorem l40 (R : AEnd → PH → Prop) : LoopsOK Try.prog qf (ordOf o40) (fun c h => R (.pan c) h) (L40 (fun c h => R (.pan c) h)) c40 :=
  LoopsOK.mk 3 (by kernel_rfl) fun i hi Q ρ h H => match i, hi with
    | 0, _ => loop_gen (F := Value × Value × Value × Value × Value × Value × Value) (S := Value) (X := Value × Value × Value × Value × Value × Value) (φ := (fun ρ => (ρ 0, ρ 1, ρ 5, ρ 6, ρ 7, ρ 8, ρ 37))) (π := (fun ρ => ρ 38)) (ξ := (fun ρ => (ρ 0, ρ 1, ρ 5, ρ 6, ρ 7, ρ 8))) (B := (fun (XX : Exit → (Value × Value × Value × Value × Value × Value) → PH → Prop) => b40_5 (fun c h => R (.pan c) h) (XX (.exit 0)))) (B40_5 _) (of_den (by kernel_rfl) H)
    | 1, _ => loop_gen (F := Value × Value × Value × Value × Value × Value) (S := Value) (X := Value × Value × Value × Value) (φ := (fun ρ => (ρ 1, ρ 5, ρ 6, ρ 7, ρ 8, ρ 53))) (π := (fun ρ => ρ 54)) (ξ := (fun ρ => (ρ 1, ρ 5, ρ 6, ρ 7))) (B := (fun (XX : Exit → (Value × Value × Value × Value) → PH → Prop) => b40_10 (fun c h => R (.pan c) h) (XX (.exit 2)))) (B40_10 _) (of_den (by kernel_rfl) H)
    | 2, _ => loop_gen (F := Value × Value × Value) (S := Value × Value) (X := Value × Value × Value) (φ := (fun ρ => (ρ 1, ρ 11, ρ 114))) (π := (fun ρ => (ρ 6, ρ 115))) (ξ := (fun ρ => (ρ 1, ρ 6, ρ 11))) (B := (fun (XX : Exit → (Value × Value × Value) → PH → Prop) => b40_18 (fun c h => R (.pan c) h) (XX (.exit 4)) (XX .ret))) (B40_18 _) (of_den (by kernel_rfl) H)
    | n + 3, hi => absurd hi (by omega)
theorem e40 (a0 a1 a2 : Value) (h : PH) (R : AEnd → PH → Prop) : denF Try.prog qf (ordOf o40) (L40 (fun c h => R (.pan c) h)) Try.f40.results.toList c40 #[a0, a1, a2] h R = sh40 a0 a1 a2 h R := by kernel_rfl
theorem k40 : codeOK Try.prog qf Try.f40.ntmps (ordOf o40) c40 = true := by kernel_rfl
theorem s40 : Try.f40.body = some c40 := by kernel_rfl
theorem call40 {a0 a1 a2 : Value} {h : PH} {R : AEnd → PH → Prop} (H : sh40 a0 a1 a2 h R) : ACalls Try.prog 40 #[a0, a1, a2] h R :=
  ACalls_of_den mixed Try.func40 s40 (by kernel_rfl) k40 (l40 R) (of_den (e40 a0 a1 a2 h R) H)

/- gavel/gavelref06.read -/
noncomputable def c41 : Code := bodyOf Try.f41
def o41 : List (Nat × List (Nat × List Nat)) := [(20, [(0, []), (1, []), (2, []), (3, []), (4, []), (5, []), (6, []), (7, [])]), (22, [(0, []), (1, []), (2, []), (3, []), (4, []), (5, []), (6, []), (7, []), (8, []), (9, []), (10, []), (11, []), (12, []), (13, [])])]
def b41_5 (Kp : List PanicEntry → PH → Prop) (x0 : (Value × Value × Value × Value × Value × Value × Value) → PH → Prop) (xr : (Value × Value × Value × Value × Value × Value × Value) → PH → Prop) (f : Value × Value × Value × Value) (kn : (Value × Value × Value × Value) → (Value × Value × Value × Value) → PH → Prop) (s : Value × Value × Value × Value) (h : PH) : Prop :=
  vBin Try.prog .mul 3 (.int .i64 2) f.1 fun t20 =>
  vBin Try.prog .add 3 (.int .i64 3) t20 fun t21 =>
  vBin Try.prog .lss 3 s.2.2.2 t21 fun t22 =>
  dIf t22 (vCall Try.prog 60 #[f.2.1, s.2.2.1] h (fun t28 h_1 =>
  vExt t28 0 fun t29 =>
  vExt t28 1 fun t30 =>
  vExt t28 2 fun t31 =>
  vBin Try.prog .neq 29 t31 (.int .i64 0) fun t33 =>
  gq (boolOf t33) false (fun K =>
  K t29 h_1)
  (fun t35 h_2 =>
  gq (boolOf t33) false (fun K_1 =>
  vBin Try.prog .gtr 3 t35 (.int .i64 1099511627776) fun u =>
  K_1 u h_2)
  (fun t36 h_3 =>
  vPick t33 (.bool true) t36 fun t37 =>
  dIf t37 (vLoad (some 12) f.2.2.2 h_3 fun t38 =>
  vStore 12 f.2.2.1 t38 h_3 fun h_4 =>
  xr (f.1, f.2.1, f.2.2.1, (.bool false), f.2.2.2, s.2.1, s.2.2.1) h_4)
  ((1 * 1 ≤ 2 ^ 24) ∧ vBuildS 3 1 1 #[.int .i64 0] [(0, t29)] h_3 fun t41 h_5 =>
  (0 < 1) ∧ (0 < 8) ∧ (Array.size #[(.int .i64 0 : Value)] = 1) ∧ vAppend false 3 1 8 s.2.1 t41 h_5 fun t42 h_6 =>
  vBin Try.prog .add 3 s.2.2.2 (.int .i64 1) fun t24 =>
  kn f (s.1, t42, t30, t24) h_6)) h_2) h_1)
  Kp)
  (x0 (f.1, f.2.1, f.2.2.1, s.1, f.2.2.2, s.2.1, s.2.2.1) h)

def b41_18 (Kp : List PanicEntry → PH → Prop) (x2 : (Value × Value × Value) → PH → Prop) (xr : (Value × Value × Value) → PH → Prop) (f : Value × Value × Value × Value) (kn : (Value × Value × Value × Value) → (Value × Value) → PH → Prop) (s : Value × Value) (h : PH) : Prop :=
  vBin Try.prog .leq 3 s.2 f.1 fun t83 =>
  dIf t83 (vIxS 1 f.2.2.2 (.int .i64 1) fun t87 =>
  vLoad none t87 h fun t88 =>
  vIxS 1 f.2.2.2 (.int .i64 2) fun t90 =>
  vLoad none t90 h fun t91 =>
  vBin Try.prog .gtr 3 s.2 (.int .i64 0) fun t93 =>
  dIf t93 (vBin Try.prog .add 3 (.int .i64 2) s.2 fun t96 =>
  vIxS 1 f.2.2.2 t96 fun t97 =>
  vLoad none t97 h fun t98 =>
  vBin Try.prog .add 3 (.int .i64 2) f.1 fun t101 =>
  vBin Try.prog .add 3 t101 s.2 fun t103 =>
  vIxS 1 f.2.2.2 t103 fun t104 =>
  vLoad none t104 h fun t105 =>
  vBin Try.prog .gtr 3 t105 t98 fun t108 =>
  dIf t108 (vLoad (some 12) f.2.2.1 h fun t109 =>
  vStore 12 f.2.1 t109 h fun h_1 =>
  xr (f.2.1, (.bool false), f.2.2.1) h_1)
  (vBin Try.prog .sub 3 t98 t105 fun t113 =>
  vFA 0 f.2.2.1 fun t114 =>
  vIxA 5 1 t114 s.2 fun t115 =>
  vStore 1 t115 t113 h fun h_2 =>
  vFA 5 f.2.2.1 fun t118 =>
  vIxA 5 1 t118 s.2 fun t119 =>
  vStore 1 t119 t105 h_2 fun h_3 =>
  vBin Try.prog .add 3 s.2 (.int .i64 1) fun t85 =>
  kn f (s.1, t85) h_3))
  (vBin Try.prog .gtr 3 t91 t88 fun t108_1 =>
  dIf t108_1 (vLoad (some 12) f.2.2.1 h fun t109_1 =>
  vStore 12 f.2.1 t109_1 h fun h_4 =>
  xr (f.2.1, (.bool false), f.2.2.1) h_4)
  (vBin Try.prog .sub 3 t88 t91 fun t113_1 =>
  vFA 0 f.2.2.1 fun t114_1 =>
  vIxA 5 1 t114_1 s.2 fun t115_1 =>
  vStore 1 t115_1 t113_1 h fun h_5 =>
  vFA 5 f.2.2.1 fun t118_1 =>
  vIxA 5 1 t118_1 s.2 fun t119_1 =>
  vStore 1 t119_1 t91 h_5 fun h_6 =>
  vBin Try.prog .add 3 s.2 (.int .i64 1) fun t85_1 =>
  kn f (s.1, t85_1) h_6)))
  (x2 (f.2.1, s.1, f.2.2.1) h)

def sh41 (a0 a1 : Value) (h : PH) (R : AEnd → PH → Prop) : Prop :=
  vNew #[.int .i64 0, .int .i64 0, .int .i64 0, .int .i64 0, .int .i64 0, .int .i64 0, .int .i64 0, .int .i64 0, .int .i64 0, .int .i64 0, .int .i64 0, .string ⟨#[]⟩] 83 h fun t4 h_1 =>
  vNew #[.int .i64 0, .int .i64 0, .int .i64 0, .int .i64 0, .int .i64 0, .int .i64 0, .int .i64 0, .int .i64 0, .int .i64 0, .int .i64 0, .int .i64 0, .string ⟨#[]⟩] 83 h_1 fun t6 h_2 =>
  lf (b41_5 (fun c h => R (.pan c) h) (fun v h => exq (fun ρ => (ρ 0, ρ 1, ρ 4, ρ 5, ρ 6, ρ 7, ρ 8)) v (fun r h_3 =>
  vCall Try.prog 61 #[(r 1), (r 8)] h_3 (fun t47 h_4 =>
  vExt t47 0 fun t48 =>
  vExt t47 1 fun t49 =>
  vExt t47 2 fun t50 =>
  vBin Try.prog .neq 29 t50 (.int .i64 0) fun t52 =>
  gq (boolOf t52) false (fun K =>
  K t49 h_4)
  (fun t54 h_5 =>
  gq (boolOf t52) false (fun K_1 =>
  K_1 (r 1) h_5)
  (fun t55 h_6 =>
  gq (boolOf t52) false (fun K_2 =>
  vLenStr t55 fun u =>
  K_2 u h_6)
  (fun t56 h_7 =>
  gq (boolOf t52) false (fun K_3 =>
  vBin Try.prog .neq 3 t54 t56 fun u_1 =>
  K_3 u_1 h_7)
  (fun t57 h_8 =>
  vPick t52 (.bool true) t57 fun t58 =>
  gq (boolOf t58) false (fun K_4 =>
  K_4 t48 h_8)
  (fun t60 h_9 =>
  gq (boolOf t58) false (fun K_5 =>
  vLenStr t60 fun u_2 =>
  K_5 u_2 h_9)
  (fun t61 h_10 =>
  gq (boolOf t58) false (fun K_6 =>
  vBin Try.prog .gtr 3 t61 (.int .i64 256) fun u_3 =>
  K_6 u_3 h_10)
  (fun t62 h_11 =>
  vPick t58 (.bool true) t62 fun t63 =>
  gq (boolOf t63) false (fun K_7 =>
  K_7 (r 7) h_11)
  (fun t65 h_12 =>
  gq (boolOf t63) false (fun K_8 =>
  vIxS 1 t65 (.int .i64 0) fun u_4 =>
  K_8 u_4 h_12)
  (fun t66 h_13 =>
  gq (boolOf t63) false (fun K_9 =>
  vLoad none t66 h_13 fun u_5 =>
  K_9 u_5 h_13)
  (fun t67 h_14 =>
  gq (boolOf t63) false (fun K_10 =>
  vBin Try.prog .eql 3 t67 (.int .i64 0) fun u_6 =>
  K_10 u_6 h_14)
  (fun t68 h_15 =>
  gq (boolOf t63) false (fun K_11 =>
  K_11 t68 h_15)
  (fun t69 h_16 =>
  gq (boolOf t69) true (fun K_12 =>
  K_12 t48 h_16)
  (fun t70 h_17 =>
  gq (boolOf t69) true (fun K_13 =>
  vBin Try.prog .neq 9 t70 (.string ⟨#[]⟩) fun u_7 =>
  K_13 u_7 h_17)
  (fun t71 h_18 =>
  gq (boolOf t63) false (fun K_14 =>
  vPick t69 t71 (.bool false) fun u_8 =>
  K_14 u_8 h_18)
  (fun t72 h_19 =>
  vPick t63 (.bool true) t72 fun t73 =>
  dIf t73 (vLoad (some 12) (r 6) h_19 fun t74 =>
  vStore 12 (r 4) t74 h_19 fun h_20 =>
  vLoad (some 12) (r 4) h_20 fun rv =>
  R (.ret (.tuple #[rv, (.bool false)])) h_20)
  (vIxS 1 (r 7) (.int .i64 0) fun t76 =>
  vLoad none t76 h_19 fun t77 =>
  vFA 10 (r 6) fun t78 =>
  vStore 1 t78 t77 h_19 fun h_21 =>
  vFA 11 (r 6) fun t80 =>
  vStore 1 t80 t48 h_21 fun h_22 =>
  lf (b41_18 (fun c h => R (.pan c) h) (fun v h => exq (fun ρ => (ρ 4, ρ 5, ρ 6)) v (fun r_1 h_23 =>
  vLoad (some 12) (r_1 6) h_23 fun t120 =>
  vStore 12 (r_1 4) t120 h_23 fun h_24 =>
  vLoad (some 12) (r_1 4) h_24 fun rv_1 =>
  R (.ret (.tuple #[rv_1, (.bool true)])) h_24) h) (fun v h => exq (fun ρ => (ρ 4, ρ 5, ρ 6)) v (fun r_1 h_25 =>
  vLoad (some 12) (r_1 4) h_25 fun rv_2 =>
  R (.ret (.tuple #[rv_2, (r_1 5)])) h_25) h)) ((r 0), (r 4), (r 6), (r 7)) ((r 5), (.int .i64 0)) h_22)) h_18) h_17) h_16) h_15) h_14) h_13) h_12) h_11) h_10) h_9) h_8) h_7) h_6) h_5) h_4)
  (fun c h => R (.pan c) h)) h) (fun v h => exq (fun ρ => (ρ 0, ρ 1, ρ 4, ρ 5, ρ 6, ρ 7, ρ 8)) v (fun r h_26 =>
  vLoad (some 12) (r 4) h_26 fun rv_3 =>
  R (.ret (.tuple #[rv_3, (r 5)])) h_26) h)) (a0, a1, t4, t6) ((.bool false), (.slice none 0 0), (.int .i64 0), (.int .i64 0)) h_2
def L41 (Kp : List PanicEntry → PH → Prop) : Loops := fun c Q ρ h =>
    sel (Nat.beq (loopId c) 5) (lf (b41_5 Kp (fun v h => exq (fun ρ => (ρ 0, ρ 1, ρ 4, ρ 5, ρ 6, ρ 7, ρ 8)) v (Q (.exit 0)) h) (fun v h => exq (fun ρ => (ρ 0, ρ 1, ρ 4, ρ 5, ρ 6, ρ 7, ρ 8)) v (Q .ret) h)) ((fun ρ => (ρ 0, ρ 1, ρ 4, ρ 6)) ρ) ((fun ρ => (ρ 5, ρ 7, ρ 8, ρ 9)) ρ) h)
    (sel (Nat.beq (loopId c) 18) (lf (b41_18 Kp (fun v h => exq (fun ρ => (ρ 4, ρ 5, ρ 6)) v (Q (.exit 2)) h) (fun v h => exq (fun ρ => (ρ 4, ρ 5, ρ 6)) v (Q .ret) h)) ((fun ρ => (ρ 0, ρ 4, ρ 6, ρ 7)) ρ) ((fun ρ => (ρ 5, ρ 15)) ρ) h)
    (False))
theorem B41_5 (Kp : List PanicEntry → PH → Prop) (KN : (Value × Value × Value × Value) → (Value × Value × Value × Value) → PH → Prop) (XX : Exit → (Value × Value × Value × Value × Value × Value × Value) → PH → Prop) (ρ : Env) (h : PH) :
    den Try.prog qf (ordOf o41) Kp (L41 Kp) (loopAt c41 0) (lq KN XX (fun ρ => (ρ 0, ρ 1, ρ 4, ρ 6)) (fun ρ => (ρ 5, ρ 7, ρ 8, ρ 9)) (fun ρ => (ρ 0, ρ 1, ρ 4, ρ 5, ρ 6, ρ 7, ρ 8))) ρ h = b41_5 Kp (XX (.exit 0)) (XX .ret) ((fun ρ => (ρ 0, ρ 1, ρ 4, ρ 6)) ρ) KN ((fun ρ => (ρ 5, ρ 7, ρ 8, ρ 9)) ρ) h := by kernel_rfl
theorem B41_18 (Kp : List PanicEntry → PH → Prop) (KN : (Value × Value × Value × Value) → (Value × Value) → PH → Prop) (XX : Exit → (Value × Value × Value) → PH → Prop) (ρ : Env) (h : PH) :
    den Try.prog qf (ordOf o41) Kp (L41 Kp) (loopAt c41 1) (lq KN XX (fun ρ => (ρ 0, ρ 4, ρ 6, ρ 7)) (fun ρ => (ρ 5, ρ 15)) (fun ρ => (ρ 4, ρ 5, ρ 6))) ρ h = b41_18 Kp (XX (.exit 2)) (XX .ret) ((fun ρ => (ρ 0, ρ 4, ρ 6, ρ 7)) ρ) KN ((fun ρ => (ρ 5, ρ 15)) ρ) h := by kernel_rfl
theorem l41 (R : AEnd → PH → Prop) : LoopsOK Try.prog qf (ordOf o41) (fun c h => R (.pan c) h) (L41 (fun c h => R (.pan c) h)) c41 :=
  LoopsOK.mk 2 (by kernel_rfl) fun i hi Q ρ h H => match i, hi with
    | 0, _ => loop_gen (F := Value × Value × Value × Value) (S := Value × Value × Value × Value) (X := Value × Value × Value × Value × Value × Value × Value) (φ := (fun ρ => (ρ 0, ρ 1, ρ 4, ρ 6))) (π := (fun ρ => (ρ 5, ρ 7, ρ 8, ρ 9))) (ξ := (fun ρ => (ρ 0, ρ 1, ρ 4, ρ 5, ρ 6, ρ 7, ρ 8))) (B := (fun (XX : Exit → (Value × Value × Value × Value × Value × Value × Value) → PH → Prop) => b41_5 (fun c h => R (.pan c) h) (XX (.exit 0)) (XX .ret))) (B41_5 _) (of_den (by kernel_rfl) H)
    | 1, _ => loop_gen (F := Value × Value × Value × Value) (S := Value × Value) (X := Value × Value × Value) (φ := (fun ρ => (ρ 0, ρ 4, ρ 6, ρ 7))) (π := (fun ρ => (ρ 5, ρ 15))) (ξ := (fun ρ => (ρ 4, ρ 5, ρ 6))) (B := (fun (XX : Exit → (Value × Value × Value) → PH → Prop) => b41_18 (fun c h => R (.pan c) h) (XX (.exit 2)) (XX .ret))) (B41_18 _) (of_den (by kernel_rfl) H)
    | n + 2, hi => absurd hi (by omega)
theorem e41 (a0 a1 : Value) (h : PH) (R : AEnd → PH → Prop) : denF Try.prog qf (ordOf o41) (L41 (fun c h => R (.pan c) h)) Try.f41.results.toList c41 #[a0, a1] h R = sh41 a0 a1 h R := by kernel_rfl
theorem k41 : codeOK Try.prog qf Try.f41.ntmps (ordOf o41) c41 = true := by kernel_rfl
theorem s41 : Try.f41.body = some c41 := by kernel_rfl
theorem call41 {a0 a1 : Value} {h : PH} {R : AEnd → PH → Prop} (H : sh41 a0 a1 h R) : ACalls Try.prog 41 #[a0, a1] h R :=
  ACalls_of_den mixed Try.func41 s41 (by kernel_rfl) k41 (l41 R) (of_den (e41 a0 a1 h R) H)

end Go.Pw
/- The functions of the program, told as predicate transformers: printed by wip/tools/shprint.py; each is what the model makes of the function, by the kernel's reckoning. -/
set_option linter.unusedVariables false
set_option maxRecDepth 100000
namespace Go.Pw
open Go Go.Proofs
/- gavel/gavelref01.Number -/
noncomputable def c52 : Code := bodyOf Try.f52
def o52 : List (Nat × List (Nat × List Nat)) := []
def b52_2 (Kp : List PanicEntry → PH → Prop) (x0 : (Value × Value) → PH → Prop) (f : Unit) (kn : (Unit) → (Value × Value) → PH → Prop) (s : Value × Value) (h : PH) : Prop :=
  vBin Try.prog .gtr 3 s.1 (.int .i64 127) fun t5 =>
  dIf t5 (vBin Try.prog .rem 3 s.1 (.int .i64 128) fun t8 =>
  vBin Try.prog .add 3 (.int .i64 128) t8 fun t9 =>
  vConvI .u8 t9 fun t10 =>
  (1 * 1 ≤ 2 ^ 24) ∧ vBuildS 5 1 1 #[.int .u8 0] [(0, t10)] h fun t11 h_1 =>
  (0 < 1) ∧ (0 < 1) ∧ (Array.size #[(.int .u8 0 : Value)] = 1) ∧ vAppend false 5 1 1 s.2 t11 h_1 fun t12 h_2 =>
  vBin Try.prog .quo 3 s.1 (.int .i64 128) fun t14 =>
  kn f (t14, t12) h_2)
  (x0 (s.1, s.2) h)

def sh52 (a0 : Value) (h : PH) (R : AEnd → PH → Prop) : Prop :=
  lf (b52_2 (fun c h => R (.pan c) h) (fun v h => exq (fun ρ => (ρ 0, ρ 3)) v (fun r h_1 =>
  vConvI .u8 (r 0) fun t17 =>
  (1 * 1 ≤ 2 ^ 24) ∧ vBuildS 5 1 1 #[.int .u8 0] [(0, t17)] h_1 fun t18 h_2 =>
  (0 < 1) ∧ (0 < 1) ∧ (Array.size #[(.int .u8 0 : Value)] = 1) ∧ vAppend false 5 1 1 (r 3) t18 h_2 fun t19 h_3 =>
  vConvBS t19 h_3 fun t20 =>
  R (.ret t20) h_3) h)) () (a0, (.slice none 0 0)) h
def L52 (Kp : List PanicEntry → PH → Prop) : Loops := fun c Q ρ h =>
    sel (Nat.beq (loopId c) 2) (lf (b52_2 Kp (fun v h => exq (fun ρ => (ρ 0, ρ 3)) v (Q (.exit 0)) h)) ((fun ρ => ()) ρ) ((fun ρ => (ρ 0, ρ 3)) ρ) h)
    (False)
theorem B52_2 (Kp : List PanicEntry → PH → Prop) (KN : (Unit) → (Value × Value) → PH → Prop) (XX : Exit → (Value × Value) → PH → Prop) (ρ : Env) (h : PH) :
    den Try.prog qf (ordOf o52) Kp (L52 Kp) (loopAt c52 0) (lq KN XX (fun ρ => ()) (fun ρ => (ρ 0, ρ 3)) (fun ρ => (ρ 0, ρ 3))) ρ h = b52_2 Kp (XX (.exit 0)) ((fun ρ => ()) ρ) KN ((fun ρ => (ρ 0, ρ 3)) ρ) h := by kernel_rfl
theorem l52 (R : AEnd → PH → Prop) : LoopsOK Try.prog qf (ordOf o52) (fun c h => R (.pan c) h) (L52 (fun c h => R (.pan c) h)) c52 :=
  LoopsOK.mk 1 (by kernel_rfl) fun i hi Q ρ h H => match i, hi with
    | 0, _ => loop_gen (F := Unit) (S := Value × Value) (X := Value × Value) (φ := (fun ρ => ())) (π := (fun ρ => (ρ 0, ρ 3))) (ξ := (fun ρ => (ρ 0, ρ 3))) (B := (fun (XX : Exit → (Value × Value) → PH → Prop) => b52_2 (fun c h => R (.pan c) h) (XX (.exit 0)))) (B52_2 _) (of_den (by kernel_rfl) H)
    | n + 1, hi => absurd hi (by omega)
theorem e52 (a0 : Value) (h : PH) (R : AEnd → PH → Prop) : denF Try.prog qf (ordOf o52) (L52 (fun c h => R (.pan c) h)) Try.f52.results.toList c52 #[a0] h R = sh52 a0 h R := by kernel_rfl
theorem k52 : codeOK Try.prog qf Try.f52.ntmps (ordOf o52) c52 = true := by kernel_rfl
theorem s52 : Try.f52.body = some c52 := by kernel_rfl
theorem call52 {a0 : Value} {h : PH} {R : AEnd → PH → Prop} (H : sh52 a0 h R) : ACalls Try.prog 52 #[a0] h R :=
  ACalls_of_den mixed Try.func52 s52 (by kernel_rfl) k52 (l52 R) (of_den (e52 a0 h R) H)

/- gavel/gavelref01.Laid -/
noncomputable def c53 : Code := bodyOf Try.f53
def o53 : List (Nat × List (Nat × List Nat)) := []
def sh53 (a0 : Value) (h : PH) (R : AEnd → PH → Prop) : Prop :=
  vLenStr a0 fun t4 =>
  vCall Try.prog 52 #[t4] h (fun t5 h_1 =>
  vBin Try.prog .add 9 t5 a0 fun t7 =>
  R (.ret t7) h_1)
  (fun c h => R (.pan c) h)
theorem l53 (R : AEnd → PH → Prop) : LoopsOK Try.prog qf (ordOf o53) (fun c h => R (.pan c) h) noLoops c53 := noLoops_ok (by kernel_rfl)
theorem e53 (a0 : Value) (h : PH) (R : AEnd → PH → Prop) : denF Try.prog qf (ordOf o53) noLoops Try.f53.results.toList c53 #[a0] h R = sh53 a0 h R := by kernel_rfl
theorem k53 : codeOK Try.prog qf Try.f53.ntmps (ordOf o53) c53 = true := by kernel_rfl
theorem s53 : Try.f53.body = some c53 := by kernel_rfl
theorem call53 {a0 : Value} {h : PH} {R : AEnd → PH → Prop} (H : sh53 a0 h R) : ACalls Try.prog 53 #[a0] h R :=
  ACalls_of_den mixed Try.func53 s53 (by kernel_rfl) k53 (l53 R) (of_den (e53 a0 h R) H)

/- (*gavel/wire.writer).number -/
noncomputable def c54 : Code := bodyOf Try.f54
def o54 : List (Nat × List (Nat × List Nat)) := []
def b54_1 (Kp : List PanicEntry → PH → Prop) (x0 : (Value × Value) → PH → Prop) (f : Value) (kn : (Value) → Value → PH → Prop) (s : Value) (h : PH) : Prop :=
  vBin Try.prog .geq 3 s (.int .i64 128) fun t6 =>
  dIf t6 (vNil f fun t9 =>
  vFA 0 t9 fun t10 =>
  vLoad none t10 h fun t11 =>
  vBin Try.prog .and 3 s (.int .i64 127) fun t13 =>
  vBin Try.prog .or 3 t13 (.int .i64 128) fun t14 =>
  vConvI .u8 t14 fun t15 =>
  (1 * 1 ≤ 2 ^ 24) ∧ vBuildS 5 1 1 #[.int .u8 0] [(0, t15)] h fun t16 h_1 =>
  (0 < 1) ∧ (0 < 1) ∧ (Array.size #[(.int .u8 0 : Value)] = 1) ∧ vAppend false 5 1 1 t11 t16 h_1 fun t17 h_2 =>
  vNil f fun t18 =>
  vFA 0 t18 fun t19 =>
  vStore 1 t19 t17 h_2 fun h_3 =>
  vBin Try.prog .shr 3 s (.int .u64 7) fun t21 =>
  kn f t21 h_3)
  (x0 (f, s) h)

def sh54 (a0 a1 : Value) (h : PH) (R : AEnd → PH → Prop) : Prop :=
  lf (b54_1 (fun c h => R (.pan c) h) (fun v h => exq (fun ρ => (ρ 0, ρ 1)) v (fun r h_1 =>
  vNil (r 0) fun t24 =>
  vFA 0 t24 fun t25 =>
  vLoad none t25 h_1 fun t26 =>
  vConvI .u8 (r 1) fun t28 =>
  (1 * 1 ≤ 2 ^ 24) ∧ vBuildS 5 1 1 #[.int .u8 0] [(0, t28)] h_1 fun t29 h_2 =>
  (0 < 1) ∧ (0 < 1) ∧ (Array.size #[(.int .u8 0 : Value)] = 1) ∧ vAppend false 5 1 1 t26 t29 h_2 fun t30 h_3 =>
  vNil (r 0) fun t31 =>
  vFA 0 t31 fun t32 =>
  vStore 1 t32 t30 h_3 fun h_4 =>
  R (.ret (r 0)) h_4) h)) a0 a1 h
def L54 (Kp : List PanicEntry → PH → Prop) : Loops := fun c Q ρ h =>
    sel (Nat.beq (loopId c) 1) (lf (b54_1 Kp (fun v h => exq (fun ρ => (ρ 0, ρ 1)) v (Q (.exit 0)) h)) ((fun ρ => ρ 0) ρ) ((fun ρ => ρ 1) ρ) h)
    (False)
theorem B54_1 (Kp : List PanicEntry → PH → Prop) (KN : (Value) → (Value) → PH → Prop) (XX : Exit → (Value × Value) → PH → Prop) (ρ : Env) (h : PH) :
    den Try.prog qf (ordOf o54) Kp (L54 Kp) (loopAt c54 0) (lq KN XX (fun ρ => ρ 0) (fun ρ => ρ 1) (fun ρ => (ρ 0, ρ 1))) ρ h = b54_1 Kp (XX (.exit 0)) ((fun ρ => ρ 0) ρ) KN ((fun ρ => ρ 1) ρ) h := by kernel_rfl
theorem l54 (R : AEnd → PH → Prop) : LoopsOK Try.prog qf (ordOf o54) (fun c h => R (.pan c) h) (L54 (fun c h => R (.pan c) h)) c54 :=
  LoopsOK.mk 1 (by kernel_rfl) fun i hi Q ρ h H => match i, hi with
    | 0, _ => loop_gen (F := Value) (S := Value) (X := Value × Value) (φ := (fun ρ => ρ 0)) (π := (fun ρ => ρ 1)) (ξ := (fun ρ => (ρ 0, ρ 1))) (B := (fun (XX : Exit → (Value × Value) → PH → Prop) => b54_1 (fun c h => R (.pan c) h) (XX (.exit 0)))) (B54_1 _) (of_den (by kernel_rfl) H)
    | n + 1, hi => absurd hi (by omega)
theorem e54 (a0 a1 : Value) (h : PH) (R : AEnd → PH → Prop) : denF Try.prog qf (ordOf o54) (L54 (fun c h => R (.pan c) h)) Try.f54.results.toList c54 #[a0, a1] h R = sh54 a0 a1 h R := by kernel_rfl
theorem k54 : codeOK Try.prog qf Try.f54.ntmps (ordOf o54) c54 = true := by kernel_rfl
theorem s54 : Try.f54.body = some c54 := by kernel_rfl
theorem call54 {a0 a1 : Value} {h : PH} {R : AEnd → PH → Prop} (H : sh54 a0 a1 h R) : ACalls Try.prog 54 #[a0, a1] h R :=
  ACalls_of_den mixed Try.func54 s54 (by kernel_rfl) k54 (l54 R) (of_den (e54 a0 a1 h R) H)

/- (*gavel/wire.writer).text -/
noncomputable def c55 : Code := bodyOf Try.f55
def o55 : List (Nat × List (Nat × List Nat)) := []
def sh55 (a0 a1 : Value) (h : PH) (R : AEnd → PH → Prop) : Prop :=
  vLenStr a1 fun t8 =>
  vCall Try.prog 54 #[a0, t8] h (fun t11 h_1 =>
  vNil a0 fun t14 =>
  vFA 0 t14 fun t15 =>
  vLoad none t15 h_1 fun t16 =>
  (0 < 1) ∧ (0 < 1) ∧ (Array.size #[(.int .u8 0 : Value)] = 1) ∧ vAppend true 5 1 1 t16 a1 h_1 fun t18 h_2 =>
  vNil t11 fun t19 =>
  vFA 0 t19 fun t20 =>
  vStore 1 t20 t18 h_2 fun h_3 =>
  R (.ret a0) h_3)
  (fun c h => R (.pan c) h)
theorem l55 (R : AEnd → PH → Prop) : LoopsOK Try.prog qf (ordOf o55) (fun c h => R (.pan c) h) noLoops c55 := noLoops_ok (by kernel_rfl)
theorem e55 (a0 a1 : Value) (h : PH) (R : AEnd → PH → Prop) : denF Try.prog qf (ordOf o55) noLoops Try.f55.results.toList c55 #[a0, a1] h R = sh55 a0 a1 h R := by kernel_rfl
theorem k55 : codeOK Try.prog qf Try.f55.ntmps (ordOf o55) c55 = true := by kernel_rfl
theorem s55 : Try.f55.body = some c55 := by kernel_rfl
theorem call55 {a0 a1 : Value} {h : PH} {R : AEnd → PH → Prop} (H : sh55 a0 a1 h R) : ACalls Try.prog 55 #[a0, a1] h R :=
  ACalls_of_den mixed Try.func55 s55 (by kernel_rfl) k55 (l55 R) (of_den (e55 a0 a1 h R) H)

/- (*gavel/ledger.Ledger).part -/
noncomputable def c56 : Code := bodyOf Try.f56
def o56 : List (Nat × List (Nat × List Nat)) := []
def sh56 (a0 a1 a2 a3 : Value) (h : PH) (R : AEnd → PH → Prop) : Prop :=
  vCall Try.prog 39 #[a0, a1] h (fun t15 h_1 =>
  vExt t15 0 fun t16 =>
  vExt t15 1 fun t17 =>
  vBin Try.prog .eql 29 t17 (.int .i64 0) fun t19 =>
  gq (boolOf t19) true (fun K =>
  K a2 h_1)
  (fun t21 h_2 =>
  gq (boolOf t19) true (fun K_1 =>
  vBin Try.prog .lss 3 t21 (.int .i64 0) fun u =>
  K_1 u h_2)
  (fun t22 h_3 =>
  gq (boolOf t19) true (fun K_2 =>
  K_2 t22 h_3)
  (fun t23 h_4 =>
  gq (boolOf t23) false (fun K_3 =>
  K_3 a2 h_4)
  (fun t24 h_5 =>
  gq (boolOf t23) false (fun K_4 =>
  K_4 a0 h_5)
  (fun t25 h_6 =>
  gq (boolOf t23) false (fun K_5 =>
  vNil t25 fun u_1 =>
  K_5 u_1 h_6)
  (fun t26 h_7 =>
  gq (boolOf t23) false (fun K_6 =>
  vFA 0 t26 fun u_2 =>
  K_6 u_2 h_7)
  (fun t27 h_8 =>
  gq (boolOf t23) false (fun K_7 =>
  vLoad none t27 h_8 fun u_3 =>
  K_7 u_3 h_8)
  (fun t28 h_9 =>
  gq (boolOf t23) false (fun K_8 =>
  vBin Try.prog .geq 3 t24 t28 fun u_4 =>
  K_8 u_4 h_9)
  (fun t29 h_10 =>
  gq (boolOf t19) true (fun K_9 =>
  vPick t23 (.bool true) t29 fun u_5 =>
  K_9 u_5 h_10)
  (fun t30 h_11 =>
  gq (boolOf t19) true (fun K_10 =>
  K_10 t30 h_11)
  (fun t31 h_12 =>
  gq (boolOf t31) false (fun K_11 =>
  K_11 a3 h_12)
  (fun t32 h_13 =>
  gq (boolOf t31) false (fun K_12 =>
  vCall Try.prog 64 #[t32] h_13 (fun u_6 h_14 =>
  K_12 u_6 h_14)
  (fun c h => R (.pan c) h))
  (fun t33 h_15 =>
  gq (boolOf t31) false (fun K_13 =>
  vUn Try.prog .not t33 fun u_7 =>
  K_13 u_7 h_15)
  (fun t34 h_16 =>
  gq (boolOf t19) true (fun K_14 =>
  vPick t31 (.bool true) t34 fun u_8 =>
  K_14 u_8 h_16)
  (fun t35 h_17 =>
  vPick t19 t35 (.bool false) fun t36 =>
  dIf t36 (R (.ret (.tuple #[t16, (.int .i64 1)])) h_17)
  (R (.ret (.tuple #[t16, t17])) h_17)) h_16) h_15) h_13) h_12) h_11) h_10) h_9) h_8) h_7) h_6) h_5) h_4) h_3) h_2) h_1)
  (fun c h => R (.pan c) h)
theorem l56 (R : AEnd → PH → Prop) : LoopsOK Try.prog qf (ordOf o56) (fun c h => R (.pan c) h) noLoops c56 := noLoops_ok (by kernel_rfl)
theorem e56 (a0 a1 a2 a3 : Value) (h : PH) (R : AEnd → PH → Prop) : denF Try.prog qf (ordOf o56) noLoops Try.f56.results.toList c56 #[a0, a1, a2, a3] h R = sh56 a0 a1 a2 a3 h R := by kernel_rfl
theorem k56 : codeOK Try.prog qf Try.f56.ntmps (ordOf o56) c56 = true := by kernel_rfl
theorem s56 : Try.f56.body = some c56 := by kernel_rfl
theorem call56 {a0 a1 a2 a3 : Value} {h : PH} {R : AEnd → PH → Prop} (H : sh56 a0 a1 a2 a3 h R) : ACalls Try.prog 56 #[a0, a1, a2, a3] h R :=
  ACalls_of_den mixed Try.func56 s56 (by kernel_rfl) k56 (l56 R) (of_den (e56 a0 a1 a2 a3 h R) H)

/- (*gavel/ledger.Ledger).read$1 -/
noncomputable def c57 : Code := bodyOf Try.f57
def o57 : List (Nat × List (Nat × List Nat)) := []
def sh57 (a0 a1 : Value) (h : PH) (R : AEnd → PH → Prop) : Prop :=
  vLoad none a0 h fun t7 =>
  vLoad none a1 h fun t8 =>
  vCall Try.prog 58 #[t7, t8] h (fun t9 h_1 =>
  vExt t9 0 fun t10 =>
  vExt t9 1 fun t11 =>
  vExt t9 2 fun t12 =>
  vBin Try.prog .neq 29 t12 (.int .i64 0) fun t14 =>
  gq (boolOf t14) false (fun K =>
  K t10 h_1)
  (fun t16 h_2 =>
  gq (boolOf t14) false (fun K_1 =>
  vBin Try.prog .gtr 3 t16 (.int .i64 1099511627776) fun u =>
  K_1 u h_2)
  (fun t17 h_3 =>
  vPick t14 (.bool true) t17 fun t18 =>
  dIf t18 (vLoad none a0 h_3 fun t19 =>
  vLenStr t19 fun t20 =>
  vBin Try.prog .add 3 t20 (.int .i64 1) fun t21 =>
  vStore 1 a1 t21 h_3 fun h_4 =>
  R (.ret (.int .i64 0)) h_4)
  (vStore 1 a1 t11 h_3 fun h_5 =>
  R (.ret t10) h_5)) h_2) h_1)
  (fun c h => R (.pan c) h)
theorem l57 (R : AEnd → PH → Prop) : LoopsOK Try.prog qf (ordOf o57) (fun c h => R (.pan c) h) noLoops c57 := noLoops_ok (by kernel_rfl)
theorem e57 (a0 a1 : Value) (h : PH) (R : AEnd → PH → Prop) : denF Try.prog qf (ordOf o57) noLoops Try.f57.results.toList c57 #[a0, a1] h R = sh57 a0 a1 h R := by kernel_rfl
theorem k57 : codeOK Try.prog qf Try.f57.ntmps (ordOf o57) c57 = true := by kernel_rfl
theorem s57 : Try.f57.body = some c57 := by kernel_rfl
theorem call57 {a0 a1 : Value} {h : PH} {R : AEnd → PH → Prop} (H : sh57 a0 a1 h R) : ACalls Try.prog 57 #[a0, a1] h R :=
  ACalls_of_den mixed Try.func57 s57 (by kernel_rfl) k57 (l57 R) (of_den (e57 a0 a1 h R) H)

/- gavel/gavelref01.Int -/
noncomputable def c60 : Code := bodyOf Try.f60
def o60 : List (Nat × List (Nat × List Nat)) := []
def b60_3 (Kp : List PanicEntry → PH → Prop) (x0 : (Value × Value × Value) → PH → Prop) (xr : (Value × Value × Value) → PH → Prop) (f : Value × Value) (kn : (Value × Value) → (Value × Value × Value × Value × Value × Value) → PH → Prop) (s : Value × Value × Value × Value × Value × Value) (h : PH) : Prop :=
  vBin Try.prog .lss 3 s.2.2.2.2.2 (.int .i64 8) fun t12 =>
  dIf t12 (vBin Try.prog .add 3 f.2 s.2.2.2.2.2 fun t17 =>
  vLenStr f.1 fun t19 =>
  vBin Try.prog .geq 3 t17 t19 fun t20 =>
  dIf t20 (xr ((.int .i64 0), (.int .i64 0), (.int .i64 10)) h)
  (vBin Try.prog .add 3 f.2 s.2.2.2.2.2 fun t24 =>
  vIxStr f.1 t24 fun t25 =>
  vConvI .i64 t25 fun t26 =>
  vBin Try.prog .rem 3 t26 (.int .i64 128) fun t29 =>
  vBin Try.prog .mul 3 t29 s.2.2.2.2.1 fun t31 =>
  vBin Try.prog .add 3 s.2.2.2.1 t31 fun t32 =>
  vBin Try.prog .mul 3 s.2.2.2.2.1 (.int .i64 128) fun t34 =>
  vBin Try.prog .geq 3 t26 (.int .i64 128) fun t36 =>
  dIf t36 (vBin Try.prog .add 3 s.2.2.2.2.2 (.int .i64 1) fun t14 =>
  kn f (s.1, s.2.1, s.2.2.1, t32, t34, t14) h)
  (vBin Try.prog .eql 3 t26 (.int .i64 0) fun t38 =>
  gq (boolOf t38) true (fun K =>
  K s.2.2.2.2.2 h)
  (fun t40 h_1 =>
  gq (boolOf t38) true (fun K_1 =>
  vBin Try.prog .gtr 3 t40 (.int .i64 0) fun u =>
  K_1 u h_1)
  (fun t41 h_2 =>
  vPick t38 t41 (.bool false) fun t42 =>
  gq (boolOf t42) false (fun K_2 =>
  K_2 t32 h_2)
  (fun t44 h_3 =>
  gq (boolOf t42) false (fun K_3 =>
  vBin Try.prog .gtr 3 t44 (.int .i64 9007199254740992) fun u_1 =>
  K_3 u_1 h_3)
  (fun t45 h_4 =>
  vPick t42 (.bool true) t45 fun t46 =>
  dIf t46 (xr ((.int .i64 0), (.int .i64 0), (.int .i64 11)) h_4)
  (vBin Try.prog .add 3 f.2 s.2.2.2.2.2 fun t50 =>
  vBin Try.prog .add 3 t50 (.int .i64 1) fun t51 =>
  xr (t32, t51, (.int .i64 0)) h_4)) h_3) h_2) h_1) h)))
  (x0 (s.1, s.2.1, s.2.2.1) h)

def sh60 (a0 a1 : Value) (h : PH) (R : AEnd → PH → Prop) : Prop :=
  lf (b60_3 (fun c h => R (.pan c) h) (fun v h => exq (fun ρ => (ρ 4, ρ 5, ρ 6)) v (fun r h_1 =>
  R (.ret (.tuple #[(.int .i64 0), (.int .i64 0), (.int .i64 11)])) h_1) h) (fun v h => exq (fun ρ => (ρ 4, ρ 5, ρ 6)) v (fun r h_2 =>
  R (.ret (.tuple #[(r 4), (r 5), (r 6)])) h_2) h)) (a0, a1) ((.int .i64 0), (.int .i64 0), (.int .i64 0), (.int .i64 0), (.int .i64 1), (.int .i64 0)) h
def L60 (Kp : List PanicEntry → PH → Prop) : Loops := fun c Q ρ h =>
    sel (Nat.beq (loopId c) 3) (lf (b60_3 Kp (fun v h => exq (fun ρ => (ρ 4, ρ 5, ρ 6)) v (Q (.exit 0)) h) (fun v h => exq (fun ρ => (ρ 4, ρ 5, ρ 6)) v (Q .ret) h)) ((fun ρ => (ρ 0, ρ 1)) ρ) ((fun ρ => (ρ 4, ρ 5, ρ 6, ρ 7, ρ 8, ρ 9)) ρ) h)
    (False)
theorem B60_3 (Kp : List PanicEntry → PH → Prop) (KN : (Value × Value) → (Value × Value × Value × Value × Value × Value) → PH → Prop) (XX : Exit → (Value × Value × Value) → PH → Prop) (ρ : Env) (h : PH) :
    den Try.prog qf (ordOf o60) Kp (L60 Kp) (loopAt c60 0) (lq KN XX (fun ρ => (ρ 0, ρ 1)) (fun ρ => (ρ 4, ρ 5, ρ 6, ρ 7, ρ 8, ρ 9)) (fun ρ => (ρ 4, ρ 5, ρ 6))) ρ h = b60_3 Kp (XX (.exit 0)) (XX .ret) ((fun ρ => (ρ 0, ρ 1)) ρ) KN ((fun ρ => (ρ 4, ρ 5, ρ 6, ρ 7, ρ 8, ρ 9)) ρ) h := by kernel_rfl
theorem l60 (R : AEnd → PH → Prop) : LoopsOK Try.prog qf (ordOf o60) (fun c h => R (.pan c) h) (L60 (fun c h => R (.pan c) h)) c60 :=
  LoopsOK.mk 1 (by kernel_rfl) fun i hi Q ρ h H => match i, hi with
    | 0, _ => loop_gen (F := Value × Value) (S := Value × Value × Value × Value × Value × Value) (X := Value × Value × Value) (φ := (fun ρ => (ρ 0, ρ 1))) (π := (fun ρ => (ρ 4, ρ 5, ρ 6, ρ 7, ρ 8, ρ 9))) (ξ := (fun ρ => (ρ 4, ρ 5, ρ 6))) (B := (fun (XX : Exit → (Value × Value × Value) → PH → Prop) => b60_3 (fun c h => R (.pan c) h) (XX (.exit 0)) (XX .ret))) (B60_3 _) (of_den (by kernel_rfl) H)
    | n + 1, hi => absurd hi (by omega)
theorem e60 (a0 a1 : Value) (h : PH) (R : AEnd → PH → Prop) : denF Try.prog qf (ordOf o60) (L60 (fun c h => R (.pan c) h)) Try.f60.results.toList c60 #[a0, a1] h R = sh60 a0 a1 h R := by kernel_rfl
theorem k60 : codeOK Try.prog qf Try.f60.ntmps (ordOf o60) c60 = true := by kernel_rfl
theorem s60 : Try.f60.body = some c60 := by kernel_rfl
theorem call60 {a0 a1 : Value} {h : PH} {R : AEnd → PH → Prop} (H : sh60 a0 a1 h R) : ACalls Try.prog 60 #[a0, a1] h R :=
  ACalls_of_den mixed Try.func60 s60 (by kernel_rfl) k60 (l60 R) (of_den (e60 a0 a1 h R) H)

/- gavel/gavelref01.Text -/
noncomputable def c61 : Code := bodyOf Try.f61
def o61 : List (Nat × List (Nat × List Nat)) := []
def sh61 (a0 a1 : Value) (h : PH) (R : AEnd → PH → Prop) : Prop :=
  vCall Try.prog 60 #[a0, a1] h (fun t12 h_1 =>
  vExt t12 0 fun t13 =>
  vExt t12 1 fun t14 =>
  vExt t12 2 fun t15 =>
  vBin Try.prog .neq 29 t15 (.int .i64 0) fun t17 =>
  dIf t17 (R (.ret (.tuple #[(.string ⟨#[]⟩), (.int .i64 0), t15])) h_1)
  (vBin Try.prog .gtr 3 t13 (.int .i64 1048576) fun t20 =>
  dIf t20 (R (.ret (.tuple #[(.string ⟨#[]⟩), (.int .i64 0), (.int .i64 4)])) h_1)
  (vLenStr a0 fun t23 =>
  vBin Try.prog .sub 3 t23 t14 fun t25 =>
  vBin Try.prog .gtr 3 t13 t25 fun t26 =>
  dIf t26 (R (.ret (.tuple #[(.string ⟨#[]⟩), (.int .i64 0), (.int .i64 10)])) h_1)
  (vBin Try.prog .add 3 t14 t13 fun t31 =>
  vSlStr (some t14) (some t31) a0 fun t32 =>
  vBin Try.prog .add 3 t14 t13 fun t35 =>
  R (.ret (.tuple #[t32, t35, (.int .i64 0)])) h_1))))
  (fun c h => R (.pan c) h)
theorem l61 (R : AEnd → PH → Prop) : LoopsOK Try.prog qf (ordOf o61) (fun c h => R (.pan c) h) noLoops c61 := noLoops_ok (by kernel_rfl)
theorem e61 (a0 a1 : Value) (h : PH) (R : AEnd → PH → Prop) : denF Try.prog qf (ordOf o61) noLoops Try.f61.results.toList c61 #[a0, a1] h R = sh61 a0 a1 h R := by kernel_rfl
theorem k61 : codeOK Try.prog qf Try.f61.ntmps (ordOf o61) c61 = true := by kernel_rfl
theorem s61 : Try.f61.body = some c61 := by kernel_rfl
theorem call61 {a0 a1 : Value} {h : PH} {R : AEnd → PH → Prop} (H : sh61 a0 a1 h R) : ACalls Try.prog 61 #[a0, a1] h R :=
  ACalls_of_den mixed Try.func61 s61 (by kernel_rfl) k61 (l61 R) (of_den (e61 a0 a1 h R) H)

/- gavel/gavelref06.Refused -/
noncomputable def c62 : Code := bodyOf Try.f62
def o62 : List (Nat × List (Nat × List Nat)) := []
def sh62 (a0 a1 a2 a3 : Value) (h : PH) (R : AEnd → PH → Prop) : Prop :=
  vNew (Value.cells a0) 52 h fun t4 h_1 =>
  vBin Try.prog .lss 3 a1 (.int .i64 0) fun t10 =>
  gq (boolOf t10) false (fun K =>
  K a1 h_1)
  (fun t12 h_2 =>
  gq (boolOf t10) false (fun K_1 =>
  vFA 1 t4 fun u =>
  K_1 u h_2)
  (fun t13 h_3 =>
  gq (boolOf t10) false (fun K_2 =>
  vLoad none t13 h_3 fun u_1 =>
  K_2 u_1 h_3)
  (fun t14 h_4 =>
  gq (boolOf t10) false (fun K_3 =>
  vLenS t14 fun u_2 =>
  K_3 u_2 h_4)
  (fun t15 h_5 =>
  gq (boolOf t10) false (fun K_4 =>
  vBin Try.prog .geq 3 t12 t15 fun u_3 =>
  K_4 u_3 h_5)
  (fun t16 h_6 =>
  vPick t10 (.bool true) t16 fun t17 =>
  dIf t17 (R (.ret (.int .i64 60)) h_6)
  (vBin Try.prog .lss 3 a2 (.int .i64 0) fun t19 =>
  gq (boolOf t19) false (fun K_5 =>
  K_5 a2 h_6)
  (fun t21 h_7 =>
  gq (boolOf t19) false (fun K_6 =>
  vFA 0 t4 fun u_4 =>
  K_6 u_4 h_7)
  (fun t22 h_8 =>
  gq (boolOf t19) false (fun K_7 =>
  vLoad none t22 h_8 fun u_5 =>
  K_7 u_5 h_8)
  (fun t23 h_9 =>
  gq (boolOf t19) false (fun K_8 =>
  vBin Try.prog .gtr 3 t21 t23 fun u_6 =>
  K_8 u_6 h_9)
  (fun t24 h_10 =>
  vPick t19 (.bool true) t24 fun t25 =>
  gq (boolOf t25) false (fun K_9 =>
  K_9 a3 h_10)
  (fun t27 h_11 =>
  gq (boolOf t25) false (fun K_10 =>
  vBin Try.prog .lss 3 t27 (.int .i64 1) fun u_7 =>
  K_10 u_7 h_11)
  (fun t28 h_12 =>
  vPick t25 (.bool true) t28 fun t29 =>
  gq (boolOf t29) false (fun K_11 =>
  K_11 a3 h_12)
  (fun t31 h_13 =>
  gq (boolOf t29) false (fun K_12 =>
  vBin Try.prog .gtr 3 t31 (.int .i64 1099511627776) fun u_8 =>
  K_12 u_8 h_13)
  (fun t32 h_14 =>
  vPick t29 (.bool true) t32 fun t33 =>
  dIf t33 (R (.ret (.int .i64 1)) h_14)
  (R (.ret (.int .i64 0)) h_14)) h_13) h_12) h_11) h_10) h_9) h_8) h_7) h_6)) h_5) h_4) h_3) h_2) h_1
theorem l62 (R : AEnd → PH → Prop) : LoopsOK Try.prog qf (ordOf o62) (fun c h => R (.pan c) h) noLoops c62 := noLoops_ok (by kernel_rfl)
theorem e62 (a0 a1 a2 a3 : Value) (h : PH) (R : AEnd → PH → Prop) : denF Try.prog qf (ordOf o62) noLoops Try.f62.results.toList c62 #[a0, a1, a2, a3] h R = sh62 a0 a1 a2 a3 h R := by kernel_rfl
theorem k62 : codeOK Try.prog qf Try.f62.ntmps (ordOf o62) c62 = true := by kernel_rfl
theorem s62 : Try.f62.body = some c62 := by kernel_rfl
theorem call62 {a0 a1 a2 a3 : Value} {h : PH} {R : AEnd → PH → Prop} (H : sh62 a0 a1 a2 a3 h R) : ACalls Try.prog 62 #[a0, a1, a2, a3] h R :=
  ACalls_of_den mixed Try.func62 s62 (by kernel_rfl) k62 (l62 R) (of_den (e62 a0 a1 a2 a3 h R) H)

/- gavel/gavelref06.Copy -/
noncomputable def c63 : Code := bodyOf Try.f63
def o63 : List (Nat × List (Nat × List Nat)) := []
def sh63 (a0 : Value) (h : PH) (R : AEnd → PH → Prop) : Prop :=
  vNew (Value.cells a0) 52 h fun t1 h_1 =>
  vNew #[.int .i64 0, .slice none 0 0] 52 h_1 fun t2 h_2 =>
  vFA 1 t1 fun t5 =>
  vLoad none t5 h_2 fun t6 =>
  (0 < 12) ∧ (0 < 104) ∧ (Array.size #[(.int .i64 0 : Value), (.int .i64 0 : Value), (.int .i64 0 : Value), (.int .i64 0 : Value), (.int .i64 0 : Value), (.int .i64 0 : Value), (.int .i64 0 : Value), (.int .i64 0 : Value), (.int .i64 0 : Value), (.int .i64 0 : Value), (.int .i64 0 : Value), (.string ⟨#[]⟩ : Value)] = 12) ∧ vAppend false 83 12 104 (.slice none 0 0) t6 h_2 fun t7 h_3 =>
  vFA 0 t1 fun t8 =>
  vLoad none t8 h_3 fun t9 =>
  vBuild [(0, 1), (1, 1)] #[.int .i64 0, .slice none 0 0] [(0, t9), (1, t7)] fun t11 =>
  vStore 2 t2 t11 h_3 fun h_4 =>
  vLoad (some 2) t2 h_4 fun rv =>
  R (.ret rv) h_4
theorem l63 (R : AEnd → PH → Prop) : LoopsOK Try.prog qf (ordOf o63) (fun c h => R (.pan c) h) noLoops c63 := noLoops_ok (by kernel_rfl)
theorem e63 (a0 : Value) (h : PH) (R : AEnd → PH → Prop) : denF Try.prog qf (ordOf o63) noLoops Try.f63.results.toList c63 #[a0] h R = sh63 a0 h R := by kernel_rfl
theorem k63 : codeOK Try.prog qf Try.f63.ntmps (ordOf o63) c63 = true := by kernel_rfl
theorem s63 : Try.f63.body = some c63 := by kernel_rfl
theorem call63 {a0 : Value} {h : PH} {R : AEnd → PH → Prop} (H : sh63 a0 h R) : ACalls Try.prog 63 #[a0] h R :=
  ACalls_of_den mixed Try.func63 s63 (by kernel_rfl) k63 (l63 R) (of_den (e63 a0 h R) H)

end Go.Pw
/- The functions of the program, told as predicate transformers: printed by wip/tools/shprint.py; each is what the model makes of the function, by the kernel's reckoning. -/
set_option linter.unusedVariables false
set_option maxRecDepth 100000
namespace Go.Pw
open Go Go.Proofs
/- gavel/ledger.amount -/
noncomputable def c64 : Code := bodyOf Try.f64
def o64 : List (Nat × List (Nat × List Nat)) := []
def sh64 (a0 : Value) (h : PH) (R : AEnd → PH → Prop) : Prop :=
  vBin Try.prog .geq 3 a0 (.int .i64 1) fun t4 =>
  gq (boolOf t4) true (fun K =>
  K a0 h)
  (fun t6 h_1 =>
  gq (boolOf t4) true (fun K_1 =>
  vBin Try.prog .leq 3 t6 (.int .i64 1099511627776) fun u =>
  K_1 u h_1)
  (fun t7 h_2 =>
  vPick t4 t7 (.bool false) fun t8 =>
  R (.ret t8) h_2) h_1) h
theorem l64 (R : AEnd → PH → Prop) : LoopsOK Try.prog qf (ordOf o64) (fun c h => R (.pan c) h) noLoops c64 := noLoops_ok (by kernel_rfl)
theorem e64 (a0 : Value) (h : PH) (R : AEnd → PH → Prop) : denF Try.prog qf (ordOf o64) noLoops Try.f64.results.toList c64 #[a0] h R = sh64 a0 h R := by kernel_rfl
theorem k64 : codeOK Try.prog qf Try.f64.ntmps (ordOf o64) c64 = true := by kernel_rfl
theorem s64 : Try.f64.body = some c64 := by kernel_rfl
theorem call64 {a0 : Value} {h : PH} {R : AEnd → PH → Prop} (H : sh64 a0 h R) : ACalls Try.prog 64 #[a0] h R :=
  ACalls_of_den mixed Try.func64 s64 (by kernel_rfl) k64 (l64 R) (of_den (e64 a0 h R) H)

/- gavel/wire.caught -/
noncomputable def c66 : Code := bodyOf Try.f66
def o66 : List (Nat × List (Nat × List Nat)) := []
def sh66 (a0 : Value) (h : PH) (R : AEnd → PH → Prop) : Prop :=
  vAssert Try.prog 20 113 a0 fun t7 =>
  vExt t7 0 fun t8 =>
  vExt t7 1 fun t9 =>
  dIf t9 (R (.ret t8) h)
  (R (.ret (.int .i64 11)) h)
theorem l66 (R : AEnd → PH → Prop) : LoopsOK Try.prog qf (ordOf o66) (fun c h => R (.pan c) h) noLoops c66 := noLoops_ok (by kernel_rfl)
theorem e66 (a0 : Value) (h : PH) (R : AEnd → PH → Prop) : denF Try.prog qf (ordOf o66) noLoops Try.f66.results.toList c66 #[a0] h R = sh66 a0 h R := by kernel_rfl
theorem k66 : codeOK Try.prog qf Try.f66.ntmps (ordOf o66) c66 = true := by kernel_rfl
theorem s66 : Try.f66.body = some c66 := by kernel_rfl
theorem call66 {a0 : Value} {h : PH} {R : AEnd → PH → Prop} (H : sh66 a0 h R) : ACalls Try.prog 66 #[a0] h R :=
  ACalls_of_den mixed Try.func66 s66 (by kernel_rfl) k66 (l66 R) (of_den (e66 a0 h R) H)

/- (*gavel/wire.reader).number -/
noncomputable def c67 : Code := bodyOf Try.f67
def o67 : List (Nat × List (Nat × List Nat)) := [(4, [(0, []), (1, []), (2, []), (3, []), (4, []), (5, []), (6, []), (7, []), (8, []), (9, [])]), (6, [(0, []), (1, []), (2, []), (3, []), (4, []), (5, []), (6, []), (7, []), (8, []), (9, []), (10, [])])]
def b67_4 (Kp : List PanicEntry → PH → Prop) (xr : Value → PH → Prop) (f : Value) (kn : (Value) → (Value × Value × Value) → PH → Prop) (s : Value × Value × Value) (h : PH) : Prop :=
  vNil f fun t9 =>
  vFA 1 t9 fun t10 =>
  vLoad none t10 h fun t11 =>
  vNil f fun t13 =>
  vFA 0 t13 fun t14 =>
  vLoad none t14 h fun t15 =>
  vLenStr t15 fun t16 =>
  vBin Try.prog .geq 3 t11 t16 fun t17 =>
  dIf t17 (vIface 113 (.int .i64 10) fun t18 =>
  vPanic t18 h Kp)
  (vNil f fun t20 =>
  vFA 0 t20 fun t21 =>
  vLoad none t21 h fun t22 =>
  vNil f fun t24 =>
  vFA 1 t24 fun t25 =>
  vLoad none t25 h fun t26 =>
  vIxStr t22 t26 fun t27 =>
  vConvI .i64 t27 fun t28 =>
  vNil f fun t30 =>
  vFA 1 t30 fun t31 =>
  vLoad none t31 h fun t32 =>
  vBin Try.prog .add 3 t32 (.int .i64 1) fun t33 =>
  vNil f fun t34 =>
  vFA 1 t34 fun t35 =>
  vStore 1 t35 t33 h fun h_1 =>
  vBin Try.prog .and 3 t28 (.int .i64 127) fun t38 =>
  vBin Try.prog .mul 3 (.int .i64 7) s.2.2 fun t40 =>
  vBin Try.prog .shl 3 t38 t40 fun t41 =>
  vBin Try.prog .or 3 s.2.1 t41 fun t42 =>
  vBin Try.prog .geq 3 t28 (.int .i64 128) fun t44 =>
  dIf t44 (vBin Try.prog .eql 3 s.2.2 (.int .i64 7) fun t46 =>
  dIf t46 (vIface 113 (.int .i64 11) fun t47 =>
  vPanic t47 h_1 Kp)
  (vBin Try.prog .add 3 s.2.2 (.int .i64 1) fun t7 =>
  kn f (s.1, t42, t7) h_1))
  (vBin Try.prog .eql 3 t28 (.int .i64 0) fun t49 =>
  gq (boolOf t49) true (fun K =>
  K s.2.2 h_1)
  (fun t51 h_2 =>
  gq (boolOf t49) true (fun K_1 =>
  vBin Try.prog .gtr 3 t51 (.int .i64 0) fun u =>
  K_1 u h_2)
  (fun t52 h_3 =>
  vPick t49 t52 (.bool false) fun t53 =>
  gq (boolOf t53) false (fun K_2 =>
  K_2 t42 h_3)
  (fun t55 h_4 =>
  gq (boolOf t53) false (fun K_3 =>
  vBin Try.prog .gtr 3 t55 (.int .i64 9007199254740992) fun u_1 =>
  K_3 u_1 h_4)
  (fun t56 h_5 =>
  vPick t53 (.bool true) t56 fun t57 =>
  dIf t57 (vIface 113 (.int .i64 11) fun t58 =>
  vPanic t58 h_5 Kp)
  (xr t42 h_5)) h_4) h_3) h_2) h_1))

def sh67 (a0 : Value) (h : PH) (R : AEnd → PH → Prop) : Prop :=
  lf (b67_4 (fun c h => R (.pan c) h) (fun v h => exq (fun ρ => ρ 2) v (fun r h_1 =>
  R (.ret (r 2)) h_1) h)) a0 ((.int .i64 0), (.int .i64 0), (.int .i64 0)) h
def L67 (Kp : List PanicEntry → PH → Prop) : Loops := fun c Q ρ h =>
    sel (Nat.beq (loopId c) 4) (lf (b67_4 Kp  (fun v h => exq (fun ρ => ρ 2) v (Q .ret) h)) ((fun ρ => ρ 0) ρ) ((fun ρ => (ρ 2, ρ 3, ρ 4)) ρ) h)
    (False)
theorem B67_4 (Kp : List PanicEntry → PH → Prop) (KN : (Value) → (Value × Value × Value) → PH → Prop) (XX : Exit → (Value) → PH → Prop) (ρ : Env) (h : PH) :
    den Try.prog qf (ordOf o67) Kp (L67 Kp) (loopAt c67 0) (lq KN XX (fun ρ => ρ 0) (fun ρ => (ρ 2, ρ 3, ρ 4)) (fun ρ => ρ 2)) ρ h = b67_4 Kp (XX .ret) ((fun ρ => ρ 0) ρ) KN ((fun ρ => (ρ 2, ρ 3, ρ 4)) ρ) h := by kernel_rfl
theorem l67 (R : AEnd → PH → Prop) : LoopsOK Try.prog qf (ordOf o67) (fun c h => R (.pan c) h) (L67 (fun c h => R (.pan c) h)) c67 :=
  LoopsOK.mk 1 (by kernel_rfl) fun i hi Q ρ h H => match i, hi with
    | 0, _ => loop_gen (F := Value) (S := Value × Value × Value) (X := Value) (φ := (fun ρ => ρ 0)) (π := (fun ρ => (ρ 2, ρ 3, ρ 4))) (ξ := (fun ρ => ρ 2)) (B := (fun (XX : Exit → (Value) → PH → Prop) => b67_4 (fun c h => R (.pan c) h) (XX .ret))) (B67_4 _) (of_den (by kernel_rfl) H)
    | n + 1, hi => absurd hi (by omega)
theorem e67 (a0 : Value) (h : PH) (R : AEnd → PH → Prop) : denF Try.prog qf (ordOf o67) (L67 (fun c h => R (.pan c) h)) Try.f67.results.toList c67 #[a0] h R = sh67 a0 h R := by kernel_rfl
theorem k67 : codeOK Try.prog qf Try.f67.ntmps (ordOf o67) c67 = true := by kernel_rfl
theorem s67 : Try.f67.body = some c67 := by kernel_rfl
theorem call67 {a0 : Value} {h : PH} {R : AEnd → PH → Prop} (H : sh67 a0 h R) : ACalls Try.prog 67 #[a0] h R :=
  ACalls_of_den mixed Try.func67 s67 (by kernel_rfl) k67 (l67 R) (of_den (e67 a0 h R) H)

/- (*gavel/wire.reader).text -/
noncomputable def c69 : Code := bodyOf Try.f69
def o69 : List (Nat × List (Nat × List Nat)) := []
def sh69 (a0 : Value) (h : PH) (R : AEnd → PH → Prop) : Prop :=
  vCall Try.prog 67 #[a0] h (fun t5 h_1 =>
  vBin Try.prog .gtr 3 t5 (.int .i64 1048576) fun t7 =>
  dIf t7 (vIface 113 (.int .i64 4) fun t8 =>
  vPanic t8 h_1 (fun c h => R (.pan c) h))
  (vCall Try.prog 70 #[a0, t5] h_1 (fun t11 h_2 =>
  R (.ret t11) h_2)
  (fun c h => R (.pan c) h)))
  (fun c h => R (.pan c) h)
theorem l69 (R : AEnd → PH → Prop) : LoopsOK Try.prog qf (ordOf o69) (fun c h => R (.pan c) h) noLoops c69 := noLoops_ok (by kernel_rfl)
theorem e69 (a0 : Value) (h : PH) (R : AEnd → PH → Prop) : denF Try.prog qf (ordOf o69) noLoops Try.f69.results.toList c69 #[a0] h R = sh69 a0 h R := by kernel_rfl
theorem k69 : codeOK Try.prog qf Try.f69.ntmps (ordOf o69) c69 = true := by kernel_rfl
theorem s69 : Try.f69.body = some c69 := by kernel_rfl
theorem call69 {a0 : Value} {h : PH} {R : AEnd → PH → Prop} (H : sh69 a0 h R) : ACalls Try.prog 69 #[a0] h R :=
  ACalls_of_den mixed Try.func69 s69 (by kernel_rfl) k69 (l69 R) (of_den (e69 a0 h R) H)

/- (*gavel/wire.reader).bytes -/
noncomputable def c70 : Code := bodyOf Try.f70
def o70 : List (Nat × List (Nat × List Nat)) := [(1, [(0, []), (1, []), (2, []), (3, []), (4, []), (5, []), (6, []), (7, []), (8, []), (9, []), (10, []), (11, [])]), (4, [(0, []), (1, []), (2, []), (3, []), (4, []), (5, []), (6, []), (7, []), (8, []), (9, []), (10, []), (11, []), (12, []), (13, []), (14, []), (15, [])])]
def sh70 (a0 a1 : Value) (h : PH) (R : AEnd → PH → Prop) : Prop :=
  vNil a0 fun t7 =>
  vFA 0 t7 fun t8 =>
  vLoad none t8 h fun t9 =>
  vLenStr t9 fun t10 =>
  vNil a0 fun t12 =>
  vFA 1 t12 fun t13 =>
  vLoad none t13 h fun t14 =>
  vBin Try.prog .sub 3 t10 t14 fun t15 =>
  vBin Try.prog .gtr 3 a1 t15 fun t16 =>
  dIf t16 (vIface 113 (.int .i64 10) fun t17 =>
  vPanic t17 h (fun c h => R (.pan c) h))
  (vNil a0 fun t19 =>
  vFA 1 t19 fun t20 =>
  vLoad none t20 h fun t21 =>
  vBin Try.prog .add 3 t21 a1 fun t23 =>
  vNil a0 fun t24 =>
  vFA 1 t24 fun t25 =>
  vStore 1 t25 t23 h fun h_1 =>
  vNil a0 fun t27 =>
  vFA 0 t27 fun t28 =>
  vLoad none t28 h_1 fun t29 =>
  vNil a0 fun t31 =>
  vFA 1 t31 fun t32 =>
  vLoad none t32 h_1 fun t33 =>
  vBin Try.prog .sub 3 t33 a1 fun t35 =>
  vNil a0 fun t37 =>
  vFA 1 t37 fun t38 =>
  vLoad none t38 h_1 fun t39 =>
  vSlStr (some t35) (some t39) t29 fun t40 =>
  R (.ret t40) h_1)
theorem l70 (R : AEnd → PH → Prop) : LoopsOK Try.prog qf (ordOf o70) (fun c h => R (.pan c) h) noLoops c70 := noLoops_ok (by kernel_rfl)
theorem e70 (a0 a1 : Value) (h : PH) (R : AEnd → PH → Prop) : denF Try.prog qf (ordOf o70) noLoops Try.f70.results.toList c70 #[a0, a1] h R = sh70 a0 a1 h R := by kernel_rfl
theorem k70 : codeOK Try.prog qf Try.f70.ntmps (ordOf o70) c70 = true := by kernel_rfl
theorem s70 : Try.f70.body = some c70 := by kernel_rfl
theorem call70 {a0 a1 : Value} {h : PH} {R : AEnd → PH → Prop} (H : sh70 a0 a1 h R) : ACalls Try.prog 70 #[a0, a1] h R :=
  ACalls_of_den mixed Try.func70 s70 (by kernel_rfl) k70 (l70 R) (of_den (e70 a0 a1 h R) H)

end Go.Pw
/- The functions of the program, told as predicate transformers: printed by wip/tools/shprint.py; each is what the model makes of the function, by the kernel's reckoning. -/
set_option linter.unusedVariables false
set_option maxRecDepth 100000
namespace Go.Pw
open Go Go.Proofs
/- gavel/gavellaw06.awake -/
noncomputable def c12 : Code := bodyOf Try.f12
def o12 : List (Nat × List (Nat × List Nat)) := []
def sh12 (h : PH) (R : AEnd → PH → Prop) : Prop :=
  vCall Try.prog 23 #[(.int .i64 2), (.int .i64 1)] h (fun t8 h_1 =>
  vExt t8 0 fun t9 =>
  vExt t8 1 fun t10 =>
  vBin Try.prog .neq 29 t10 (.int .i64 0) fun t12 =>
  gq (boolOf t12) false (fun K =>
  K t9 h_1)
  (fun t14 h_2 =>
  gq (boolOf t12) false (fun K_1 =>
  vBin Try.prog .eql 25 t14 (.pointer none) fun u =>
  K_1 u h_2)
  (fun t15 h_3 =>
  vPick t12 (.bool true) t15 fun t16 =>
  gq (boolOf t16) false (fun K_2 =>
  K_2 t9 h_3)
  (fun t18 h_4 =>
  gq (boolOf t16) false (fun K_3 =>
  vCall Try.prog 28 #[t18, (.int .i64 0), (.int .i64 9)] h_4 (fun u_1 h_5 =>
  K_3 u_1 h_5)
  (fun c h => R (.pan c) h))
  (fun t19 h_6 =>
  gq (boolOf t16) false (fun K_4 =>
  vBin Try.prog .neq 29 t19 (.int .i64 0) fun u_2 =>
  K_4 u_2 h_6)
  (fun t20 h_7 =>
  vPick t16 (.bool true) t20 fun t21 =>
  gq (boolOf t21) false (fun K_5 =>
  K_5 t9 h_7)
  (fun t23 h_8 =>
  gq (boolOf t21) false (fun K_6 =>
  vCall Try.prog 32 #[t23, (.int .i64 0), (.int .i64 5)] h_8 (fun u_3 h_9 =>
  K_6 u_3 h_9)
  (fun c h => R (.pan c) h))
  (fun t24 h_10 =>
  gq (boolOf t21) false (fun K_7 =>
  vBin Try.prog .neq 29 t24 (.int .i64 0) fun u_4 =>
  K_7 u_4 h_10)
  (fun t25 h_11 =>
  vPick t21 (.bool true) t25 fun t26 =>
  gq (boolOf t26) false (fun K_8 =>
  K_8 t9 h_11)
  (fun t28 h_12 =>
  gq (boolOf t26) false (fun K_9 =>
  vCall Try.prog 29 #[t28, (.int .i64 0), (.int .i64 5)] h_12 (fun u_5 h_13 =>
  K_9 u_5 h_13)
  (fun c h => R (.pan c) h))
  (fun t29 h_14 =>
  gq (boolOf t26) false (fun K_10 =>
  vBin Try.prog .neq 29 t29 (.int .i64 61) fun u_6 =>
  K_10 u_6 h_14)
  (fun t30 h_15 =>
  vPick t26 (.bool true) t30 fun t31 =>
  gq (boolOf t31) false (fun K_11 =>
  K_11 t9 h_15)
  (fun t33 h_16 =>
  gq (boolOf t31) false (fun K_12 =>
  vCall Try.prog 36 #[t33, (.int .i64 0), (.int .i64 1), (.int .i64 3)] h_16 (fun u_7 h_17 =>
  K_12 u_7 h_17)
  (fun c h => R (.pan c) h))
  (fun t34 h_18 =>
  gq (boolOf t31) false (fun K_13 =>
  vBin Try.prog .neq 29 t34 (.int .i64 0) fun u_8 =>
  K_13 u_8 h_18)
  (fun t35 h_19 =>
  vPick t31 (.bool true) t35 fun t36 =>
  dIf t36 (R (.ret (.bool false)) h_19)
  (vCall Try.prog 16 #[t9, (.int .i64 0)] h_19 (fun t39 h_20 =>
  vExt t39 0 fun t40 =>
  vExt t39 1 fun t41 =>
  vNew #[.int .i64 0, .int .i64 0, .int .i64 0, .int .i64 0, .int .i64 0, .int .i64 0, .int .i64 0, .int .i64 0, .int .i64 0, .int .i64 0] 43 h_20 fun t3 h_21 =>
  vStore 10 t3 t40 h_21 fun h_22 =>
  vCall Try.prog 16 #[t9, (.int .i64 1)] h_22 (fun t44 h_23 =>
  vExt t44 0 fun t45 =>
  vExt t44 1 fun t46 =>
  vNew #[.int .i64 0, .int .i64 0, .int .i64 0, .int .i64 0, .int .i64 0, .int .i64 0, .int .i64 0, .int .i64 0, .int .i64 0, .int .i64 0] 43 h_23 fun t5 h_24 =>
  vStore 10 t5 t45 h_24 fun h_25 =>
  vFA 0 t3 fun t47 =>
  vLoad none t47 h_25 fun t48 =>
  vBin Try.prog .eql 3 t48 (.int .i64 6) fun t49 =>
  gq (boolOf t49) true (fun K_14 =>
  vFA 1 t3 fun u_9 =>
  K_14 u_9 h_25)
  (fun t51 h_26 =>
  gq (boolOf t49) true (fun K_15 =>
  vLoad none t51 h_26 fun u_10 =>
  K_15 u_10 h_26)
  (fun t52 h_27 =>
  gq (boolOf t49) true (fun K_16 =>
  vBin Try.prog .eql 3 t52 (.int .i64 2) fun u_11 =>
  K_16 u_11 h_27)
  (fun t53 h_28 =>
  vPick t49 t53 (.bool false) fun t54 =>
  gq (boolOf t54) true (fun K_17 =>
  vFA 0 t5 fun u_12 =>
  K_17 u_12 h_28)
  (fun t56 h_29 =>
  gq (boolOf t54) true (fun K_18 =>
  vLoad none t56 h_29 fun u_13 =>
  K_18 u_13 h_29)
  (fun t57 h_30 =>
  gq (boolOf t54) true (fun K_19 =>
  vBin Try.prog .eql 3 t57 (.int .i64 3) fun u_14 =>
  K_19 u_14 h_30)
  (fun t58 h_31 =>
  vPick t54 t58 (.bool false) fun t59 =>
  gq (boolOf t59) true (fun K_20 =>
  vFA 1 t5 fun u_15 =>
  K_20 u_15 h_31)
  (fun t61 h_32 =>
  gq (boolOf t59) true (fun K_21 =>
  vLoad none t61 h_32 fun u_16 =>
  K_21 u_16 h_32)
  (fun t62 h_33 =>
  gq (boolOf t59) true (fun K_22 =>
  vBin Try.prog .eql 3 t62 (.int .i64 0) fun u_17 =>
  K_22 u_17 h_33)
  (fun t63 h_34 =>
  vPick t59 t63 (.bool false) fun t64 =>
  R (.ret t64) h_34) h_33) h_32) h_31) h_30) h_29) h_28) h_27) h_26) h_25)
  (fun c h => R (.pan c) h))
  (fun c h => R (.pan c) h))) h_18) h_16) h_15) h_14) h_12) h_11) h_10) h_8) h_7) h_6) h_4) h_3) h_2) h_1)
  (fun c h => R (.pan c) h)
theorem l12 (R : AEnd → PH → Prop) : LoopsOK Try.prog qf (ordOf o12) (fun c h => R (.pan c) h) noLoops c12 := noLoops_ok (by kernel_rfl)
theorem e12 (h : PH) (R : AEnd → PH → Prop) : denF Try.prog qf (ordOf o12) noLoops Try.f12.results.toList c12 #[] h R = sh12 h R := by kernel_rfl
theorem k12 : codeOK Try.prog qf Try.f12.ntmps (ordOf o12) c12 = true := by kernel_rfl
theorem s12 : Try.f12.body = some c12 := by kernel_rfl
theorem call12 {h : PH} {R : AEnd → PH → Prop} (H : sh12 h R) : ACalls Try.prog 12 #[] h R :=
  ACalls_of_den mixed Try.func12 s12 (by kernel_rfl) k12 (l12 R) (of_den (e12 h R) H)

/- gavel/gavelref01.SameRecords -/
noncomputable def c13 : Code := bodyOf Try.f13
def o13 : List (Nat × List (Nat × List Nat)) := [(6, [(0, []), (1, []), (2, []), (3, []), (4, []), (5, []), (6, []), (7, []), (8, [])])]
def b13_4 (Kp : List PanicEntry → PH → Prop) (x0 : Value → PH → Prop) (xr : Value → PH → Prop) (f : Value × Value) (kn : (Value × Value) → (Value × Value) → PH → Prop) (s : Value × Value) (h : PH) : Prop :=
  vLenS f.1 fun t13 =>
  vBin Try.prog .lss 3 s.2 t13 fun t14 =>
  dIf t14 (vIxS 2 f.1 s.2 fun t19 =>
  vLoad (some 2) t19 h fun t20 =>
  vIxS 2 f.2 s.2 fun t23 =>
  vLoad (some 2) t23 h fun t24 =>
  vBin Try.prog .neq 32 t20 t24 fun t25 =>
  dIf t25 (xr (.bool false) h)
  (vBin Try.prog .add 3 s.2 (.int .i64 1) fun t16 =>
  kn f (s.1, t16) h))
  (x0 s.1 h)

def sh13 (a0 a1 : Value) (h : PH) (R : AEnd → PH → Prop) : Prop :=
  vLenS a0 fun t7 =>
  vLenS a1 fun t9 =>
  vBin Try.prog .neq 3 t7 t9 fun t10 =>
  dIf t10 (R (.ret (.bool false)) h)
  (lf (b13_4 (fun c h => R (.pan c) h) (fun v h => exq (fun ρ => ρ 4) v (fun r h_1 =>
  R (.ret (.bool true)) h_1) h) (fun v h => exq (fun ρ => ρ 4) v (fun r h_2 =>
  R (.ret (r 4)) h_2) h)) (a0, a1) ((.bool false), (.int .i64 0)) h)
def L13 (Kp : List PanicEntry → PH → Prop) : Loops := fun c Q ρ h =>
    sel (Nat.beq (loopId c) 4) (lf (b13_4 Kp (fun v h => exq (fun ρ => ρ 4) v (Q (.exit 0)) h) (fun v h => exq (fun ρ => ρ 4) v (Q .ret) h)) ((fun ρ => (ρ 0, ρ 1)) ρ) ((fun ρ => (ρ 4, ρ 5)) ρ) h)
    (False)
theorem B13_4 (Kp : List PanicEntry → PH → Prop) (KN : (Value × Value) → (Value × Value) → PH → Prop) (XX : Exit → (Value) → PH → Prop) (ρ : Env) (h : PH) :
    den Try.prog qf (ordOf o13) Kp (L13 Kp) (loopAt c13 0) (lq KN XX (fun ρ => (ρ 0, ρ 1)) (fun ρ => (ρ 4, ρ 5)) (fun ρ => ρ 4)) ρ h = b13_4 Kp (XX (.exit 0)) (XX .ret) ((fun ρ => (ρ 0, ρ 1)) ρ) KN ((fun ρ => (ρ 4, ρ 5)) ρ) h := by kernel_rfl
theorem l13 (R : AEnd → PH → Prop) : LoopsOK Try.prog qf (ordOf o13) (fun c h => R (.pan c) h) (L13 (fun c h => R (.pan c) h)) c13 :=
  LoopsOK.mk 1 (by kernel_rfl) fun i hi Q ρ h H => match i, hi with
    | 0, _ => loop_gen (F := Value × Value) (S := Value × Value) (X := Value) (φ := (fun ρ => (ρ 0, ρ 1))) (π := (fun ρ => (ρ 4, ρ 5))) (ξ := (fun ρ => ρ 4)) (B := (fun (XX : Exit → (Value) → PH → Prop) => b13_4 (fun c h => R (.pan c) h) (XX (.exit 0)) (XX .ret))) (B13_4 _) (of_den (by kernel_rfl) H)
    | n + 1, hi => absurd hi (by omega)
theorem e13 (a0 a1 : Value) (h : PH) (R : AEnd → PH → Prop) : denF Try.prog qf (ordOf o13) (L13 (fun c h => R (.pan c) h)) Try.f13.results.toList c13 #[a0, a1] h R = sh13 a0 a1 h R := by kernel_rfl
theorem k13 : codeOK Try.prog qf Try.f13.ntmps (ordOf o13) c13 = true := by kernel_rfl
theorem s13 : Try.f13.body = some c13 := by kernel_rfl
theorem call13 {a0 a1 : Value} {h : PH} {R : AEnd → PH → Prop} (H : sh13 a0 a1 h R) : ACalls Try.prog 13 #[a0, a1] h R :=
  ACalls_of_den mixed Try.func13 s13 (by kernel_rfl) k13 (l13 R) (of_den (e13 a0 a1 h R) H)

/- (*gavel/ledger.Ledger).Totals -/
noncomputable def c14 : Code := bodyOf Try.f14
def o14 : List (Nat × List (Nat × List Nat)) := []
def b14_7 (Kp : List PanicEntry → PH → Prop) (x2 : (Value × Value × Value × Value × Value) → PH → Prop) (f : Value × Value × Value × Value × Value × Value) (kn : (Value × Value × Value × Value × Value × Value) → Value → PH → Prop) (s : Value) (h : PH) : Prop :=
  vBin Try.prog .lss 3 s (.int .i64 4) fun t28 =>
  dIf t28 (vIxAg none 4 1 f.2.2.2.2.2 s fun t30 =>
  vIxA 4 1 f.2.1 s fun t32 =>
  vLoad none t32 h fun t33 =>
  vBin Try.prog .add 3 t33 t30 fun t35 =>
  vIxA 4 1 f.2.1 s fun t36 =>
  vStore 1 t36 t35 h fun h_1 =>
  vBin Try.prog .add 3 s (.int .i64 1) fun t37 =>
  kn f t37 h_1)
  (x2 (f.1, f.2.1, f.2.2.1, f.2.2.2.1, f.2.2.2.2.1) h)

def b14_3 (Kp : List PanicEntry → PH → Prop) (x0 : (Value × Value) → PH → Prop) (f : Value × Value × Value) (kn : (Value × Value × Value) → (Value × Value) → PH → Prop) (s : Value × Value) (h : PH) : Prop :=
  vBin Try.prog .lss 3 s.2 f.2.2 fun t16 =>
  dIf t16 (vIxS 12 f.2.1 s.2 fun t17 =>
  vLoad (some 12) t17 h fun t18 =>
  vNew #[.int .i64 0, .int .i64 0, .int .i64 0, .int .i64 0, .int .i64 0, .int .i64 0, .int .i64 0, .int .i64 0, .int .i64 0, .int .i64 0, .int .i64 0, .string ⟨#[]⟩] 66 h fun t5 h_1 =>
  vStore 12 t5 t18 h_1 fun h_2 =>
  vFA 0 t5 fun t20 =>
  vFA 0 t20 fun t21 =>
  vLoad none t21 h_2 fun t22 =>
  vBin Try.prog .add 3 s.1 t22 fun t23 =>
  vFA 0 t5 fun t24 =>
  vFA 2 t24 fun t25 =>
  vLoad (some 4) t25 h_2 fun t26 =>
  lf (b14_7 Kp (fun v h => exq (fun ρ => (ρ 2, ρ 3, ρ 13, ρ 14, ρ 15)) v (fun r h_3 =>
  vBin Try.prog .add 3 (r 15) (.int .i64 1) fun t38 =>
  kn ((r 3), (r 13), (r 14)) ((r 2), t38) h_3) h)) (t23, f.1, f.2.1, f.2.2, s.2, t26) (.int .i64 0) h_2)
  (x0 (s.1, f.1) h)

def sh14 (a0 : Value) (h : PH) (R : AEnd → PH → Prop) : Prop :=
  vNew #[.int .i64 0, .int .i64 0, .int .i64 0, .int .i64 0] 37 h fun t3 h_1 =>
  vBin Try.prog .eql 25 a0 (.pointer none) fun t9 =>
  dIf t9 (vLoad (some 4) t3 h_1 fun rv =>
  R (.ret (.tuple #[(.int .i64 0), rv])) h_1)
  (vNil a0 fun t11 =>
  vFA 1 t11 fun t12 =>
  vLoad none t12 h_1 fun t13 =>
  vLenS t13 fun t14 =>
  lf (b14_3 (fun c h => R (.pan c) h) (fun v h => exq (fun ρ => (ρ 2, ρ 3)) v (fun r h_2 =>
  vLoad (some 4) (r 3) h_2 fun rv_1 =>
  R (.ret (.tuple #[(r 2), rv_1])) h_2) h)) (t3, t13, t14) ((.int .i64 0), (.int .i64 0)) h_1)
def L14 (Kp : List PanicEntry → PH → Prop) : Loops := fun c Q ρ h =>
    sel (Nat.beq (loopId c) 3) (lf (b14_3 Kp (fun v h => exq (fun ρ => (ρ 2, ρ 3)) v (Q (.exit 0)) h)) ((fun ρ => (ρ 3, ρ 13, ρ 14)) ρ) ((fun ρ => (ρ 2, ρ 15)) ρ) h)
    (sel (Nat.beq (loopId c) 7) (lf (b14_7 Kp (fun v h => exq (fun ρ => (ρ 2, ρ 3, ρ 13, ρ 14, ρ 15)) v (Q (.exit 2)) h)) ((fun ρ => (ρ 2, ρ 3, ρ 13, ρ 14, ρ 15, ρ 26)) ρ) ((fun ρ => ρ 27) ρ) h)
    (False))
theorem B14_3 (Kp : List PanicEntry → PH → Prop) (KN : (Value × Value × Value) → (Value × Value) → PH → Prop) (XX : Exit → (Value × Value) → PH → Prop) (ρ : Env) (h : PH) :
    den Try.prog qf (ordOf o14) Kp (L14 Kp) (loopAt c14 0) (lq KN XX (fun ρ => (ρ 3, ρ 13, ρ 14)) (fun ρ => (ρ 2, ρ 15)) (fun ρ => (ρ 2, ρ 3))) ρ h = b14_3 Kp (XX (.exit 0)) ((fun ρ => (ρ 3, ρ 13, ρ 14)) ρ) KN ((fun ρ => (ρ 2, ρ 15)) ρ) h := by kernel_rfl
theorem B14_7 (Kp : List PanicEntry → PH → Prop) (KN : (Value × Value × Value × Value × Value × Value) → (Value) → PH → Prop) (XX : Exit → (Value × Value × Value × Value × Value) → PH → Prop) (ρ : Env) (h : PH) :
    den Try.prog qf (ordOf o14) Kp (L14 Kp) (loopAt c14 1) (lq KN XX (fun ρ => (ρ 2, ρ 3, ρ 13, ρ 14, ρ 15, ρ 26)) (fun ρ => ρ 27) (fun ρ => (ρ 2, ρ 3, ρ 13, ρ 14, ρ 15))) ρ h = b14_7 Kp (XX (.exit 2)) ((fun ρ => (ρ 2, ρ 3, ρ 13, ρ 14, ρ 15, ρ 26)) ρ) KN ((fun ρ => ρ 27) ρ) h := by kernel_rfl
theorem l14 (R : AEnd → PH → Prop) : LoopsOK Try.prog qf (ordOf o14) (fun c h => R (.pan c) h) (L14 (fun c h => R (.pan c) h)) c14 :=
  LoopsOK.mk 2 (by kernel_rfl) fun i hi Q ρ h H => match i, hi with
    | 0, _ => loop_gen (F := Value × Value × Value) (S := Value × Value) (X := Value × Value) (φ := (fun ρ => (ρ 3, ρ 13, ρ 14))) (π := (fun ρ => (ρ 2, ρ 15))) (ξ := (fun ρ => (ρ 2, ρ 3))) (B := (fun (XX : Exit → (Value × Value) → PH → Prop) => b14_3 (fun c h => R (.pan c) h) (XX (.exit 0)))) (B14_3 _) (of_den (by kernel_rfl) H)
    | 1, _ => loop_gen (F := Value × Value × Value × Value × Value × Value) (S := Value) (X := Value × Value × Value × Value × Value) (φ := (fun ρ => (ρ 2, ρ 3, ρ 13, ρ 14, ρ 15, ρ 26))) (π := (fun ρ => ρ 27)) (ξ := (fun ρ => (ρ 2, ρ 3, ρ 13, ρ 14, ρ 15))) (B := (fun (XX : Exit → (Value × Value × Value × Value × Value) → PH → Prop) => b14_7 (fun c h => R (.pan c) h) (XX (.exit 2)))) (B14_7 _) (of_den (by kernel_rfl) H)
    | n + 2, hi => absurd hi (by omega)
theorem e14 (a0 : Value) (h : PH) (R : AEnd → PH → Prop) : denF Try.prog qf (ordOf o14) (L14 (fun c h => R (.pan c) h)) Try.f14.results.toList c14 #[a0] h R = sh14 a0 h R := by kernel_rfl
theorem k14 : codeOK Try.prog qf Try.f14.ntmps (ordOf o14) c14 = true := by kernel_rfl
theorem s14 : Try.f14.body = some c14 := by kernel_rfl
theorem call14 {a0 : Value} {h : PH} {R : AEnd → PH → Prop} (H : sh14 a0 h R) : ACalls Try.prog 14 #[a0] h R :=
  ACalls_of_den mixed Try.func14 s14 (by kernel_rfl) k14 (l14 R) (of_den (e14 a0 h R) H)

/- (*gavel/ledger.Ledger).Last -/
noncomputable def c15 : Code := bodyOf Try.f15
def o15 : List (Nat × List (Nat × List Nat)) := [(4, [(0, []), (1, []), (2, []), (3, []), (4, []), (5, []), (6, []), (7, []), (8, []), (9, [])])]
def sh15 (a0 a1 : Value) (h : PH) (R : AEnd → PH → Prop) : Prop :=
  vCall Try.prog 39 #[a0, a1] h (fun t11 h_1 =>
  vExt t11 0 fun t12 =>
  vExt t11 1 fun t13 =>
  vBin Try.prog .neq 29 t13 (.int .i64 0) fun t15 =>
  dIf t15 (R (.ret (.tuple #[(.int .i64 0), (.string ⟨#[]⟩)])) h_1)
  (vNil t12 fun t17 =>
  vFA 10 t17 fun t18 =>
  vLoad none t18 h_1 fun t19 =>
  vNil t12 fun t21 =>
  vFA 11 t21 fun t22 =>
  vLoad none t22 h_1 fun t23 =>
  R (.ret (.tuple #[t19, t23])) h_1))
  (fun c h => R (.pan c) h)
theorem l15 (R : AEnd → PH → Prop) : LoopsOK Try.prog qf (ordOf o15) (fun c h => R (.pan c) h) noLoops c15 := noLoops_ok (by kernel_rfl)
theorem e15 (a0 a1 : Value) (h : PH) (R : AEnd → PH → Prop) : denF Try.prog qf (ordOf o15) noLoops Try.f15.results.toList c15 #[a0, a1] h R = sh15 a0 a1 h R := by kernel_rfl
theorem k15 : codeOK Try.prog qf Try.f15.ntmps (ordOf o15) c15 = true := by kernel_rfl
theorem s15 : Try.f15.body = some c15 := by kernel_rfl
theorem call15 {a0 a1 : Value} {h : PH} {R : AEnd → PH → Prop} (H : sh15 a0 a1 h R) : ACalls Try.prog 15 #[a0, a1] h R :=
  ACalls_of_den mixed Try.func15 s15 (by kernel_rfl) k15 (l15 R) (of_den (e15 a0 a1 h R) H)

/- (*gavel/ledger.Ledger).Account -/
noncomputable def c16 : Code := bodyOf Try.f16
def o16 : List (Nat × List (Nat × List Nat)) := []
def sh16 (a0 a1 : Value) (h : PH) (R : AEnd → PH → Prop) : Prop :=
  vNew #[.int .i64 0, .int .i64 0, .int .i64 0, .int .i64 0, .int .i64 0, .int .i64 0, .int .i64 0, .int .i64 0, .int .i64 0, .int .i64 0] 43 h fun t4 h_1 =>
  vCall Try.prog 39 #[a0, a1] h_1 (fun t11 h_2 =>
  vExt t11 0 fun t12 =>
  vExt t11 1 fun t13 =>
  vBin Try.prog .neq 29 t13 (.int .i64 0) fun t15 =>
  dIf t15 (vBuild [(0, 1), (1, 1), (2, 4), (6, 4)] #[.int .i64 0, .int .i64 0, .int .i64 0, .int .i64 0, .int .i64 0, .int .i64 0, .int .i64 0, .int .i64 0, .int .i64 0, .int .i64 0] [] fun t16 =>
  vStore 10 t4 t16 h_2 fun h_3 =>
  vLoad (some 10) t4 h_3 fun rv =>
  R (.ret (.tuple #[rv, (.bool false)])) h_3)
  (vNil t12 fun t18 =>
  vFA 0 t18 fun t19 =>
  vLoad (some 10) t19 h_2 fun t20 =>
  vStore 10 t4 t20 h_2 fun h_4 =>
  vLoad (some 10) t4 h_4 fun rv_1 =>
  R (.ret (.tuple #[rv_1, (.bool true)])) h_4))
  (fun c h => R (.pan c) h)
theorem l16 (R : AEnd → PH → Prop) : LoopsOK Try.prog qf (ordOf o16) (fun c h => R (.pan c) h) noLoops c16 := noLoops_ok (by kernel_rfl)
theorem e16 (a0 a1 : Value) (h : PH) (R : AEnd → PH → Prop) : denF Try.prog qf (ordOf o16) noLoops Try.f16.results.toList c16 #[a0, a1] h R = sh16 a0 a1 h R := by kernel_rfl
theorem k16 : codeOK Try.prog qf Try.f16.ntmps (ordOf o16) c16 = true := by kernel_rfl
theorem s16 : Try.f16.body = some c16 := by kernel_rfl
theorem call16 {a0 a1 : Value} {h : PH} {R : AEnd → PH → Prop} (H : sh16 a0 a1 h R) : ACalls Try.prog 16 #[a0, a1] h R :=
  ACalls_of_den mixed Try.func16 s16 (by kernel_rfl) k16 (l16 R) (of_den (e16 a0 a1 h R) H)

/- gavel/ledger.Of -/
noncomputable def c17 : Code := bodyOf Try.f17
def o17 : List (Nat × List (Nat × List Nat)) := [(9, [(0, []), (1, []), (2, []), (3, [1]), (4, []), (5, []), (6, []), (7, []), (8, []), (9, []), (10, []), (11, []), (12, []), (13, []), (14, []), (15, []), (16, []), (17, [])])]
def b17_7 (Kp : List PanicEntry → PH → Prop) (x0 : (Value × Value × Value) → PH → Prop) (xr : (Value × Value × Value) → PH → Prop) (f : Value × Value × Value) (kn : (Value × Value × Value) → (Value × Value × Value) → PH → Prop) (s : Value × Value × Value) (h : PH) : Prop :=
  vBin Try.prog .lss 3 s.2.2 f.2.2 fun t32 =>
  dIf t32 (vIxS 2 f.2.1 s.2.2 fun t34 =>
  vLoad (some 2) t34 h fun t35 =>
  vNew #[.string ⟨#[]⟩, .string ⟨#[]⟩] 32 h fun t11 h_1 =>
  vStore 2 t11 t35 h_1 fun h_2 =>
  vFA 0 t11 fun t36 =>
  vLoad none t36 h_2 fun t37 =>
  vCall Try.prog 26 #[s.2.2] h_2 (fun t39 h_3 =>
  (vLoad none t36 h_3 fun u =>
  t37 = u) ∧
  vBin Try.prog .neq 9 t37 t39 fun t40 =>
  gq (boolOf t40) false (fun K =>
  K f.1 h_3)
  (fun t42 h_4 =>
  gq (boolOf t40) false (fun K_1 =>
  K_1 f.1 h_4)
  (fun t43 h_5 =>
  gq (boolOf t40) false (fun K_2 =>
  vNil t43 fun u_1 =>
  K_2 u_1 h_5)
  (fun t44 h_6 =>
  gq (boolOf t40) false (fun K_3 =>
  vFA 1 t44 fun u_2 =>
  K_3 u_2 h_6)
  (fun t45 h_7 =>
  gq (boolOf t40) false (fun K_4 =>
  vLoad none t45 h_7 fun u_3 =>
  K_4 u_3 h_7)
  (fun t46 h_8 =>
  gq (boolOf t40) false (fun K_5 =>
  K_5 s.2.2 h_8)
  (fun t47 h_9 =>
  gq (boolOf t40) false (fun K_6 =>
  vIxS 12 t46 t47 fun u_4 =>
  K_6 u_4 h_9)
  (fun t48 h_10 =>
  gq (boolOf t40) false (fun K_7 =>
  vFA 1 t11 fun u_5 =>
  K_7 u_5 h_10)
  (fun t49 h_11 =>
  gq (boolOf t40) false (fun K_8 =>
  vLoad none t49 h_11 fun u_6 =>
  K_8 u_6 h_11)
  (fun t50 h_12 =>
  gq (boolOf t40) false (fun K_9 =>
  vCall Try.prog 40 #[t42, t48, t50] h_12 (fun u_7 h_13 =>
  K_9 u_7 h_13)
  Kp)
  (fun t51 h_14 =>
  gq (boolOf t40) false (fun K_10 =>
  vUn Try.prog .not t51 fun u_8 =>
  K_10 u_8 h_14)
  (fun t52 h_15 =>
  vPick t40 (.bool true) t52 fun t53 =>
  dIf t53 (xr ((.pointer none), (.int .i64 92), f.1) h_15)
  (vBin Try.prog .add 3 s.2.2 (.int .i64 1) fun t54 =>
  kn f (s.1, s.2.1, t54) h_15)) h_14) h_12) h_11) h_10) h_9) h_8) h_7) h_6) h_5) h_4) h_3)
  Kp)
  (x0 (s.1, s.2.1, f.1) h)

def b17_14 (Kp : List PanicEntry → PH → Prop) (x2 : (Value × Value × Value) → PH → Prop) (xr : (Value × Value × Value) → PH → Prop) (f : Value × Value × Value) (kn : (Value × Value × Value) → (Value × Value × Value) → PH → Prop) (s : Value × Value × Value) (h : PH) : Prop :=
  vBin Try.prog .lss 3 s.2.2 f.2.2 fun t66 =>
  dIf t66 (vIxS 1 f.2.1 s.2.2 fun t67 =>
  vLoad none t67 h fun t68 =>
  vBin Try.prog .gtr 3 t68 (.int .i64 1099511627776) fun t70 =>
  dIf t70 (xr ((.pointer none), (.int .i64 92), f.1) h)
  (vBin Try.prog .add 3 s.2.2 (.int .i64 1) fun t71 =>
  kn f (s.1, s.2.1, t71) h))
  (x2 (s.1, s.2.1, f.1) h)

def sh17 (a0 a1 a2 : Value) (h : PH) (R : AEnd → PH → Prop) : Prop :=
  vCall Try.prog 23 #[a0, a1] h (fun t19 h_1 =>
  vExt t19 0 fun t20 =>
  vExt t19 1 fun t21 =>
  vBin Try.prog .neq 29 t21 (.int .i64 0) fun t23 =>
  dIf t23 (R (.ret (.tuple #[(.pointer none), t21])) h_1)
  (vLenS a2 fun t26 =>
  vBin Try.prog .neq 3 t26 a0 fun t28 =>
  dIf t28 (R (.ret (.tuple #[(.pointer none), (.int .i64 92)])) h_1)
  (vLenS a2 fun t30 =>
  lf (b17_7 (fun c h => R (.pan c) h) (fun v h => exq (fun ρ => (ρ 6, ρ 7, ρ 8)) v (fun r h_2 =>
  vCall Try.prog 14 #[(r 8)] h_2 (fun t57 h_3 =>
  vExt t57 0 fun t58 =>
  vExt t57 1 fun t59 =>
  vNew #[.int .i64 0, .int .i64 0, .int .i64 0, .int .i64 0] 37 h_3 fun t13 h_4 =>
  vStore 4 t13 t59 h_4 fun h_5 =>
  (1 * 1 ≤ 2 ^ 24) ∧ vBuildS 3 1 1 #[.int .i64 0] [(0, t58)] h_5 fun t61 h_6 =>
  vSlA 4 1 none none t13 fun t62 =>
  (0 < 1) ∧ (0 < 8) ∧ (Array.size #[(.int .i64 0 : Value)] = 1) ∧ vAppend false 3 1 8 t61 t62 h_6 fun t63 h_7 =>
  vLenS t63 fun t64 =>
  lf (b17_14 (fun c h => R (.pan c) h) (fun v h => exq (fun ρ => (ρ 6, ρ 7, ρ 8)) v (fun r_1 h_8 =>
  R (.ret (.tuple #[(r_1 8), (.int .i64 0)])) h_8) h) (fun v h => exq (fun ρ => (ρ 6, ρ 7, ρ 8)) v (fun r_1 h_9 =>
  R (.ret (.tuple #[(r_1 6), (r_1 7)])) h_9) h)) ((r 8), t63, t64) ((r 6), (r 7), (.int .i64 0)) h_7)
  (fun c h => R (.pan c) h)) h) (fun v h => exq (fun ρ => (ρ 6, ρ 7, ρ 8)) v (fun r h_10 =>
  R (.ret (.tuple #[(r 6), (r 7)])) h_10) h)) (t20, a2, t30) ((.pointer none), (.int .i64 0), (.int .i64 0)) h_1)))
  (fun c h => R (.pan c) h)
def L17 (Kp : List PanicEntry → PH → Prop) : Loops := fun c Q ρ h =>
    sel (Nat.beq (loopId c) 7) (lf (b17_7 Kp (fun v h => exq (fun ρ => (ρ 6, ρ 7, ρ 8)) v (Q (.exit 0)) h) (fun v h => exq (fun ρ => (ρ 6, ρ 7, ρ 8)) v (Q .ret) h)) ((fun ρ => (ρ 8, ρ 29, ρ 30)) ρ) ((fun ρ => (ρ 6, ρ 7, ρ 31)) ρ) h)
    (sel (Nat.beq (loopId c) 14) (lf (b17_14 Kp (fun v h => exq (fun ρ => (ρ 6, ρ 7, ρ 8)) v (Q (.exit 2)) h) (fun v h => exq (fun ρ => (ρ 6, ρ 7, ρ 8)) v (Q .ret) h)) ((fun ρ => (ρ 8, ρ 63, ρ 64)) ρ) ((fun ρ => (ρ 6, ρ 7, ρ 65)) ρ) h)
    (False))
theorem B17_7 (Kp : List PanicEntry → PH → Prop) (KN : (Value × Value × Value) → (Value × Value × Value) → PH → Prop) (XX : Exit → (Value × Value × Value) → PH → Prop) (ρ : Env) (h : PH) :
    den Try.prog qf (ordOf o17) Kp (L17 Kp) (loopAt c17 0) (lq KN XX (fun ρ => (ρ 8, ρ 29, ρ 30)) (fun ρ => (ρ 6, ρ 7, ρ 31)) (fun ρ => (ρ 6, ρ 7, ρ 8))) ρ h = b17_7 Kp (XX (.exit 0)) (XX .ret) ((fun ρ => (ρ 8, ρ 29, ρ 30)) ρ) KN ((fun ρ => (ρ 6, ρ 7, ρ 31)) ρ) h := by kernel_rfl
theorem B17_14 (Kp : List PanicEntry → PH → Prop) (KN : (Value × Value × Value) → (Value × Value × Value) → PH → Prop) (XX : Exit → (Value × Value × Value) → PH → Prop) (ρ : Env) (h : PH) :
    den Try.prog qf (ordOf o17) Kp (L17 Kp) (loopAt c17 1) (lq KN XX (fun ρ => (ρ 8, ρ 63, ρ 64)) (fun ρ => (ρ 6, ρ 7, ρ 65)) (fun ρ => (ρ 6, ρ 7, ρ 8))) ρ h = b17_14 Kp (XX (.exit 2)) (XX .ret) ((fun ρ => (ρ 8, ρ 63, ρ 64)) ρ) KN ((fun ρ => (ρ 6, ρ 7, ρ 65)) ρ) h := by kernel_rfl
theorem l17 (R : AEnd → PH → Prop) : LoopsOK Try.prog qf (ordOf o17) (fun c h => R (.pan c) h) (L17 (fun c h => R (.pan c) h)) c17 :=
  LoopsOK.mk 2 (by kernel_rfl) fun i hi Q ρ h H => match i, hi with
    | 0, _ => loop_gen (F := Value × Value × Value) (S := Value × Value × Value) (X := Value × Value × Value) (φ := (fun ρ => (ρ 8, ρ 29, ρ 30))) (π := (fun ρ => (ρ 6, ρ 7, ρ 31))) (ξ := (fun ρ => (ρ 6, ρ 7, ρ 8))) (B := (fun (XX : Exit → (Value × Value × Value) → PH → Prop) => b17_7 (fun c h => R (.pan c) h) (XX (.exit 0)) (XX .ret))) (B17_7 _) (of_den (by kernel_rfl) H)
    | 1, _ => loop_gen (F := Value × Value × Value) (S := Value × Value × Value) (X := Value × Value × Value) (φ := (fun ρ => (ρ 8, ρ 63, ρ 64))) (π := (fun ρ => (ρ 6, ρ 7, ρ 65))) (ξ := (fun ρ => (ρ 6, ρ 7, ρ 8))) (B := (fun (XX : Exit → (Value × Value × Value) → PH → Prop) => b17_14 (fun c h => R (.pan c) h) (XX (.exit 2)) (XX .ret))) (B17_14 _) (of_den (by kernel_rfl) H)
    | n + 2, hi => absurd hi (by omega)
theorem e17 (a0 a1 a2 : Value) (h : PH) (R : AEnd → PH → Prop) : denF Try.prog qf (ordOf o17) (L17 (fun c h => R (.pan c) h)) Try.f17.results.toList c17 #[a0, a1, a2] h R = sh17 a0 a1 a2 h R := by kernel_rfl
theorem k17 : codeOK Try.prog qf Try.f17.ntmps (ordOf o17) c17 = true := by kernel_rfl
theorem s17 : Try.f17.body = some c17 := by kernel_rfl
theorem call17 {a0 a1 a2 : Value} {h : PH} {R : AEnd → PH → Prop} (H : sh17 a0 a1 a2 h R) : ACalls Try.prog 17 #[a0, a1, a2] h R :=
  ACalls_of_den mixed Try.func17 s17 (by kernel_rfl) k17 (l17 R) (of_den (e17 a0 a1 a2 h R) H)

/- gavel/gavelref06.Of -/
noncomputable def c18 : Code := bodyOf Try.f18
def o18 : List (Nat × List (Nat × List Nat)) := [(10, [(0, []), (1, []), (2, []), (3, []), (4, []), (5, []), (6, []), (7, []), (8, []), (9, [7]), (10, []), (11, [])])]
def b18_7 (Kp : List PanicEntry → PH → Prop) (x0 : (Value × Value × Value × Value) → PH → Prop) (xr : (Value × Value × Value × Value) → PH → Prop) (f : Value × Value × Value × Value × Value) (kn : (Value × Value × Value × Value × Value) → (Value × Value) → PH → Prop) (s : Value × Value) (h : PH) : Prop :=
  vBin Try.prog .lss 3 s.2 f.1 fun t30 =>
  dIf t30 (vIxS 2 f.2.2.1 s.2 fun t37 =>
  vFA 1 t37 fun t38 =>
  vLoad none t38 h fun t39 =>
  vCall Try.prog 41 #[f.2.1, t39] h (fun t40 h_1 =>
  vExt t40 0 fun t41 =>
  vExt t40 1 fun t42 =>
  vNew #[.int .i64 0, .int .i64 0, .int .i64 0, .int .i64 0, .int .i64 0, .int .i64 0, .int .i64 0, .int .i64 0, .int .i64 0, .int .i64 0, .int .i64 0, .string ⟨#[]⟩] 83 h_1 fun t11 h_2 =>
  vStore 12 t11 t41 h_2 fun h_3 =>
  vUn Try.prog .not t42 fun t44 =>
  gq (boolOf t44) false (fun K =>
  K f.2.2.1 h_3)
  (fun t46 h_4 =>
  gq (boolOf t44) false (fun K_1 =>
  K_1 s.2 h_4)
  (fun t47 h_5 =>
  gq (boolOf t44) false (fun K_2 =>
  vIxS 2 t46 t47 fun u =>
  K_2 u h_5)
  (fun t48 h_6 =>
  gq (boolOf t44) false (fun K_3 =>
  vFA 0 t48 fun u_1 =>
  K_3 u_1 h_6)
  (fun t49 h_7 =>
  gq (boolOf t44) false (fun K_4 =>
  vLoad none t49 h_7 fun u_2 =>
  K_4 u_2 h_7)
  (fun t50 h_8 =>
  gq (boolOf t44) false (fun K_5 =>
  K_5 s.2 h_8)
  (fun t51 h_9 =>
  gq (boolOf t44) false (fun K_6 =>
  vCall Try.prog 42 #[t51] h_9 (fun u_3 h_10 =>
  K_6 u_3 h_10)
  Kp)
  (fun t52 h_11 =>
  (gd (boolOf t44) false (vLoad none t49 h_11 fun u_4 =>
  t50 = u_4)) ∧
  gq (boolOf t44) false (fun K_7 =>
  vBin Try.prog .neq 9 t50 t52 fun u_5 =>
  K_7 u_5 h_11)
  (fun t53 h_12 =>
  vPick t44 (.bool true) t53 fun t54 =>
  dIf t54 (vBuild [(0, 1), (1, 1)] #[.int .i64 0, .slice none 0 0] [] fun t55 =>
  vStore 2 f.2.2.2.1 t55 h_12 fun h_13 =>
  xr (f.2.1, f.2.2.2.1, (.int .i64 92), f.2.2.2.2) h_13)
  (vFA 1 f.2.2.2.2 fun t56 =>
  vLoad none t56 h_12 fun t57 =>
  vLoad (some 12) t11 h_12 fun t59 =>
  vIxS 12 t57 s.2 fun t60 =>
  vStore 12 t60 t59 h_12 fun h_14 =>
  vBin Try.prog .add 3 s.2 (.int .i64 1) fun t32 =>
  kn f (s.1, t32) h_14)) h_11) h_9) h_8) h_7) h_6) h_5) h_4) h_3)
  Kp)
  (x0 (f.2.1, f.2.2.2.1, s.1, f.2.2.2.2) h)

def b18_14 (Kp : List PanicEntry → PH → Prop) (x2 : (Value × Value × Value) → PH → Prop) (xr : (Value × Value × Value) → PH → Prop) (f : Value × Value × Value) (kn : (Value × Value × Value) → (Value × Value) → PH → Prop) (s : Value × Value) (h : PH) : Prop :=
  vBin Try.prog .leq 3 s.2 f.1 fun t63 =>
  dIf t63 (vLoad (some 2) f.2.2 h fun t66 =>
  vCall Try.prog 43 #[t66, s.2] h (fun t68 h_1 =>
  vBin Try.prog .gtr 3 t68 (.int .i64 1099511627776) fun t69 =>
  dIf t69 (vBuild [(0, 1), (1, 1)] #[.int .i64 0, .slice none 0 0] [] fun t70 =>
  vStore 2 f.2.1 t70 h_1 fun h_2 =>
  xr (f.2.1, (.int .i64 92), f.2.2) h_2)
  (vBin Try.prog .add 3 s.2 (.int .i64 1) fun t65 =>
  kn f (s.1, t65) h_1))
  Kp)
  (x2 (f.2.1, s.1, f.2.2) h)

def sh18 (a0 a1 a2 : Value) (h : PH) (R : AEnd → PH → Prop) : Prop :=
  vNew #[.int .i64 0, .slice none 0 0] 52 h fun t6 h_1 =>
  vCall Try.prog 20 #[a0, a1] h_1 (fun t17 h_2 =>
  vExt t17 0 fun t18 =>
  vExt t17 1 fun t19 =>
  vNew #[.int .i64 0, .slice none 0 0] 52 h_2 fun t8 h_3 =>
  vStore 2 t8 t18 h_3 fun h_4 =>
  vUn Try.prog .not t19 fun t21 =>
  dIf t21 (vLoad (some 2) t8 h_4 fun t22 =>
  vStore 2 t6 t22 h_4 fun h_5 =>
  vLoad (some 2) t6 h_5 fun rv =>
  R (.ret (.tuple #[rv, (.int .i64 1)])) h_5)
  (vLenS a2 fun t24 =>
  vBin Try.prog .neq 3 t24 a0 fun t26 =>
  dIf t26 (vBuild [(0, 1), (1, 1)] #[.int .i64 0, .slice none 0 0] [] fun t27 =>
  vStore 2 t6 t27 h_4 fun h_6 =>
  vLoad (some 2) t6 h_6 fun rv_1 =>
  R (.ret (.tuple #[rv_1, (.int .i64 92)])) h_6)
  (lf (b18_7 (fun c h => R (.pan c) h) (fun v h => exq (fun ρ => (ρ 1, ρ 6, ρ 7, ρ 8)) v (fun r h_7 =>
  lf (b18_14 (fun c h => R (.pan c) h) (fun v h => exq (fun ρ => (ρ 6, ρ 7, ρ 8)) v (fun r_1 h_8 =>
  vLoad (some 2) (r_1 8) h_8 fun t71 =>
  vStore 2 (r_1 6) t71 h_8 fun h_9 =>
  vLoad (some 2) (r_1 6) h_9 fun rv_2 =>
  R (.ret (.tuple #[rv_2, (.int .i64 0)])) h_9) h) (fun v h => exq (fun ρ => (ρ 6, ρ 7, ρ 8)) v (fun r_1 h_10 =>
  vLoad (some 2) (r_1 6) h_10 fun rv_3 =>
  R (.ret (.tuple #[rv_3, (r_1 7)])) h_10) h)) ((r 1), (r 6), (r 8)) ((r 7), (.int .i64 0)) h_7) h) (fun v h => exq (fun ρ => (ρ 1, ρ 6, ρ 7, ρ 8)) v (fun r h_11 =>
  vLoad (some 2) (r 6) h_11 fun rv_4 =>
  R (.ret (.tuple #[rv_4, (r 7)])) h_11) h)) (a0, a1, a2, t6, t8) ((.int .i64 0), (.int .i64 0)) h_4)))
  (fun c h => R (.pan c) h)
def L18 (Kp : List PanicEntry → PH → Prop) : Loops := fun c Q ρ h =>
    sel (Nat.beq (loopId c) 7) (lf (b18_7 Kp (fun v h => exq (fun ρ => (ρ 1, ρ 6, ρ 7, ρ 8)) v (Q (.exit 0)) h) (fun v h => exq (fun ρ => (ρ 1, ρ 6, ρ 7, ρ 8)) v (Q .ret) h)) ((fun ρ => (ρ 0, ρ 1, ρ 2, ρ 6, ρ 8)) ρ) ((fun ρ => (ρ 7, ρ 10)) ρ) h)
    (sel (Nat.beq (loopId c) 14) (lf (b18_14 Kp (fun v h => exq (fun ρ => (ρ 6, ρ 7, ρ 8)) v (Q (.exit 2)) h) (fun v h => exq (fun ρ => (ρ 6, ρ 7, ρ 8)) v (Q .ret) h)) ((fun ρ => (ρ 1, ρ 6, ρ 8)) ρ) ((fun ρ => (ρ 7, ρ 13)) ρ) h)
    (False))
theorem B18_7 (Kp : List PanicEntry → PH → Prop) (KN : (Value × Value × Value × Value × Value) → (Value × Value) → PH → Prop) (XX : Exit → (Value × Value × Value × Value) → PH → Prop) (ρ : Env) (h : PH) :
    den Try.prog qf (ordOf o18) Kp (L18 Kp) (loopAt c18 0) (lq KN XX (fun ρ => (ρ 0, ρ 1, ρ 2, ρ 6, ρ 8)) (fun ρ => (ρ 7, ρ 10)) (fun ρ => (ρ 1, ρ 6, ρ 7, ρ 8))) ρ h = b18_7 Kp (XX (.exit 0)) (XX .ret) ((fun ρ => (ρ 0, ρ 1, ρ 2, ρ 6, ρ 8)) ρ) KN ((fun ρ => (ρ 7, ρ 10)) ρ) h := by kernel_rfl
theorem B18_14 (Kp : List PanicEntry → PH → Prop) (KN : (Value × Value × Value) → (Value × Value) → PH → Prop) (XX : Exit → (Value × Value × Value) → PH → Prop) (ρ : Env) (h : PH) :
    den Try.prog qf (ordOf o18) Kp (L18 Kp) (loopAt c18 1) (lq KN XX (fun ρ => (ρ 1, ρ 6, ρ 8)) (fun ρ => (ρ 7, ρ 13)) (fun ρ => (ρ 6, ρ 7, ρ 8))) ρ h = b18_14 Kp (XX (.exit 2)) (XX .ret) ((fun ρ => (ρ 1, ρ 6, ρ 8)) ρ) KN ((fun ρ => (ρ 7, ρ 13)) ρ) h := by kernel_rfl
theorem l18 (R : AEnd → PH → Prop) : LoopsOK Try.prog qf (ordOf o18) (fun c h => R (.pan c) h) (L18 (fun c h => R (.pan c) h)) c18 :=
  LoopsOK.mk 2 (by kernel_rfl) fun i hi Q ρ h H => match i, hi with
    | 0, _ => loop_gen (F := Value × Value × Value × Value × Value) (S := Value × Value) (X := Value × Value × Value × Value) (φ := (fun ρ => (ρ 0, ρ 1, ρ 2, ρ 6, ρ 8))) (π := (fun ρ => (ρ 7, ρ 10))) (ξ := (fun ρ => (ρ 1, ρ 6, ρ 7, ρ 8))) (B := (fun (XX : Exit → (Value × Value × Value × Value) → PH → Prop) => b18_7 (fun c h => R (.pan c) h) (XX (.exit 0)) (XX .ret))) (B18_7 _) (of_den (by kernel_rfl) H)
    | 1, _ => loop_gen (F := Value × Value × Value) (S := Value × Value) (X := Value × Value × Value) (φ := (fun ρ => (ρ 1, ρ 6, ρ 8))) (π := (fun ρ => (ρ 7, ρ 13))) (ξ := (fun ρ => (ρ 6, ρ 7, ρ 8))) (B := (fun (XX : Exit → (Value × Value × Value) → PH → Prop) => b18_14 (fun c h => R (.pan c) h) (XX (.exit 2)) (XX .ret))) (B18_14 _) (of_den (by kernel_rfl) H)
    | n + 2, hi => absurd hi (by omega)
theorem e18 (a0 a1 a2 : Value) (h : PH) (R : AEnd → PH → Prop) : denF Try.prog qf (ordOf o18) (L18 (fun c h => R (.pan c) h)) Try.f18.results.toList c18 #[a0, a1, a2] h R = sh18 a0 a1 a2 h R := by kernel_rfl
theorem k18 : codeOK Try.prog qf Try.f18.ntmps (ordOf o18) c18 = true := by kernel_rfl
theorem s18 : Try.f18.body = some c18 := by kernel_rfl
theorem call18 {a0 a1 a2 : Value} {h : PH} {R : AEnd → PH → Prop} (H : sh18 a0 a1 a2 h R) : ACalls Try.prog 18 #[a0, a1, a2] h R :=
  ACalls_of_den mixed Try.func18 s18 (by kernel_rfl) k18 (l18 R) (of_den (e18 a0 a1 a2 h R) H)

/- gavel/gavellaw06.like -/
noncomputable def c19 : Code := bodyOf Try.f19
def o19 : List (Nat × List (Nat × List Nat)) := [(7, [(0, []), (1, []), (2, []), (3, []), (4, []), (5, []), (6, [2]), (7, [])]), (14, [(0, []), (1, []), (2, []), (3, []), (4, []), (5, []), (6, []), (7, []), (8, []), (9, [3]), (10, []), (11, []), (12, []), (13, []), (14, []), (15, []), (16, []), (17, []), (18, []), (19, []), (20, []), (21, []), (22, []), (23, []), (24, []), (25, []), (26, []), (27, []), (28, []), (29, []), (30, []), (31, [])])]
def b19_5 (Kp : List PanicEntry → PH → Prop) (x0 : (Value × Value × Value) → PH → Prop) (xr : (Value × Value × Value) → PH → Prop) (f : Value × Value × Value) (kn : (Value × Value × Value) → (Value × Value) → PH → Prop) (s : Value × Value) (h : PH) : Prop :=
  vBin Try.prog .lss 3 s.2 (.int .i64 4) fun t27 =>
  dIf t27 (vIxA 4 1 f.2.2 s.2 fun t31 =>
  vLoad none t31 h fun t32 =>
  vLoad (some 2) f.2.1 h fun t33 =>
  vBin Try.prog .add 3 s.2 (.int .i64 1) fun t35 =>
  vCall Try.prog 43 #[t33, t35] h (fun t36 h_1 =>
  (vLoad none t31 h_1 fun u =>
  t32 = u) ∧
  vBin Try.prog .neq 3 t32 t36 fun t37 =>
  dIf t37 (xr (f.1, f.2.1, (.bool false)) h_1)
  (vBin Try.prog .add 3 s.2 (.int .i64 1) fun t29 =>
  kn f (s.1, t29) h_1))
  Kp)
  (x0 (f.1, f.2.1, s.1) h)

def b19_10 (Kp : List PanicEntry → PH → Prop) (x2 : (Value × Value × Value) → PH → Prop) (xr : (Value × Value × Value) → PH → Prop) (f : Value × Value) (kn : (Value × Value) → (Value × Value) → PH → Prop) (s : Value × Value) (h : PH) : Prop :=
  vFA 1 f.2 fun t39 =>
  vLoad none t39 h fun t40 =>
  vLenS t40 fun t41 =>
  vBin Try.prog .lss 3 s.2 t41 fun t42 =>
  dIf t42 (vCall Try.prog 16 #[f.1, s.2] h (fun t48 h_1 =>
  vExt t48 0 fun t49 =>
  vExt t48 1 fun t50 =>
  vNew #[.int .i64 0, .int .i64 0, .int .i64 0, .int .i64 0, .int .i64 0, .int .i64 0, .int .i64 0, .int .i64 0, .int .i64 0, .int .i64 0] 43 h_1 fun t9 h_2 =>
  vStore 10 t9 t49 h_2 fun h_3 =>
  vCall Try.prog 15 #[f.1, s.2] h_3 (fun t54 h_4 =>
  vExt t54 0 fun t55 =>
  vExt t54 1 fun t56 =>
  vUn Try.prog .not t50 fun t58 =>
  gq (boolOf t58) false (fun K =>
  vLoad (some 10) t9 h_4 fun u =>
  K u h_4)
  (fun t60 h_5 =>
  gq (boolOf t58) false (fun K_1 =>
  vFA 1 f.2 fun u_1 =>
  K_1 u_1 h_5)
  (fun t61 h_6 =>
  gq (boolOf t58) false (fun K_2 =>
  vLoad none t61 h_6 fun u_2 =>
  K_2 u_2 h_6)
  (fun t62 h_7 =>
  gq (boolOf t58) false (fun K_3 =>
  K_3 s.2 h_7)
  (fun t63 h_8 =>
  gq (boolOf t58) false (fun K_4 =>
  vIxS 12 t62 t63 fun u_3 =>
  K_4 u_3 h_8)
  (fun t64 h_9 =>
  gq (boolOf t58) false (fun K_5 =>
  vLoad (some 12) t64 h_9 fun u_4 =>
  K_5 u_4 h_9)
  (fun t65 h_10 =>
  gq (boolOf t58) false (fun K_6 =>
  vCall Try.prog 44 #[t65] h_10 (fun u_5 h_11 =>
  K_6 u_5 h_11)
  Kp)
  (fun t66 h_12 =>
  (gd (boolOf t58) false (vLoad (some 10) t9 h_12 fun u_6 =>
  t60 = u_6)) ∧
  gq (boolOf t58) false (fun K_7 =>
  vBin Try.prog .neq 43 t60 t66 fun u_7 =>
  K_7 u_7 h_12)
  (fun t67 h_13 =>
  vPick t58 (.bool true) t67 fun t68 =>
  gq (boolOf t68) false (fun K_8 =>
  K_8 t55 h_13)
  (fun t70 h_14 =>
  gq (boolOf t68) false (fun K_9 =>
  vFA 1 f.2 fun u_8 =>
  K_9 u_8 h_14)
  (fun t71 h_15 =>
  gq (boolOf t68) false (fun K_10 =>
  vLoad none t71 h_15 fun u_9 =>
  K_10 u_9 h_15)
  (fun t72 h_16 =>
  gq (boolOf t68) false (fun K_11 =>
  K_11 s.2 h_16)
  (fun t73 h_17 =>
  gq (boolOf t68) false (fun K_12 =>
  vIxS 12 t72 t73 fun u_10 =>
  K_12 u_10 h_17)
  (fun t74 h_18 =>
  gq (boolOf t68) false (fun K_13 =>
  vFA 10 t74 fun u_11 =>
  K_13 u_11 h_18)
  (fun t75 h_19 =>
  gq (boolOf t68) false (fun K_14 =>
  vLoad none t75 h_19 fun u_12 =>
  K_14 u_12 h_19)
  (fun t76 h_20 =>
  gq (boolOf t68) false (fun K_15 =>
  vBin Try.prog .neq 3 t70 t76 fun u_13 =>
  K_15 u_13 h_20)
  (fun t77 h_21 =>
  vPick t68 (.bool true) t77 fun t78 =>
  gq (boolOf t78) false (fun K_16 =>
  K_16 t56 h_21)
  (fun t80 h_22 =>
  gq (boolOf t78) false (fun K_17 =>
  vFA 1 f.2 fun u_14 =>
  K_17 u_14 h_22)
  (fun t81 h_23 =>
  gq (boolOf t78) false (fun K_18 =>
  vLoad none t81 h_23 fun u_15 =>
  K_18 u_15 h_23)
  (fun t82 h_24 =>
  gq (boolOf t78) false (fun K_19 =>
  K_19 s.2 h_24)
  (fun t83 h_25 =>
  gq (boolOf t78) false (fun K_20 =>
  vIxS 12 t82 t83 fun u_16 =>
  K_20 u_16 h_25)
  (fun t84 h_26 =>
  gq (boolOf t78) false (fun K_21 =>
  vFA 11 t84 fun u_17 =>
  K_21 u_17 h_26)
  (fun t85 h_27 =>
  gq (boolOf t78) false (fun K_22 =>
  vLoad none t85 h_27 fun u_18 =>
  K_22 u_18 h_27)
  (fun t86 h_28 =>
  gq (boolOf t78) false (fun K_23 =>
  vBin Try.prog .neq 9 t80 t86 fun u_19 =>
  K_23 u_19 h_28)
  (fun t87 h_29 =>
  vPick t78 (.bool true) t87 fun t88 =>
  dIf t88 (xr (f.1, f.2, (.bool false)) h_29)
  (vBin Try.prog .add 3 s.2 (.int .i64 1) fun t44 =>
  kn f (s.1, t44) h_29)) h_28) h_27) h_26) h_25) h_24) h_23) h_22) h_21) h_20) h_19) h_18) h_17) h_16) h_15) h_14) h_13) h_12) h_10) h_9) h_8) h_7) h_6) h_5) h_4)
  Kp)
  Kp)
  (x2 (f.1, f.2, s.1) h)

def sh19 (a0 a1 : Value) (h : PH) (R : AEnd → PH → Prop) : Prop :=
  vNew (Value.cells a1) 52 h fun t3 h_1 =>
  vCall Try.prog 14 #[a0] h_1 (fun t19 h_2 =>
  vExt t19 0 fun t20 =>
  vExt t19 1 fun t21 =>
  vNew #[.int .i64 0, .int .i64 0, .int .i64 0, .int .i64 0] 37 h_2 fun t6 h_3 =>
  vStore 4 t6 t21 h_3 fun h_4 =>
  vLoad (some 2) t3 h_4 fun t23 =>
  vCall Try.prog 43 #[t23, (.int .i64 0)] h_4 (fun t24 h_5 =>
  vBin Try.prog .neq 3 t20 t24 fun t25 =>
  dIf t25 (R (.ret (.bool false)) h_5)
  (lf (b19_5 (fun c h => R (.pan c) h) (fun v h => exq (fun ρ => (ρ 0, ρ 3, ρ 4)) v (fun r h_6 =>
  lf (b19_10 (fun c h => R (.pan c) h) (fun v h => exq (fun ρ => (ρ 0, ρ 3, ρ 4)) v (fun r_1 h_7 =>
  vCall Try.prog 16 #[(r_1 0), (.int .i64 (-1))] h_7 (fun t91 h_8 =>
  vExt t91 0 fun t92 =>
  vExt t91 1 fun t93 =>
  vNew #[.int .i64 0, .int .i64 0, .int .i64 0, .int .i64 0, .int .i64 0, .int .i64 0, .int .i64 0, .int .i64 0, .int .i64 0, .int .i64 0] 43 h_8 fun t13 h_9 =>
  vStore 10 t13 t92 h_9 fun h_10 =>
  vFA 1 (r_1 3) fun t96 =>
  vLoad none t96 h_10 fun t97 =>
  vLenS t97 fun t98 =>
  vCall Try.prog 16 #[(r_1 0), t98] h_10 (fun t99 h_11 =>
  vExt t99 0 fun t100 =>
  vExt t99 1 fun t101 =>
  vNew #[.int .i64 0, .int .i64 0, .int .i64 0, .int .i64 0, .int .i64 0, .int .i64 0, .int .i64 0, .int .i64 0, .int .i64 0, .int .i64 0] 43 h_11 fun t15 h_12 =>
  vStore 10 t15 t100 h_12 fun h_13 =>
  vUn Try.prog .not t93 fun t103 =>
  gq (boolOf t103) true (fun K =>
  K t101 h_13)
  (fun t105 h_14 =>
  gq (boolOf t103) true (fun K_1 =>
  vUn Try.prog .not t105 fun u =>
  K_1 u h_14)
  (fun t106 h_15 =>
  vPick t103 t106 (.bool false) fun t107 =>
  R (.ret t107) h_15) h_14) h_13)
  (fun c h => R (.pan c) h))
  (fun c h => R (.pan c) h)) h) (fun v h => exq (fun ρ => (ρ 0, ρ 3, ρ 4)) v (fun r_1 h_16 =>
  R (.ret (r_1 4)) h_16) h)) ((r 0), (r 3)) ((r 4), (.int .i64 0)) h_6) h) (fun v h => exq (fun ρ => (ρ 0, ρ 3, ρ 4)) v (fun r h_17 =>
  R (.ret (r 4)) h_17) h)) (a0, t3, t6) ((.bool false), (.int .i64 0)) h_5))
  (fun c h => R (.pan c) h))
  (fun c h => R (.pan c) h)
def L19 (Kp : List PanicEntry → PH → Prop) : Loops := fun c Q ρ h =>
    sel (Nat.beq (loopId c) 5) (lf (b19_5 Kp (fun v h => exq (fun ρ => (ρ 0, ρ 3, ρ 4)) v (Q (.exit 0)) h) (fun v h => exq (fun ρ => (ρ 0, ρ 3, ρ 4)) v (Q .ret) h)) ((fun ρ => (ρ 0, ρ 3, ρ 6)) ρ) ((fun ρ => (ρ 4, ρ 7)) ρ) h)
    (sel (Nat.beq (loopId c) 10) (lf (b19_10 Kp (fun v h => exq (fun ρ => (ρ 0, ρ 3, ρ 4)) v (Q (.exit 2)) h) (fun v h => exq (fun ρ => (ρ 0, ρ 3, ρ 4)) v (Q .ret) h)) ((fun ρ => (ρ 0, ρ 3)) ρ) ((fun ρ => (ρ 4, ρ 8)) ρ) h)
    (False))
theorem B19_5 (Kp : List PanicEntry → PH → Prop) (KN : (Value × Value × Value) → (Value × Value) → PH → Prop) (XX : Exit → (Value × Value × Value) → PH → Prop) (ρ : Env) (h : PH) :
    den Try.prog qf (ordOf o19) Kp (L19 Kp) (loopAt c19 0) (lq KN XX (fun ρ => (ρ 0, ρ 3, ρ 6)) (fun ρ => (ρ 4, ρ 7)) (fun ρ => (ρ 0, ρ 3, ρ 4))) ρ h = b19_5 Kp (XX (.exit 0)) (XX .ret) ((fun ρ => (ρ 0, ρ 3, ρ 6)) ρ) KN ((fun ρ => (ρ 4, ρ 7)) ρ) h := by kernel_rfl
theorem B19_10 (Kp : List PanicEntry → PH → Prop) (KN : (Value × Value) → (Value × Value) → PH → Prop) (XX : Exit → (Value × Value × Value) → PH → Prop) (ρ : Env) (h : PH) :
    den Try.prog qf (ordOf o19) Kp (L19 Kp) (loopAt c19 1) (lq KN XX (fun ρ => (ρ 0, ρ 3)) (fun ρ => (ρ 4, ρ 8)) (fun ρ => (ρ 0, ρ 3, ρ 4))) ρ h = b19_10 Kp (XX (.exit 2)) (XX .ret) ((fun ρ => (ρ 0, ρ 3)) ρ) KN ((fun ρ => (ρ 4, ρ 8)) ρ) h := by kernel_rfl
theorem l19 (R : AEnd → PH → Prop) : LoopsOK Try.prog qf (ordOf o19) (fun c h => R (.pan c) h) (L19 (fun c h => R (.pan c) h)) c19 :=
  LoopsOK.mk 2 (by kernel_rfl) fun i hi Q ρ h H => match i, hi with
    | 0, _ => loop_gen (F := Value × Value × Value) (S := Value × Value) (X := Value × Value × Value) (φ := (fun ρ => (ρ 0, ρ 3, ρ 6))) (π := (fun ρ => (ρ 4, ρ 7))) (ξ := (fun ρ => (ρ 0, ρ 3, ρ 4))) (B := (fun (XX : Exit → (Value × Value × Value) → PH → Prop) => b19_5 (fun c h => R (.pan c) h) (XX (.exit 0)) (XX .ret))) (B19_5 _) (of_den (by kernel_rfl) H)
    | 1, _ => loop_gen (F := Value × Value) (S := Value × Value) (X := Value × Value × Value) (φ := (fun ρ => (ρ 0, ρ 3))) (π := (fun ρ => (ρ 4, ρ 8))) (ξ := (fun ρ => (ρ 0, ρ 3, ρ 4))) (B := (fun (XX : Exit → (Value × Value × Value) → PH → Prop) => b19_10 (fun c h => R (.pan c) h) (XX (.exit 2)) (XX .ret))) (B19_10 _) (of_den (by kernel_rfl) H)
    | n + 2, hi => absurd hi (by omega)
theorem e19 (a0 a1 : Value) (h : PH) (R : AEnd → PH → Prop) : denF Try.prog qf (ordOf o19) (L19 (fun c h => R (.pan c) h)) Try.f19.results.toList c19 #[a0, a1] h R = sh19 a0 a1 h R := by kernel_rfl
theorem k19 : codeOK Try.prog qf Try.f19.ntmps (ordOf o19) c19 = true := by kernel_rfl
theorem s19 : Try.f19.body = some c19 := by kernel_rfl
theorem call19 {a0 a1 : Value} {h : PH} {R : AEnd → PH → Prop} (H : sh19 a0 a1 h R) : ACalls Try.prog 19 #[a0, a1] h R :=
  ACalls_of_den mixed Try.func19 s19 (by kernel_rfl) k19 (l19 R) (of_den (e19 a0 a1 h R) H)

/- gavel/gavelref06.New -/
noncomputable def c20 : Code := bodyOf Try.f20
def o20 : List (Nat × List (Nat × List Nat)) := []
def b20_6 (Kp : List PanicEntry → PH → Prop) (x0 : (Value × Value) → PH → Prop) (f : Value × Value × Value) (kn : (Value × Value × Value) → Value → PH → Prop) (s : Value) (h : PH) : Prop :=
  vBin Try.prog .lss 3 s f.1 fun t27 =>
  dIf t27 (vFA 1 f.2.2 fun t30 =>
  vLoad none t30 h fun t31 =>
  vBuild [(0, 5), (5, 5), (10, 1), (11, 1)] #[.int .i64 0, .int .i64 0, .int .i64 0, .int .i64 0, .int .i64 0, .int .i64 0, .int .i64 0, .int .i64 0, .int .i64 0, .int .i64 0, .int .i64 0, .string ⟨#[]⟩] [] fun t32 =>
  (1 * 12 ≤ 2 ^ 24) ∧ vBuildS 83 12 1 #[.int .i64 0, .int .i64 0, .int .i64 0, .int .i64 0, .int .i64 0, .int .i64 0, .int .i64 0, .int .i64 0, .int .i64 0, .int .i64 0, .int .i64 0, .string ⟨#[]⟩] [(0, t32)] h fun t33 h_1 =>
  (0 < 12) ∧ (0 < 104) ∧ (Array.size #[(.int .i64 0 : Value), (.int .i64 0 : Value), (.int .i64 0 : Value), (.int .i64 0 : Value), (.int .i64 0 : Value), (.int .i64 0 : Value), (.int .i64 0 : Value), (.int .i64 0 : Value), (.int .i64 0 : Value), (.int .i64 0 : Value), (.int .i64 0 : Value), (.string ⟨#[]⟩ : Value)] = 12) ∧ vAppend false 83 12 104 t31 t33 h_1 fun t34 h_2 =>
  vFA 1 f.2.2 fun t35 =>
  vStore 1 t35 t34 h_2 fun h_3 =>
  vBin Try.prog .add 3 s (.int .i64 1) fun t29 =>
  kn f t29 h_3)
  (x0 (f.2.1, f.2.2) h)

def sh20 (a0 a1 : Value) (h : PH) (R : AEnd → PH → Prop) : Prop :=
  vNew #[.int .i64 0, .slice none 0 0] 52 h fun t4 h_1 =>
  vNew #[.int .i64 0, .slice none 0 0] 52 h_1 fun t6 h_2 =>
  vBin Try.prog .lss 3 a0 (.int .i64 1) fun t9 =>
  gq (boolOf t9) false (fun K =>
  K a0 h_2)
  (fun t11 h_3 =>
  gq (boolOf t9) false (fun K_1 =>
  vBin Try.prog .gtr 3 t11 (.int .i64 16) fun u =>
  K_1 u h_3)
  (fun t12 h_4 =>
  vPick t9 (.bool true) t12 fun t13 =>
  gq (boolOf t13) false (fun K_2 =>
  K_2 a1 h_4)
  (fun t15 h_5 =>
  gq (boolOf t13) false (fun K_3 =>
  vBin Try.prog .lss 3 t15 (.int .i64 1) fun u_1 =>
  K_3 u_1 h_5)
  (fun t16 h_6 =>
  vPick t13 (.bool true) t16 fun t17 =>
  gq (boolOf t17) false (fun K_4 =>
  K_4 a1 h_6)
  (fun t19 h_7 =>
  gq (boolOf t17) false (fun K_5 =>
  vBin Try.prog .gtr 3 t19 (.int .i64 4) fun u_2 =>
  K_5 u_2 h_7)
  (fun t20 h_8 =>
  vPick t17 (.bool true) t20 fun t21 =>
  dIf t21 (vLoad (some 2) t6 h_8 fun t22 =>
  vStore 2 t4 t22 h_8 fun h_9 =>
  vLoad (some 2) t4 h_9 fun rv =>
  R (.ret (.tuple #[rv, (.bool false)])) h_9)
  (vFA 0 t6 fun t24 =>
  vStore 1 t24 a1 h_8 fun h_10 =>
  lf (b20_6 (fun c h => R (.pan c) h) (fun v h => exq (fun ρ => (ρ 4, ρ 6)) v (fun r h_11 =>
  vLoad (some 2) (r 6) h_11 fun t36 =>
  vStore 2 (r 4) t36 h_11 fun h_12 =>
  vLoad (some 2) (r 4) h_12 fun rv_1 =>
  R (.ret (.tuple #[rv_1, (.bool true)])) h_12) h)) (a0, t4, t6) (.int .i64 0) h_10)) h_7) h_6) h_5) h_4) h_3) h_2
def L20 (Kp : List PanicEntry → PH → Prop) : Loops := fun c Q ρ h =>
    sel (Nat.beq (loopId c) 6) (lf (b20_6 Kp (fun v h => exq (fun ρ => (ρ 4, ρ 6)) v (Q (.exit 0)) h)) ((fun ρ => (ρ 0, ρ 4, ρ 6)) ρ) ((fun ρ => ρ 7) ρ) h)
    (False)
theorem B20_6 (Kp : List PanicEntry → PH → Prop) (KN : (Value × Value × Value) → (Value) → PH → Prop) (XX : Exit → (Value × Value) → PH → Prop) (ρ : Env) (h : PH) :
    den Try.prog qf (ordOf o20) Kp (L20 Kp) (loopAt c20 0) (lq KN XX (fun ρ => (ρ 0, ρ 4, ρ 6)) (fun ρ => ρ 7) (fun ρ => (ρ 4, ρ 6))) ρ h = b20_6 Kp (XX (.exit 0)) ((fun ρ => (ρ 0, ρ 4, ρ 6)) ρ) KN ((fun ρ => ρ 7) ρ) h := by kernel_rfl
theorem l20 (R : AEnd → PH → Prop) : LoopsOK Try.prog qf (ordOf o20) (fun c h => R (.pan c) h) (L20 (fun c h => R (.pan c) h)) c20 :=
  LoopsOK.mk 1 (by kernel_rfl) fun i hi Q ρ h H => match i, hi with
    | 0, _ => loop_gen (F := Value × Value × Value) (S := Value) (X := Value × Value) (φ := (fun ρ => (ρ 0, ρ 4, ρ 6))) (π := (fun ρ => ρ 7)) (ξ := (fun ρ => (ρ 4, ρ 6))) (B := (fun (XX : Exit → (Value × Value) → PH → Prop) => b20_6 (fun c h => R (.pan c) h) (XX (.exit 0)))) (B20_6 _) (of_den (by kernel_rfl) H)
    | n + 1, hi => absurd hi (by omega)
theorem e20 (a0 a1 : Value) (h : PH) (R : AEnd → PH → Prop) : denF Try.prog qf (ordOf o20) (L20 (fun c h => R (.pan c) h)) Try.f20.results.toList c20 #[a0, a1] h R = sh20 a0 a1 h R := by kernel_rfl
theorem k20 : codeOK Try.prog qf Try.f20.ntmps (ordOf o20) c20 = true := by kernel_rfl
theorem s20 : Try.f20.body = some c20 := by kernel_rfl
theorem call20 {a0 a1 : Value} {h : PH} {R : AEnd → PH → Prop} (H : sh20 a0 a1 h R) : ACalls Try.prog 20 #[a0, a1] h R :=
  ACalls_of_den mixed Try.func20 s20 (by kernel_rfl) k20 (l20 R) (of_den (e20 a0 a1 h R) H)

/- gavel/gavellaw06.told -/
noncomputable def c21 : Code := bodyOf Try.f21
def o21 : List (Nat × List (Nat × List Nat)) := [(7, [(0, []), (1, []), (2, []), (3, []), (4, []), (6, []), (7, []), (5, [0, 2, 7]), (8, []), (9, []), (10, []), (11, []), (12, [])]), (9, [(0, []), (1, []), (2, []), (3, []), (4, []), (6, []), (7, []), (5, [0, 2, 7]), (8, []), (9, []), (10, []), (11, []), (12, [])]), (15, [(0, []), (1, []), (2, []), (3, []), (4, []), (6, []), (7, []), (5, [0, 2, 7]), (8, []), (9, []), (10, []), (11, []), (12, [])]), (17, [(0, []), (1, []), (2, []), (3, []), (4, []), (6, []), (7, []), (5, [0, 2, 7]), (8, []), (9, []), (10, []), (11, []), (12, [])]), (21, [(0, []), (1, []), (2, []), (3, []), (4, []), (5, []), (6, []), (8, []), (9, []), (7, [0, 2, 4, 9]), (10, []), (11, []), (12, []), (13, []), (14, [])])]
def sh21 (a0 a1 : Value) (h : PH) (R : AEnd → PH → Prop) : Prop :=
  vNew (Value.cells a0) 52 h fun t2 h_1 =>
  vNew (Value.cells a1) 24 h_1 fun t3 h_2 =>
  vNew #[.int .i64 0, .slice none 0 0] 52 h_2 fun t4 h_3 =>
  vFA 0 t3 fun t6 =>
  vLoad none t6 h_3 fun t7 =>
  vCall Try.prog 27 #[t7, (.int .i64 11)] h_3 (fun t8 h_4 =>
  vBin Try.prog .eql 3 t8 (.int .i64 0) fun t10 =>
  dIf t10 (vLoad (some 2) t2 h_4 fun t11 =>
  vFA 1 t3 fun t12 =>
  vLoad none t12 h_4 fun t13 =>
  vFA 4 t3 fun t14 =>
  vLoad none t14 h_4 fun t15 =>
  vCall Try.prog 45 #[t11, t13, (.int .i64 0), t15] h_4 (fun t16 h_5 =>
  vExt t16 0 fun t17 =>
  vExt t16 1 fun t18 =>
  vStore 2 t4 t17 h_5 fun h_6 =>
  vLoad (some 2) t4 h_6 fun rv =>
  R (.ret (.tuple #[rv, t18])) h_6)
  (fun c h => R (.pan c) h))
  (vBin Try.prog .eql 3 t8 (.int .i64 1) fun t20 =>
  dIf t20 (vLoad (some 2) t2 h_4 fun t21 =>
  vFA 1 t3 fun t22 =>
  vLoad none t22 h_4 fun t23 =>
  vFA 4 t3 fun t24 =>
  vLoad none t24 h_4 fun t25 =>
  vCall Try.prog 46 #[t21, t23, (.int .i64 0), t25] h_4 (fun t26 h_7 =>
  vExt t26 0 fun t27 =>
  vExt t26 1 fun t28 =>
  vStore 2 t4 t27 h_7 fun h_8 =>
  vLoad (some 2) t4 h_8 fun rv_1 =>
  R (.ret (.tuple #[rv_1, t28])) h_8)
  (fun c h => R (.pan c) h))
  (vBin Try.prog .eql 3 t8 (.int .i64 2) fun t30 =>
  dIf t30 (vLoad (some 2) t2 h_4 fun t31 =>
  vFA 1 t3 fun t32 =>
  vLoad none t32 h_4 fun t33 =>
  vFA 3 t3 fun t34 =>
  vLoad none t34 h_4 fun t35 =>
  vFA 4 t3 fun t37 =>
  vLoad none t37 h_4 fun t38 =>
  vCall Try.prog 47 #[t35] h_4 (fun t36 h_9 =>
  (vLoad (some 2) t2 h_9 fun u =>
  t31 = u) ∧
  (vLoad none t32 h_9 fun u_1 =>
  t33 = u_1) ∧
  (vLoad none t37 h_9 fun u_2 =>
  t38 = u_2) ∧
  vCall Try.prog 45 #[t31, t33, t36, t38] h_9 (fun t39 h_10 =>
  vExt t39 0 fun t40 =>
  vExt t39 1 fun t41 =>
  vStore 2 t4 t40 h_10 fun h_11 =>
  vLoad (some 2) t4 h_11 fun rv_2 =>
  R (.ret (.tuple #[rv_2, t41])) h_11)
  (fun c h => R (.pan c) h))
  (fun c h => R (.pan c) h))
  (vBin Try.prog .eql 3 t8 (.int .i64 3) fun t43 =>
  dIf t43 (vLoad (some 2) t2 h_4 fun t44 =>
  vFA 1 t3 fun t45 =>
  vLoad none t45 h_4 fun t46 =>
  vFA 3 t3 fun t47 =>
  vLoad none t47 h_4 fun t48 =>
  vFA 4 t3 fun t50 =>
  vLoad none t50 h_4 fun t51 =>
  vCall Try.prog 47 #[t48] h_4 (fun t49 h_12 =>
  (vLoad (some 2) t2 h_12 fun u_3 =>
  t44 = u_3) ∧
  (vLoad none t45 h_12 fun u_4 =>
  t46 = u_4) ∧
  (vLoad none t50 h_12 fun u_5 =>
  t51 = u_5) ∧
  vCall Try.prog 46 #[t44, t46, t49, t51] h_12 (fun t52 h_13 =>
  vExt t52 0 fun t53 =>
  vExt t52 1 fun t54 =>
  vStore 2 t4 t53 h_13 fun h_14 =>
  vLoad (some 2) t4 h_14 fun rv_3 =>
  R (.ret (.tuple #[rv_3, t54])) h_14)
  (fun c h => R (.pan c) h))
  (fun c h => R (.pan c) h))
  (vBin Try.prog .eql 3 t8 (.int .i64 4) fun t56 =>
  dIf t56 (vLoad (some 2) t2 h_4 fun t57 =>
  vFA 1 t3 fun t58 =>
  vLoad none t58 h_4 fun t59 =>
  vFA 4 t3 fun t60 =>
  vLoad none t60 h_4 fun t61 =>
  vCall Try.prog 48 #[t57, t59, (.int .i64 0), t61] h_4 (fun t62 h_15 =>
  vExt t62 0 fun t63 =>
  vExt t62 1 fun t64 =>
  vStore 2 t4 t63 h_15 fun h_16 =>
  vLoad (some 2) t4 h_16 fun rv_4 =>
  R (.ret (.tuple #[rv_4, t64])) h_16)
  (fun c h => R (.pan c) h))
  (vBin Try.prog .eql 3 t8 (.int .i64 5) fun t66 =>
  dIf t66 (vLoad (some 2) t2 h_4 fun t67 =>
  vFA 1 t3 fun t68 =>
  vLoad none t68 h_4 fun t69 =>
  vFA 4 t3 fun t70 =>
  vLoad none t70 h_4 fun t71 =>
  vCall Try.prog 49 #[t67, t69, (.int .i64 0), t71] h_4 (fun t72 h_17 =>
  vExt t72 0 fun t73 =>
  vExt t72 1 fun t74 =>
  vStore 2 t4 t73 h_17 fun h_18 =>
  vLoad (some 2) t4 h_18 fun rv_5 =>
  R (.ret (.tuple #[rv_5, t74])) h_18)
  (fun c h => R (.pan c) h))
  (vBin Try.prog .eql 3 t8 (.int .i64 6) fun t76 =>
  dIf t76 (vLoad (some 2) t2 h_4 fun t77 =>
  vFA 1 t3 fun t78 =>
  vLoad none t78 h_4 fun t79 =>
  vFA 3 t3 fun t80 =>
  vLoad none t80 h_4 fun t81 =>
  vFA 4 t3 fun t83 =>
  vLoad none t83 h_4 fun t84 =>
  vCall Try.prog 47 #[t81] h_4 (fun t82 h_19 =>
  (vLoad (some 2) t2 h_19 fun u_6 =>
  t77 = u_6) ∧
  (vLoad none t78 h_19 fun u_7 =>
  t79 = u_7) ∧
  (vLoad none t83 h_19 fun u_8 =>
  t84 = u_8) ∧
  vCall Try.prog 48 #[t77, t79, t82, t84] h_19 (fun t85 h_20 =>
  vExt t85 0 fun t86 =>
  vExt t85 1 fun t87 =>
  vStore 2 t4 t86 h_20 fun h_21 =>
  vLoad (some 2) t4 h_21 fun rv_6 =>
  R (.ret (.tuple #[rv_6, t87])) h_21)
  (fun c h => R (.pan c) h))
  (fun c h => R (.pan c) h))
  (vBin Try.prog .eql 3 t8 (.int .i64 7) fun t89 =>
  dIf t89 (vLoad (some 2) t2 h_4 fun t90 =>
  vFA 1 t3 fun t91 =>
  vLoad none t91 h_4 fun t92 =>
  vFA 3 t3 fun t93 =>
  vLoad none t93 h_4 fun t94 =>
  vFA 4 t3 fun t96 =>
  vLoad none t96 h_4 fun t97 =>
  vCall Try.prog 47 #[t94] h_4 (fun t95 h_22 =>
  (vLoad (some 2) t2 h_22 fun u_9 =>
  t90 = u_9) ∧
  (vLoad none t91 h_22 fun u_10 =>
  t92 = u_10) ∧
  (vLoad none t96 h_22 fun u_11 =>
  t97 = u_11) ∧
  vCall Try.prog 49 #[t90, t92, t95, t97] h_22 (fun t98 h_23 =>
  vExt t98 0 fun t99 =>
  vExt t98 1 fun t100 =>
  vStore 2 t4 t99 h_23 fun h_24 =>
  vLoad (some 2) t4 h_24 fun rv_7 =>
  R (.ret (.tuple #[rv_7, t100])) h_24)
  (fun c h => R (.pan c) h))
  (fun c h => R (.pan c) h))
  (vBin Try.prog .eql 3 t8 (.int .i64 8) fun t102 =>
  dIf t102 (vLoad (some 2) t2 h_4 fun t103 =>
  vFA 1 t3 fun t104 =>
  vLoad none t104 h_4 fun t105 =>
  vFA 2 t3 fun t106 =>
  vLoad none t106 h_4 fun t107 =>
  vFA 4 t3 fun t108 =>
  vLoad none t108 h_4 fun t109 =>
  vCall Try.prog 50 #[t103, t105, t107, (.int .i64 0), t109] h_4 (fun t110 h_25 =>
  vExt t110 0 fun t111 =>
  vExt t110 1 fun t112 =>
  vStore 2 t4 t111 h_25 fun h_26 =>
  vLoad (some 2) t4 h_26 fun rv_8 =>
  R (.ret (.tuple #[rv_8, t112])) h_26)
  (fun c h => R (.pan c) h))
  (vBin Try.prog .eql 3 t8 (.int .i64 9) fun t114 =>
  dIf t114 (vLoad (some 2) t2 h_4 fun t115 =>
  vFA 1 t3 fun t116 =>
  vLoad none t116 h_4 fun t117 =>
  vFA 2 t3 fun t118 =>
  vLoad none t118 h_4 fun t119 =>
  vFA 3 t3 fun t120 =>
  vLoad none t120 h_4 fun t121 =>
  vFA 4 t3 fun t123 =>
  vLoad none t123 h_4 fun t124 =>
  vCall Try.prog 47 #[t121] h_4 (fun t122 h_27 =>
  (vLoad (some 2) t2 h_27 fun u_12 =>
  t115 = u_12) ∧
  (vLoad none t116 h_27 fun u_13 =>
  t117 = u_13) ∧
  (vLoad none t118 h_27 fun u_14 =>
  t119 = u_14) ∧
  (vLoad none t123 h_27 fun u_15 =>
  t124 = u_15) ∧
  vCall Try.prog 50 #[t115, t117, t119, t122, t124] h_27 (fun t125 h_28 =>
  vExt t125 0 fun t126 =>
  vExt t125 1 fun t127 =>
  vStore 2 t4 t126 h_28 fun h_29 =>
  vLoad (some 2) t4 h_29 fun rv_9 =>
  R (.ret (.tuple #[rv_9, t127])) h_29)
  (fun c h => R (.pan c) h))
  (fun c h => R (.pan c) h))
  (vLoad (some 2) t2 h_4 fun t128 =>
  vFA 1 t3 fun t129 =>
  vLoad none t129 h_4 fun t130 =>
  vFA 4 t3 fun t131 =>
  vLoad none t131 h_4 fun t132 =>
  vFA 5 t3 fun t133 =>
  vLoad none t133 h_4 fun t134 =>
  vCall Try.prog 51 #[t128, t130, t132, t134] h_4 (fun t135 h_30 =>
  vExt t135 0 fun t136 =>
  vExt t135 1 fun t137 =>
  vStore 2 t4 t136 h_30 fun h_31 =>
  vLoad (some 2) t4 h_31 fun rv_10 =>
  R (.ret (.tuple #[rv_10, t137])) h_31)
  (fun c h => R (.pan c) h))))))))))))
  (fun c h => R (.pan c) h)
theorem l21 (R : AEnd → PH → Prop) : LoopsOK Try.prog qf (ordOf o21) (fun c h => R (.pan c) h) noLoops c21 := noLoops_ok (by kernel_rfl)
theorem e21 (a0 a1 : Value) (h : PH) (R : AEnd → PH → Prop) : denF Try.prog qf (ordOf o21) noLoops Try.f21.results.toList c21 #[a0, a1] h R = sh21 a0 a1 h R := by kernel_rfl
theorem k21 : codeOK Try.prog qf Try.f21.ntmps (ordOf o21) c21 = true := by kernel_rfl
theorem s21 : Try.f21.body = some c21 := by kernel_rfl
theorem call21 {a0 a1 : Value} {h : PH} {R : AEnd → PH → Prop} (H : sh21 a0 a1 h R) : ACalls Try.prog 21 #[a0, a1] h R :=
  ACalls_of_den mixed Try.func21 s21 (by kernel_rfl) k21 (l21 R) (of_den (e21 a0 a1 h R) H)

end Go.Pw
/- The functions of the program, told as predicate transformers: printed by wip/tools/shprint.py; each is what the model makes of the function, by the kernel's reckoning. -/
set_option linter.unusedVariables false
set_option maxRecDepth 100000
namespace Go.Pw
open Go Go.Proofs
/- gosem.cut.init -/
noncomputable def c2 : Code := bodyOf Try.f2
def o2 : List (Nat × List (Nat × List Nat)) := []
def sh2 (h : PH) (R : AEnd → PH → Prop) : Prop :=
  vCall Try.prog 1 #[] h (fun t0 h_1 =>
  R (.ret (.tuple #[])) h_1)
  (fun c h => R (.pan c) h)
theorem l2 (R : AEnd → PH → Prop) : LoopsOK Try.prog qf (ordOf o2) (fun c h => R (.pan c) h) noLoops c2 := noLoops_ok (by kernel_rfl)
theorem e2 (h : PH) (R : AEnd → PH → Prop) : denF Try.prog qf (ordOf o2) noLoops Try.f2.results.toList c2 #[] h R = sh2 h R := by kernel_rfl
theorem k2 : codeOK Try.prog qf Try.f2.ntmps (ordOf o2) c2 = true := by kernel_rfl
theorem s2 : Try.f2.body = some c2 := by kernel_rfl
theorem call2 {h : PH} {R : AEnd → PH → Prop} (H : sh2 h R) : ACalls Try.prog 2 #[] h R :=
  ACalls_of_den mixed Try.func2 s2 (by kernel_rfl) k2 (l2 R) (of_den (e2 h R) H)

/- gavel/gavellaw06.LedgerRefused -/
noncomputable def c3 : Code := bodyOf Try.f3
def o3 : List (Nat × List (Nat × List Nat)) := [(13, [(0, []), (1, []), (2, []), (3, []), (4, []), (5, []), (6, []), (7, []), (8, []), (9, []), (10, []), (11, []), (12, []), (13, []), (14, []), (15, [])])]
def b3_10 (Kp : List PanicEntry → PH → Prop) (x0 : Value → PH → Prop) (xr : Value → PH → Prop) (f : Value × Value × Value × Value) (kn : (Value × Value × Value × Value) → (Value × Value) → PH → Prop) (s : Value × Value) (h : PH) : Prop :=
  vBin Try.prog .lss 3 s.2 (.int .i64 3) fun t31 =>
  dIf t31 (vFA 1 f.1 fun t35 =>
  vLoad none t35 h fun t36 =>
  vBin Try.prog .neq 3 s.2 t36 fun t37 =>
  gq (boolOf t37) true (fun K =>
  K s.2 h)
  (fun t39 h_1 =>
  gq (boolOf t37) true (fun K_1 =>
  vFA 2 f.1 fun u =>
  K_1 u h_1)
  (fun t40 h_2 =>
  gq (boolOf t37) true (fun K_2 =>
  vLoad none t40 h_2 fun u_1 =>
  K_2 u_1 h_2)
  (fun t41 h_3 =>
  gq (boolOf t37) true (fun K_3 =>
  vBin Try.prog .neq 3 t39 t41 fun u_2 =>
  K_3 u_2 h_3)
  (fun t42 h_4 =>
  vPick t37 t42 (.bool false) fun t43 =>
  vBin Try.prog .neq 29 f.2.2.1 (.int .i64 0) fun t45 =>
  gq (boolOf t45) false (fun K_4 =>
  K_4 t43 h_4)
  (fun t47 h_5 =>
  vPick t45 (.bool true) t47 fun t48 =>
  gq (boolOf t48) true (fun K_5 =>
  K_5 f.2.1 h_5)
  (fun t50 h_6 =>
  gq (boolOf t48) true (fun K_6 =>
  K_6 s.2 h_6)
  (fun t51 h_7 =>
  gq (boolOf t48) true (fun K_7 =>
  vIxS 2 t50 t51 fun u_3 =>
  K_7 u_3 h_7)
  (fun t52 h_8 =>
  gq (boolOf t48) true (fun K_8 =>
  vLoad (some 2) t52 h_8 fun u_4 =>
  K_8 u_4 h_8)
  (fun t53 h_9 =>
  gq (boolOf t48) true (fun K_9 =>
  K_9 f.2.2.2 h_9)
  (fun t54 h_10 =>
  gq (boolOf t48) true (fun K_10 =>
  K_10 s.2 h_10)
  (fun t55 h_11 =>
  gq (boolOf t48) true (fun K_11 =>
  vIxS 2 t54 t55 fun u_5 =>
  K_11 u_5 h_11)
  (fun t56 h_12 =>
  gq (boolOf t48) true (fun K_12 =>
  vLoad (some 2) t56 h_12 fun u_6 =>
  K_12 u_6 h_12)
  (fun t57 h_13 =>
  gq (boolOf t48) true (fun K_13 =>
  vBin Try.prog .neq 32 t53 t57 fun u_7 =>
  K_13 u_7 h_13)
  (fun t58 h_14 =>
  vPick t48 t58 (.bool false) fun t59 =>
  dIf t59 (xr (.bool false) h_14)
  (vBin Try.prog .add 3 s.2 (.int .i64 1) fun t33 =>
  kn f (s.1, t33) h_14)) h_13) h_12) h_11) h_10) h_9) h_8) h_7) h_6) h_5) h_4) h_3) h_2) h_1) h)
  (x0 s.1 h)

def sh3 (a0 a1 : Value) (h : PH) (R : AEnd → PH → Prop) : Prop :=
  vNew (Value.cells a1) 24 h fun t3 h_1 =>
  vCall Try.prog 9 #[a0] h_1 (fun t12 h_2 =>
  vBin Try.prog .eql 25 t12 (.pointer none) fun t14 =>
  dIf t14 (R (.ret (.bool false)) h_2)
  (vCall Try.prog 10 #[t12] h_2 (fun t16 h_3 =>
  vLoad (some 6) t3 h_3 fun t18 =>
  vCall Try.prog 11 #[t12, t18] h_3 (fun t19 h_4 =>
  vCall Try.prog 10 #[t12] h_4 (fun t21 h_5 =>
  vLenS t16 fun t23 =>
  vBin Try.prog .neq 3 t23 (.int .i64 3) fun t24 =>
  gq (boolOf t24) false (fun K =>
  K t21 h_5)
  (fun t26 h_6 =>
  gq (boolOf t24) false (fun K_1 =>
  vLenS t26 fun u =>
  K_1 u h_6)
  (fun t27 h_7 =>
  gq (boolOf t24) false (fun K_2 =>
  vBin Try.prog .neq 3 t27 (.int .i64 3) fun u_1 =>
  K_2 u_1 h_7)
  (fun t28 h_8 =>
  vPick t24 (.bool true) t28 fun t29 =>
  dIf t29 (R (.ret (.bool false)) h_8)
  (lf (b3_10 (fun c h => R (.pan c) h) (fun v h => exq (fun ρ => ρ 4) v (fun r h_9 =>
  vCall Try.prog 12 #[] h_9 (fun t60 h_10 =>
  R (.ret t60) h_10)
  (fun c h => R (.pan c) h)) h) (fun v h => exq (fun ρ => ρ 4) v (fun r h_11 =>
  R (.ret (r 4)) h_11) h)) (t3, t16, t19, t21) ((.bool false), (.int .i64 0)) h_8)) h_7) h_6) h_5)
  (fun c h => R (.pan c) h))
  (fun c h => R (.pan c) h))
  (fun c h => R (.pan c) h)))
  (fun c h => R (.pan c) h)
def L3 (Kp : List PanicEntry → PH → Prop) : Loops := fun c Q ρ h =>
    sel (Nat.beq (loopId c) 10) (lf (b3_10 Kp (fun v h => exq (fun ρ => ρ 4) v (Q (.exit 0)) h) (fun v h => exq (fun ρ => ρ 4) v (Q .ret) h)) ((fun ρ => (ρ 3, ρ 6, ρ 7, ρ 8)) ρ) ((fun ρ => (ρ 4, ρ 9)) ρ) h)
    (False)
theorem B3_10 (Kp : List PanicEntry → PH → Prop) (KN : (Value × Value × Value × Value) → (Value × Value) → PH → Prop) (XX : Exit → (Value) → PH → Prop) (ρ : Env) (h : PH) :
    den Try.prog qf (ordOf o3) Kp (L3 Kp) (loopAt c3 0) (lq KN XX (fun ρ => (ρ 3, ρ 6, ρ 7, ρ 8)) (fun ρ => (ρ 4, ρ 9)) (fun ρ => ρ 4)) ρ h = b3_10 Kp (XX (.exit 0)) (XX .ret) ((fun ρ => (ρ 3, ρ 6, ρ 7, ρ 8)) ρ) KN ((fun ρ => (ρ 4, ρ 9)) ρ) h := by kernel_rfl
theorem l3 (R : AEnd → PH → Prop) : LoopsOK Try.prog qf (ordOf o3) (fun c h => R (.pan c) h) (L3 (fun c h => R (.pan c) h)) c3 :=
  LoopsOK.mk 1 (by kernel_rfl) fun i hi Q ρ h H => match i, hi with
    | 0, _ => loop_gen (F := Value × Value × Value × Value) (S := Value × Value) (X := Value) (φ := (fun ρ => (ρ 3, ρ 6, ρ 7, ρ 8))) (π := (fun ρ => (ρ 4, ρ 9))) (ξ := (fun ρ => ρ 4)) (B := (fun (XX : Exit → (Value) → PH → Prop) => b3_10 (fun c h => R (.pan c) h) (XX (.exit 0)) (XX .ret))) (B3_10 _) (of_den (by kernel_rfl) H)
    | n + 1, hi => absurd hi (by omega)
theorem e3 (a0 a1 : Value) (h : PH) (R : AEnd → PH → Prop) : denF Try.prog qf (ordOf o3) (L3 (fun c h => R (.pan c) h)) Try.f3.results.toList c3 #[a0, a1] h R = sh3 a0 a1 h R := by kernel_rfl
theorem k3 : codeOK Try.prog qf Try.f3.ntmps (ordOf o3) c3 = true := by kernel_rfl
theorem s3 : Try.f3.body = some c3 := by kernel_rfl
theorem call3 {a0 a1 : Value} {h : PH} {R : AEnd → PH → Prop} (H : sh3 a0 a1 h R) : ACalls Try.prog 3 #[a0, a1] h R :=
  ACalls_of_den mixed Try.func3 s3 (by kernel_rfl) k3 (l3 R) (of_den (e3 a0 a1 h R) H)

/- gavel/gavellaw06.LedgerBackwards -/
noncomputable def c4 : Code := bodyOf Try.f4
def o4 : List (Nat × List (Nat × List Nat)) := []
def b4_6 (Kp : List PanicEntry → PH → Prop) (x0 : (Value × Value × Value) → PH → Prop) (xr : (Value × Value × Value) → PH → Prop) (f : Value × Value × Value × Value × Value) (kn : (Value × Value × Value × Value × Value) → (Value × Value) → PH → Prop) (s : Value × Value) (h : PH) : Prop :=
  vBin Try.prog .lss 3 s.2 (.int .i64 8) fun t19 =>
  dIf t19 (vBuild [(0, 1), (1, 1), (2, 1), (3, 1), (4, 1), (5, 1)] #[.int .i64 0, .int .i64 0, .int .i64 0, .int .i64 0, .int .i64 0, .string ⟨#[]⟩] [(0, s.2), (1, f.1), (3, f.2.1), (4, f.2.2.1)] fun t27 =>
  vCall Try.prog 11 #[f.2.2.2.1, t27] h (fun t28 h_1 =>
  vBin Try.prog .eql 29 t28 (.int .i64 0) fun t29 =>
  gq (boolOf t29) true (fun K =>
  K f.2.2.2.1 h_1)
  (fun t31 h_2 =>
  gq (boolOf t29) true (fun K_1 =>
  K_1 s.2 h_2)
  (fun t32 h_3 =>
  gq (boolOf t29) true (fun K_2 =>
  vBin Try.prog .add 3 t32 (.int .i64 1) fun u =>
  K_2 u h_3)
  (fun t33 h_4 =>
  gq (boolOf t29) true (fun K_3 =>
  K_3 f.1 h_4)
  (fun t34 h_5 =>
  gq (boolOf t29) true (fun K_4 =>
  K_4 f.2.1 h_5)
  (fun t35 h_6 =>
  gq (boolOf t29) true (fun K_5 =>
  K_5 f.2.2.1 h_6)
  (fun t36 h_7 =>
  gq (boolOf t29) true (fun K_6 =>
  vBuild [(0, 1), (1, 1), (2, 1), (3, 1), (4, 1), (5, 1)] #[.int .i64 0, .int .i64 0, .int .i64 0, .int .i64 0, .int .i64 0, .string ⟨#[]⟩] [(0, t33), (1, t34), (3, t35), (4, t36)] fun u_1 =>
  K_6 u_1 h_7)
  (fun t37 h_8 =>
  gq (boolOf t29) true (fun K_7 =>
  vCall Try.prog 11 #[t31, t37] h_8 (fun u_2 h_9 =>
  K_7 u_2 h_9)
  Kp)
  (fun t38 h_10 =>
  gq (boolOf t29) true (fun K_8 =>
  vBin Try.prog .neq 29 t38 (.int .i64 0) fun u_3 =>
  K_8 u_3 h_10)
  (fun t39 h_11 =>
  vPick t29 t39 (.bool false) fun t40 =>
  dIf t40 (xr ((.bool false), f.2.2.2.1, f.2.2.2.2) h_11)
  (vBin Try.prog .add 3 s.2 (.int .i64 2) fun t21 =>
  kn f (s.1, t21) h_11)) h_10) h_8) h_7) h_6) h_5) h_4) h_3) h_2) h_1)
  Kp)
  (x0 (s.1, f.2.2.2.1, f.2.2.2.2) h)

def sh4 (a0 a1 a2 a3 : Value) (h : PH) (R : AEnd → PH → Prop) : Prop :=
  vCall Try.prog 9 #[a0] h (fun t13 h_1 =>
  vBin Try.prog .eql 25 t13 (.pointer none) fun t15 =>
  dIf t15 (R (.ret (.bool false)) h_1)
  (vCall Try.prog 10 #[t13] h_1 (fun t17 h_2 =>
  lf (b4_6 (fun c h => R (.pan c) h) (fun v h => exq (fun ρ => (ρ 8, ρ 9, ρ 10)) v (fun r h_3 =>
  vCall Try.prog 10 #[(r 9)] h_3 (fun t42 h_4 =>
  vCall Try.prog 13 #[t42, (r 10)] h_4 (fun t44 h_5 =>
  gq (boolOf t44) true (fun K =>
  vCall Try.prog 12 #[] h_5 (fun u h_6 =>
  K u h_6)
  (fun c h => R (.pan c) h))
  (fun t46 h_7 =>
  vPick t44 t46 (.bool false) fun t47 =>
  R (.ret t47) h_7) h_5)
  (fun c h => R (.pan c) h))
  (fun c h => R (.pan c) h)) h) (fun v h => exq (fun ρ => (ρ 8, ρ 9, ρ 10)) v (fun r h_8 =>
  R (.ret (r 8)) h_8) h)) (a1, a2, a3, t13, t17) ((.bool false), (.int .i64 0)) h_2)
  (fun c h => R (.pan c) h)))
  (fun c h => R (.pan c) h)
def L4 (Kp : List PanicEntry → PH → Prop) : Loops := fun c Q ρ h =>
    sel (Nat.beq (loopId c) 6) (lf (b4_6 Kp (fun v h => exq (fun ρ => (ρ 8, ρ 9, ρ 10)) v (Q (.exit 0)) h) (fun v h => exq (fun ρ => (ρ 8, ρ 9, ρ 10)) v (Q .ret) h)) ((fun ρ => (ρ 1, ρ 2, ρ 3, ρ 9, ρ 10)) ρ) ((fun ρ => (ρ 8, ρ 11)) ρ) h)
    (False)
theorem B4_6 (Kp : List PanicEntry → PH → Prop) (KN : (Value × Value × Value × Value × Value) → (Value × Value) → PH → Prop) (XX : Exit → (Value × Value × Value) → PH → Prop) (ρ : Env) (h : PH) :
    den Try.prog qf (ordOf o4) Kp (L4 Kp) (loopAt c4 0) (lq KN XX (fun ρ => (ρ 1, ρ 2, ρ 3, ρ 9, ρ 10)) (fun ρ => (ρ 8, ρ 11)) (fun ρ => (ρ 8, ρ 9, ρ 10))) ρ h = b4_6 Kp (XX (.exit 0)) (XX .ret) ((fun ρ => (ρ 1, ρ 2, ρ 3, ρ 9, ρ 10)) ρ) KN ((fun ρ => (ρ 8, ρ 11)) ρ) h := by kernel_rfl
theorem l4 (R : AEnd → PH → Prop) : LoopsOK Try.prog qf (ordOf o4) (fun c h => R (.pan c) h) (L4 (fun c h => R (.pan c) h)) c4 :=
  LoopsOK.mk 1 (by kernel_rfl) fun i hi Q ρ h H => match i, hi with
    | 0, _ => loop_gen (F := Value × Value × Value × Value × Value) (S := Value × Value) (X := Value × Value × Value) (φ := (fun ρ => (ρ 1, ρ 2, ρ 3, ρ 9, ρ 10))) (π := (fun ρ => (ρ 8, ρ 11))) (ξ := (fun ρ => (ρ 8, ρ 9, ρ 10))) (B := (fun (XX : Exit → (Value × Value × Value) → PH → Prop) => b4_6 (fun c h => R (.pan c) h) (XX (.exit 0)) (XX .ret))) (B4_6 _) (of_den (by kernel_rfl) H)
    | n + 1, hi => absurd hi (by omega)
theorem e4 (a0 a1 a2 a3 : Value) (h : PH) (R : AEnd → PH → Prop) : denF Try.prog qf (ordOf o4) (L4 (fun c h => R (.pan c) h)) Try.f4.results.toList c4 #[a0, a1, a2, a3] h R = sh4 a0 a1 a2 a3 h R := by kernel_rfl
theorem k4 : codeOK Try.prog qf Try.f4.ntmps (ordOf o4) c4 = true := by kernel_rfl
theorem s4 : Try.f4.body = some c4 := by kernel_rfl
theorem call4 {a0 a1 a2 a3 : Value} {h : PH} {R : AEnd → PH → Prop} (H : sh4 a0 a1 a2 a3 h R) : ACalls Try.prog 4 #[a0, a1, a2, a3] h R :=
  ACalls_of_den mixed Try.func4 s4 (by kernel_rfl) k4 (l4 R) (of_den (e4 a0 a1 a2 a3 h R) H)

/- gavel/gavellaw06.LedgerNobody -/
noncomputable def c5 : Code := bodyOf Try.f5
def o5 : List (Nat × List (Nat × List Nat)) := []
def sh5 (a0 : Value) (h : PH) (R : AEnd → PH → Prop) : Prop :=
  vNew (Value.cells a0) 24 h fun t1 h_1 =>
  vCall Try.prog 14 #[(.pointer none)] h_1 (fun t12 h_2 =>
  vExt t12 0 fun t13 =>
  vExt t12 1 fun t14 =>
  vNew #[.int .i64 0, .int .i64 0, .int .i64 0, .int .i64 0] 37 h_2 fun t5 h_3 =>
  vStore 4 t5 t14 h_3 fun h_4 =>
  vFA 1 t1 fun t17 =>
  vLoad none t17 h_4 fun t18 =>
  vCall Try.prog 15 #[(.pointer none), t18] h_4 (fun t19 h_5 =>
  vExt t19 0 fun t20 =>
  vExt t19 1 fun t21 =>
  vFA 1 t1 fun t24 =>
  vLoad none t24 h_5 fun t25 =>
  vCall Try.prog 16 #[(.pointer none), t25] h_5 (fun t26 h_6 =>
  vExt t26 0 fun t27 =>
  vExt t26 1 fun t28 =>
  vNew #[.int .i64 0, .int .i64 0, .int .i64 0, .int .i64 0, .int .i64 0, .int .i64 0, .int .i64 0, .int .i64 0, .int .i64 0, .int .i64 0] 43 h_6 fun t8 h_7 =>
  vStore 10 t8 t27 h_7 fun h_8 =>
  vLoad (some 6) t1 h_8 fun t30 =>
  vCall Try.prog 11 #[(.pointer none), t30] h_8 (fun t31 h_9 =>
  vBin Try.prog .eql 29 t31 (.int .i64 1) fun t32 =>
  gq (boolOf t32) true (fun K =>
  K t13 h_9)
  (fun t34 h_10 =>
  gq (boolOf t32) true (fun K_1 =>
  vBin Try.prog .eql 3 t34 (.int .i64 0) fun u =>
  K_1 u h_10)
  (fun t35 h_11 =>
  vPick t32 t35 (.bool false) fun t36 =>
  gq (boolOf t36) true (fun K_2 =>
  vLoad (some 4) t5 h_11 fun u_1 =>
  K_2 u_1 h_11)
  (fun t38 h_12 =>
  gq (boolOf t36) true (fun K_3 =>
  vBuildA 1 #[.int .i64 0, .int .i64 0, .int .i64 0, .int .i64 0] [] fun u_2 =>
  K_3 u_2 h_12)
  (fun t39 h_13 =>
  gq (boolOf t36) true (fun K_4 =>
  vBin Try.prog .eql 37 t38 t39 fun u_3 =>
  K_4 u_3 h_13)
  (fun t40 h_14 =>
  vPick t36 t40 (.bool false) fun t41 =>
  gq (boolOf t41) true (fun K_5 =>
  K_5 t20 h_14)
  (fun t43 h_15 =>
  gq (boolOf t41) true (fun K_6 =>
  vBin Try.prog .eql 3 t43 (.int .i64 0) fun u_4 =>
  K_6 u_4 h_15)
  (fun t44 h_16 =>
  vPick t41 t44 (.bool false) fun t45 =>
  gq (boolOf t45) true (fun K_7 =>
  K_7 t21 h_16)
  (fun t47 h_17 =>
  gq (boolOf t45) true (fun K_8 =>
  vBin Try.prog .eql 9 t47 (.string ⟨#[]⟩) fun u_5 =>
  K_8 u_5 h_17)
  (fun t48 h_18 =>
  vPick t45 t48 (.bool false) fun t49 =>
  gq (boolOf t49) true (fun K_9 =>
  K_9 t28 h_18)
  (fun t51 h_19 =>
  gq (boolOf t49) true (fun K_10 =>
  vUn Try.prog .not t51 fun u_6 =>
  K_10 u_6 h_19)
  (fun t52 h_20 =>
  vPick t49 t52 (.bool false) fun t53 =>
  gq (boolOf t53) true (fun K_11 =>
  K_11 (.pointer none) h_20)
  (fun t55 h_21 =>
  gq (boolOf t53) true (fun K_12 =>
  vCall Try.prog 10 #[t55] h_21 (fun u_7 h_22 =>
  K_12 u_7 h_22)
  (fun c h => R (.pan c) h))
  (fun t56 h_23 =>
  gq (boolOf t53) true (fun K_13 =>
  vLenS t56 fun u_8 =>
  K_13 u_8 h_23)
  (fun t57 h_24 =>
  gq (boolOf t53) true (fun K_14 =>
  vBin Try.prog .eql 3 t57 (.int .i64 0) fun u_9 =>
  K_14 u_9 h_24)
  (fun t58 h_25 =>
  vPick t53 t58 (.bool false) fun t59 =>
  gq (boolOf t59) true (fun K_15 =>
  vCall Try.prog 12 #[] h_25 (fun u_10 h_26 =>
  K_15 u_10 h_26)
  (fun c h => R (.pan c) h))
  (fun t61 h_27 =>
  vPick t59 t61 (.bool false) fun t62 =>
  R (.ret t62) h_27) h_25) h_24) h_23) h_21) h_20) h_19) h_18) h_17) h_16) h_15) h_14) h_13) h_12) h_11) h_10) h_9)
  (fun c h => R (.pan c) h))
  (fun c h => R (.pan c) h))
  (fun c h => R (.pan c) h))
  (fun c h => R (.pan c) h)
theorem l5 (R : AEnd → PH → Prop) : LoopsOK Try.prog qf (ordOf o5) (fun c h => R (.pan c) h) noLoops c5 := noLoops_ok (by kernel_rfl)
theorem e5 (a0 : Value) (h : PH) (R : AEnd → PH → Prop) : denF Try.prog qf (ordOf o5) noLoops Try.f5.results.toList c5 #[a0] h R = sh5 a0 h R := by kernel_rfl
theorem k5 : codeOK Try.prog qf Try.f5.ntmps (ordOf o5) c5 = true := by kernel_rfl
theorem s5 : Try.f5.body = some c5 := by kernel_rfl
theorem call5 {a0 : Value} {h : PH} {R : AEnd → PH → Prop} (H : sh5 a0 h R) : ACalls Try.prog 5 #[a0] h R :=
  ACalls_of_den mixed Try.func5 s5 (by kernel_rfl) k5 (l5 R) (of_den (e5 a0 h R) H)

/- gavel/gavellaw06.LedgerSame -/
noncomputable def c6 : Code := bodyOf Try.f6
def o6 : List (Nat × List (Nat × List Nat)) := []
def b6_10 (Kp : List PanicEntry → PH → Prop) (x0 : (Value × Value × Value) → PH → Prop) (f : Value × Value) (kn : (Value × Value) → (Value × Value) → PH → Prop) (s : Value × Value) (h : PH) : Prop :=
  vBin Try.prog .lss 3 s.2 (.int .i64 3) fun t38 =>
  dIf t38 (vCall Try.prog 16 #[f.1, s.2] h (fun t44 h_1 =>
  vExt t44 0 fun t45 =>
  vExt t44 1 fun t46 =>
  vNew #[.int .i64 0, .int .i64 0, .int .i64 0, .int .i64 0, .int .i64 0, .int .i64 0, .int .i64 0, .int .i64 0, .int .i64 0, .int .i64 0] 43 h_1 fun t9 h_2 =>
  vStore 10 t9 t45 h_2 fun h_3 =>
  vCall Try.prog 16 #[f.2, s.2] h_3 (fun t50 h_4 =>
  vExt t50 0 fun t51 =>
  vExt t50 1 fun t52 =>
  vNew #[.int .i64 0, .int .i64 0, .int .i64 0, .int .i64 0, .int .i64 0, .int .i64 0, .int .i64 0, .int .i64 0, .int .i64 0, .int .i64 0] 43 h_4 fun t11 h_5 =>
  vStore 10 t11 t51 h_5 fun h_6 =>
  vCall Try.prog 15 #[f.1, s.2] h_6 (fun t56 h_7 =>
  vExt t56 0 fun t57 =>
  vExt t56 1 fun t58 =>
  vCall Try.prog 15 #[f.2, s.2] h_7 (fun t62 h_8 =>
  vExt t62 0 fun t63 =>
  vExt t62 1 fun t64 =>
  gq (boolOf s.1) true (fun K =>
  vLoad (some 10) t9 h_8 fun u =>
  K u h_8)
  (fun t67 h_9 =>
  gq (boolOf s.1) true (fun K_1 =>
  vLoad (some 10) t11 h_9 fun u_1 =>
  K_1 u_1 h_9)
  (fun t68 h_10 =>
  gq (boolOf s.1) true (fun K_2 =>
  vBin Try.prog .eql 43 t67 t68 fun u_2 =>
  K_2 u_2 h_10)
  (fun t69 h_11 =>
  vPick s.1 t69 (.bool false) fun t70 =>
  gq (boolOf t70) true (fun K_3 =>
  K_3 t57 h_11)
  (fun t72 h_12 =>
  gq (boolOf t70) true (fun K_4 =>
  K_4 t63 h_12)
  (fun t73 h_13 =>
  gq (boolOf t70) true (fun K_5 =>
  vBin Try.prog .eql 3 t72 t73 fun u_3 =>
  K_5 u_3 h_13)
  (fun t74 h_14 =>
  vPick t70 t74 (.bool false) fun t75 =>
  gq (boolOf t75) true (fun K_6 =>
  K_6 t58 h_14)
  (fun t77 h_15 =>
  gq (boolOf t75) true (fun K_7 =>
  K_7 t64 h_15)
  (fun t78 h_16 =>
  gq (boolOf t75) true (fun K_8 =>
  vBin Try.prog .eql 9 t77 t78 fun u_4 =>
  K_8 u_4 h_16)
  (fun t79 h_17 =>
  vPick t75 t79 (.bool false) fun t80 =>
  vBin Try.prog .add 3 s.2 (.int .i64 1) fun t40 =>
  kn f (t80, t40) h_17) h_16) h_15) h_14) h_13) h_12) h_11) h_10) h_9) h_8)
  Kp)
  Kp)
  Kp)
  Kp)
  (x0 (f.1, f.2, s.1) h)

def sh6 (a0 a1 : Value) (h : PH) (R : AEnd → PH → Prop) : Prop :=
  vLenS a0 fun t18 =>
  vBin Try.prog .gtr 3 t18 (.int .i64 60) fun t19 =>
  dIf t19 (vSl 6 none (some (.int .i64 60)) a0 fun t21 =>
  vLenS a1 fun t23 =>
  vBin Try.prog .gtr 3 t23 (.int .i64 60) fun t24 =>
  dIf t24 (vSl 6 none (some (.int .i64 60)) a1 fun t26 =>
  vCall Try.prog 9 #[t21] h (fun t28 h_1 =>
  vCall Try.prog 9 #[t26] h_1 (fun t30 h_2 =>
  vBin Try.prog .eql 25 t28 (.pointer none) fun t32 =>
  gq (boolOf t32) false (fun K =>
  K t30 h_2)
  (fun t34 h_3 =>
  gq (boolOf t32) false (fun K_1 =>
  vBin Try.prog .eql 25 t34 (.pointer none) fun u =>
  K_1 u h_3)
  (fun t35 h_4 =>
  vPick t32 (.bool true) t35 fun t36 =>
  dIf t36 (R (.ret (.bool false)) h_4)
  (lf (b6_10 (fun c h => R (.pan c) h) (fun v h => exq (fun ρ => (ρ 5, ρ 6, ρ 7)) v (fun r h_5 =>
  vCall Try.prog 10 #[(r 5)] h_5 (fun t82 h_6 =>
  vCall Try.prog 10 #[(r 6)] h_6 (fun t84 h_7 =>
  vCall Try.prog 13 #[t82, t84] h_7 (fun t85 h_8 =>
  vBin Try.prog .eql 4 t85 (r 7) fun t87 =>
  gq (boolOf t87) true (fun K_2 =>
  vCall Try.prog 12 #[] h_8 (fun u_1 h_9 =>
  K_2 u_1 h_9)
  (fun c h => R (.pan c) h))
  (fun t89 h_10 =>
  vPick t87 t89 (.bool false) fun t90 =>
  R (.ret t90) h_10) h_8)
  (fun c h => R (.pan c) h))
  (fun c h => R (.pan c) h))
  (fun c h => R (.pan c) h)) h)) (t28, t30) ((.bool true), (.int .i64 0)) h_4)) h_3) h_2)
  (fun c h => R (.pan c) h))
  (fun c h => R (.pan c) h))
  (vCall Try.prog 9 #[t21] h (fun t28_1 h_11 =>
  vCall Try.prog 9 #[a1] h_11 (fun t30_1 h_12 =>
  vBin Try.prog .eql 25 t28_1 (.pointer none) fun t32_1 =>
  gq (boolOf t32_1) false (fun K_3 =>
  K_3 t30_1 h_12)
  (fun t34_1 h_13 =>
  gq (boolOf t32_1) false (fun K_4 =>
  vBin Try.prog .eql 25 t34_1 (.pointer none) fun u_2 =>
  K_4 u_2 h_13)
  (fun t35_1 h_14 =>
  vPick t32_1 (.bool true) t35_1 fun t36_1 =>
  dIf t36_1 (R (.ret (.bool false)) h_14)
  (lf (b6_10 (fun c h => R (.pan c) h) (fun v h => exq (fun ρ => (ρ 5, ρ 6, ρ 7)) v (fun r_1 h_15 =>
  vCall Try.prog 10 #[(r_1 5)] h_15 (fun t82_1 h_16 =>
  vCall Try.prog 10 #[(r_1 6)] h_16 (fun t84_1 h_17 =>
  vCall Try.prog 13 #[t82_1, t84_1] h_17 (fun t85_1 h_18 =>
  vBin Try.prog .eql 4 t85_1 (r_1 7) fun t87_1 =>
  gq (boolOf t87_1) true (fun K_5 =>
  vCall Try.prog 12 #[] h_18 (fun u_3 h_19 =>
  K_5 u_3 h_19)
  (fun c h => R (.pan c) h))
  (fun t89_1 h_20 =>
  vPick t87_1 t89_1 (.bool false) fun t90_1 =>
  R (.ret t90_1) h_20) h_18)
  (fun c h => R (.pan c) h))
  (fun c h => R (.pan c) h))
  (fun c h => R (.pan c) h)) h)) (t28_1, t30_1) ((.bool true), (.int .i64 0)) h_14)) h_13) h_12)
  (fun c h => R (.pan c) h))
  (fun c h => R (.pan c) h)))
  (vLenS a1 fun t23_1 =>
  vBin Try.prog .gtr 3 t23_1 (.int .i64 60) fun t24_1 =>
  dIf t24_1 (vSl 6 none (some (.int .i64 60)) a1 fun t26_1 =>
  vCall Try.prog 9 #[a0] h (fun t28_2 h_21 =>
  vCall Try.prog 9 #[t26_1] h_21 (fun t30_2 h_22 =>
  vBin Try.prog .eql 25 t28_2 (.pointer none) fun t32_2 =>
  gq (boolOf t32_2) false (fun K_6 =>
  K_6 t30_2 h_22)
  (fun t34_2 h_23 =>
  gq (boolOf t32_2) false (fun K_7 =>
  vBin Try.prog .eql 25 t34_2 (.pointer none) fun u_4 =>
  K_7 u_4 h_23)
  (fun t35_2 h_24 =>
  vPick t32_2 (.bool true) t35_2 fun t36_2 =>
  dIf t36_2 (R (.ret (.bool false)) h_24)
  (lf (b6_10 (fun c h => R (.pan c) h) (fun v h => exq (fun ρ => (ρ 5, ρ 6, ρ 7)) v (fun r_2 h_25 =>
  vCall Try.prog 10 #[(r_2 5)] h_25 (fun t82_2 h_26 =>
  vCall Try.prog 10 #[(r_2 6)] h_26 (fun t84_2 h_27 =>
  vCall Try.prog 13 #[t82_2, t84_2] h_27 (fun t85_2 h_28 =>
  vBin Try.prog .eql 4 t85_2 (r_2 7) fun t87_2 =>
  gq (boolOf t87_2) true (fun K_8 =>
  vCall Try.prog 12 #[] h_28 (fun u_5 h_29 =>
  K_8 u_5 h_29)
  (fun c h => R (.pan c) h))
  (fun t89_2 h_30 =>
  vPick t87_2 t89_2 (.bool false) fun t90_2 =>
  R (.ret t90_2) h_30) h_28)
  (fun c h => R (.pan c) h))
  (fun c h => R (.pan c) h))
  (fun c h => R (.pan c) h)) h)) (t28_2, t30_2) ((.bool true), (.int .i64 0)) h_24)) h_23) h_22)
  (fun c h => R (.pan c) h))
  (fun c h => R (.pan c) h))
  (vCall Try.prog 9 #[a0] h (fun t28_3 h_31 =>
  vCall Try.prog 9 #[a1] h_31 (fun t30_3 h_32 =>
  vBin Try.prog .eql 25 t28_3 (.pointer none) fun t32_3 =>
  gq (boolOf t32_3) false (fun K_9 =>
  K_9 t30_3 h_32)
  (fun t34_3 h_33 =>
  gq (boolOf t32_3) false (fun K_10 =>
  vBin Try.prog .eql 25 t34_3 (.pointer none) fun u_6 =>
  K_10 u_6 h_33)
  (fun t35_3 h_34 =>
  vPick t32_3 (.bool true) t35_3 fun t36_3 =>
  dIf t36_3 (R (.ret (.bool false)) h_34)
  (lf (b6_10 (fun c h => R (.pan c) h) (fun v h => exq (fun ρ => (ρ 5, ρ 6, ρ 7)) v (fun r_3 h_35 =>
  vCall Try.prog 10 #[(r_3 5)] h_35 (fun t82_3 h_36 =>
  vCall Try.prog 10 #[(r_3 6)] h_36 (fun t84_3 h_37 =>
  vCall Try.prog 13 #[t82_3, t84_3] h_37 (fun t85_3 h_38 =>
  vBin Try.prog .eql 4 t85_3 (r_3 7) fun t87_3 =>
  gq (boolOf t87_3) true (fun K_11 =>
  vCall Try.prog 12 #[] h_38 (fun u_7 h_39 =>
  K_11 u_7 h_39)
  (fun c h => R (.pan c) h))
  (fun t89_3 h_40 =>
  vPick t87_3 t89_3 (.bool false) fun t90_3 =>
  R (.ret t90_3) h_40) h_38)
  (fun c h => R (.pan c) h))
  (fun c h => R (.pan c) h))
  (fun c h => R (.pan c) h)) h)) (t28_3, t30_3) ((.bool true), (.int .i64 0)) h_34)) h_33) h_32)
  (fun c h => R (.pan c) h))
  (fun c h => R (.pan c) h)))
def L6 (Kp : List PanicEntry → PH → Prop) : Loops := fun c Q ρ h =>
    sel (Nat.beq (loopId c) 10) (lf (b6_10 Kp (fun v h => exq (fun ρ => (ρ 5, ρ 6, ρ 7)) v (Q (.exit 0)) h)) ((fun ρ => (ρ 5, ρ 6)) ρ) ((fun ρ => (ρ 7, ρ 8)) ρ) h)
    (False)
theorem B6_10 (Kp : List PanicEntry → PH → Prop) (KN : (Value × Value) → (Value × Value) → PH → Prop) (XX : Exit → (Value × Value × Value) → PH → Prop) (ρ : Env) (h : PH) :
    den Try.prog qf (ordOf o6) Kp (L6 Kp) (loopAt c6 0) (lq KN XX (fun ρ => (ρ 5, ρ 6)) (fun ρ => (ρ 7, ρ 8)) (fun ρ => (ρ 5, ρ 6, ρ 7))) ρ h = b6_10 Kp (XX (.exit 0)) ((fun ρ => (ρ 5, ρ 6)) ρ) KN ((fun ρ => (ρ 7, ρ 8)) ρ) h := by kernel_rfl
theorem l6 (R : AEnd → PH → Prop) : LoopsOK Try.prog qf (ordOf o6) (fun c h => R (.pan c) h) (L6 (fun c h => R (.pan c) h)) c6 :=
  LoopsOK.mk 1 (by kernel_rfl) fun i hi Q ρ h H => match i, hi with
    | 0, _ => loop_gen (F := Value × Value) (S := Value × Value) (X := Value × Value × Value) (φ := (fun ρ => (ρ 5, ρ 6))) (π := (fun ρ => (ρ 7, ρ 8))) (ξ := (fun ρ => (ρ 5, ρ 6, ρ 7))) (B := (fun (XX : Exit → (Value × Value × Value) → PH → Prop) => b6_10 (fun c h => R (.pan c) h) (XX (.exit 0)))) (B6_10 _) (of_den (by kernel_rfl) H)
    | n + 1, hi => absurd hi (by omega)
theorem e6 (a0 a1 : Value) (h : PH) (R : AEnd → PH → Prop) : denF Try.prog qf (ordOf o6) (L6 (fun c h => R (.pan c) h)) Try.f6.results.toList c6 #[a0, a1] h R = sh6 a0 a1 h R := by kernel_rfl
theorem k6 : codeOK Try.prog qf Try.f6.ntmps (ordOf o6) c6 = true := by kernel_rfl
theorem s6 : Try.f6.body = some c6 := by kernel_rfl
theorem call6 {a0 a1 : Value} {h : PH} {R : AEnd → PH → Prop} (H : sh6 a0 a1 h R) : ACalls Try.prog 6 #[a0, a1] h R :=
  ACalls_of_den mixed Try.func6 s6 (by kernel_rfl) k6 (l6 R) (of_den (e6 a0 a1 h R) H)

/- gavel/gavellaw06.LedgerReads -/
noncomputable def c7 : Code := bodyOf Try.f7
def o7 : List (Nat × List (Nat × List Nat)) := []
def sh7 (a0 a1 a2 : Value) (h : PH) (R : AEnd → PH → Prop) : Prop :=
  vCall Try.prog 17 #[a0, a1, a2] h (fun t15 h_1 =>
  vExt t15 0 fun t16 =>
  vExt t15 1 fun t17 =>
  vCall Try.prog 18 #[a0, a1, a2] h_1 (fun t22 h_2 =>
  vExt t22 0 fun t23 =>
  vExt t22 1 fun t24 =>
  vNew #[.int .i64 0, .slice none 0 0] 52 h_2 fun t9 h_3 =>
  vStore 2 t9 t23 h_3 fun h_4 =>
  vBin Try.prog .neq 29 t17 t24 fun t27 =>
  gq (boolOf t27) false (fun K =>
  K t16 h_4)
  (fun t29 h_5 =>
  gq (boolOf t27) false (fun K_1 =>
  vBin Try.prog .neq 25 t29 (.pointer none) fun u =>
  K_1 u h_5)
  (fun t30 h_6 =>
  gq (boolOf t27) false (fun K_2 =>
  K_2 t24 h_6)
  (fun t31 h_7 =>
  gq (boolOf t27) false (fun K_3 =>
  vBin Try.prog .eql 29 t31 (.int .i64 0) fun u_1 =>
  K_3 u_1 h_7)
  (fun t32 h_8 =>
  gq (boolOf t27) false (fun K_4 =>
  vBin Try.prog .neq 4 t30 t32 fun u_2 =>
  K_4 u_2 h_8)
  (fun t33 h_9 =>
  vPick t27 (.bool true) t33 fun t34 =>
  dIf t34 (R (.ret (.bool false)) h_9)
  (vBin Try.prog .eql 25 t16 (.pointer none) fun t36 =>
  dIf t36 (vCall Try.prog 12 #[] h_9 (fun t37 h_10 =>
  R (.ret t37) h_10)
  (fun c h => R (.pan c) h))
  (vLoad (some 2) t9 h_9 fun t39 =>
  vCall Try.prog 19 #[t16, t39] h_9 (fun t40 h_11 =>
  gq (boolOf t40) true (fun K_5 =>
  K_5 t16 h_11)
  (fun t42 h_12 =>
  gq (boolOf t40) true (fun K_6 =>
  vCall Try.prog 10 #[t42] h_12 (fun u_3 h_13 =>
  K_6 u_3 h_13)
  (fun c h => R (.pan c) h))
  (fun t43 h_14 =>
  gq (boolOf t40) true (fun K_7 =>
  K_7 a2 h_14)
  (fun t44 h_15 =>
  gq (boolOf t40) true (fun K_8 =>
  vCall Try.prog 13 #[t43, t44] h_15 (fun u_4 h_16 =>
  K_8 u_4 h_16)
  (fun c h => R (.pan c) h))
  (fun t45 h_17 =>
  vPick t40 t45 (.bool false) fun t46 =>
  gq (boolOf t46) true (fun K_9 =>
  vCall Try.prog 12 #[] h_17 (fun u_5 h_18 =>
  K_9 u_5 h_18)
  (fun c h => R (.pan c) h))
  (fun t48 h_19 =>
  vPick t46 t48 (.bool false) fun t49 =>
  R (.ret t49) h_19) h_17) h_15) h_14) h_12) h_11)
  (fun c h => R (.pan c) h)))) h_8) h_7) h_6) h_5) h_4)
  (fun c h => R (.pan c) h))
  (fun c h => R (.pan c) h)
theorem l7 (R : AEnd → PH → Prop) : LoopsOK Try.prog qf (ordOf o7) (fun c h => R (.pan c) h) noLoops c7 := noLoops_ok (by kernel_rfl)
theorem e7 (a0 a1 a2 : Value) (h : PH) (R : AEnd → PH → Prop) : denF Try.prog qf (ordOf o7) noLoops Try.f7.results.toList c7 #[a0, a1, a2] h R = sh7 a0 a1 a2 h R := by kernel_rfl
theorem k7 : codeOK Try.prog qf Try.f7.ntmps (ordOf o7) c7 = true := by kernel_rfl
theorem s7 : Try.f7.body = some c7 := by kernel_rfl
theorem call7 {a0 a1 a2 : Value} {h : PH} {R : AEnd → PH → Prop} (H : sh7 a0 a1 a2 h R) : ACalls Try.prog 7 #[a0, a1, a2] h R :=
  ACalls_of_den mixed Try.func7 s7 (by kernel_rfl) k7 (l7 R) (of_den (e7 a0 a1 a2 h R) H)

/- gavel/gavellaw06.LedgerRecords -/
noncomputable def c8 : Code := bodyOf Try.f8
def o8 : List (Nat × List (Nat × List Nat)) := [(8, [(0, []), (1, []), (2, []), (3, []), (4, []), (5, []), (6, []), (7, []), (8, []), (9, []), (10, []), (11, [])]), (17, [(0, []), (1, []), (3, []), (4, []), (2, [4]), (5, []), (6, []), (7, []), (8, []), (10, []), (9, []), (11, []), (12, []), (13, []), (14, []), (15, []), (16, []), (17, [])])]
def b8_6 (Kp : List PanicEntry → PH → Prop) (x0 : (Value × Value × Value) → PH → Prop) (f : Value × Value × Value × Value) (kn : (Value × Value × Value × Value) → Value → PH → Prop) (s : Value) (h : PH) : Prop :=
  vLenS f.1 fun t23 =>
  vBin Try.prog .lss 3 s t23 fun t24 =>
  gq (boolOf t24) true (fun K =>
  K s h)
  (fun t26 h_1 =>
  gq (boolOf t24) true (fun K_1 =>
  vBin Try.prog .lss 3 t26 (.int .i64 60) fun u =>
  K_1 u h_1)
  (fun t27 h_2 =>
  vPick t24 t27 (.bool false) fun t28 =>
  dIf t28 (vLoad (some 2) f.2.2.2 h_2 fun t32 =>
  vIxS 6 f.1 s fun t35 =>
  vLoad (some 6) t35 h_2 fun t36 =>
  vCall Try.prog 21 #[t32, t36] h_2 (fun t37 h_3 =>
  vExt t37 0 fun t38 =>
  vExt t37 1 fun t39 =>
  vNew #[.int .i64 0, .slice none 0 0] 52 h_3 fun t9 h_4 =>
  vStore 2 t9 t38 h_4 fun h_5 =>
  vLoad (some 2) t9 h_5 fun t40 =>
  vStore 2 f.2.2.2 t40 h_5 fun h_6 =>
  vIxS 6 f.1 s fun t44 =>
  vLoad (some 6) t44 h_6 fun t45 =>
  vCall Try.prog 11 #[f.2.2.1, t45] h_6 (fun t46 h_7 =>
  vBin Try.prog .add 3 s (.int .i64 1) fun t30 =>
  kn f t30 h_7)
  Kp)
  Kp)
  (x0 (f.2.1, f.2.2.1, f.2.2.2) h_2)) h_1) h

def sh8 (a0 a1 : Value) (h : PH) (R : AEnd → PH → Prop) : Prop :=
  vNew (Value.cells a1) 24 h fun t3 h_1 =>
  vCall Try.prog 9 #[(.slice none 0 0)] h_1 (fun t14 h_2 =>
  vCall Try.prog 20 #[(.int .i64 3), (.int .i64 2)] h_2 (fun t16 h_3 =>
  vExt t16 0 fun t17 =>
  vExt t16 1 fun t18 =>
  vNew #[.int .i64 0, .slice none 0 0] 52 h_3 fun t6 h_4 =>
  vStore 2 t6 t17 h_4 fun h_5 =>
  vBin Try.prog .eql 25 t14 (.pointer none) fun t20 =>
  dIf t20 (R (.ret (.bool false)) h_5)
  (lf (b8_6 (fun c h => R (.pan c) h) (fun v h => exq (fun ρ => (ρ 3, ρ 5, ρ 6)) v (fun r h_6 =>
  vCall Try.prog 10 #[(r 5)] h_6 (fun t48 h_7 =>
  vLoad (some 2) (r 6) h_7 fun t50 =>
  vCall Try.prog 22 #[t50] h_7 (fun t51 h_8 =>
  vCall Try.prog 13 #[t48, t51] h_8 (fun t52 h_9 =>
  vUn Try.prog .not t52 fun t53 =>
  dIf t53 (R (.ret (.bool false)) h_9)
  (vCall Try.prog 17 #[(.int .i64 3), (.int .i64 2), t48] h_9 (fun t56 h_10 =>
  vExt t56 0 fun t57 =>
  vExt t56 1 fun t58 =>
  vBin Try.prog .neq 29 t58 (.int .i64 0) fun t60 =>
  gq (boolOf t60) false (fun K =>
  K t57 h_10)
  (fun t62 h_11 =>
  gq (boolOf t60) false (fun K_1 =>
  vBin Try.prog .eql 25 t62 (.pointer none) fun u =>
  K_1 u h_11)
  (fun t63 h_12 =>
  vPick t60 (.bool true) t63 fun t64 =>
  gq (boolOf t64) false (fun K_2 =>
  K_2 t57 h_12)
  (fun t66 h_13 =>
  gq (boolOf t64) false (fun K_3 =>
  vLoad (some 2) (r 6) h_13 fun u_1 =>
  K_3 u_1 h_13)
  (fun t67 h_14 =>
  gq (boolOf t64) false (fun K_4 =>
  vCall Try.prog 19 #[t66, t67] h_14 (fun u_2 h_15 =>
  K_4 u_2 h_15)
  (fun c h => R (.pan c) h))
  (fun t68 h_16 =>
  gq (boolOf t64) false (fun K_5 =>
  vUn Try.prog .not t68 fun u_3 =>
  K_5 u_3 h_16)
  (fun t69 h_17 =>
  vPick t64 (.bool true) t69 fun t70 =>
  dIf t70 (R (.ret (.bool false)) h_17)
  (vLoad (some 6) (r 3) h_17 fun t72 =>
  vLoad (some 6) (r 3) h_17 fun t75 =>
  vCall Try.prog 11 #[(r 5), t72] h_17 (fun t73 h_18 =>
  (vLoad (some 6) (r 3) h_18 fun u_4 =>
  t75 = u_4) ∧
  vCall Try.prog 11 #[t57, t75] h_18 (fun t76 h_19 =>
  vBin Try.prog .eql 29 t73 t76 fun t77 =>
  gq (boolOf t77) true (fun K_6 =>
  K_6 (r 5) h_19)
  (fun t79 h_20 =>
  gq (boolOf t77) true (fun K_7 =>
  K_7 t57 h_20)
  (fun t81 h_21 =>
  gq (boolOf t77) true (fun K_8 =>
  vCall Try.prog 10 #[t79] h_21 (fun u_5 h_22 =>
  K_8 u_5 h_22)
  (fun c h => R (.pan c) h))
  (fun t80 h_23 =>
  gq (boolOf t77) true (fun K_9 =>
  vCall Try.prog 10 #[t81] h_23 (fun u_6 h_24 =>
  K_9 u_6 h_24)
  (fun c h => R (.pan c) h))
  (fun t82 h_25 =>
  gq (boolOf t77) true (fun K_10 =>
  vCall Try.prog 13 #[t80, t82] h_25 (fun u_7 h_26 =>
  K_10 u_7 h_26)
  (fun c h => R (.pan c) h))
  (fun t83 h_27 =>
  vPick t77 t83 (.bool false) fun t84 =>
  gq (boolOf t84) true (fun K_11 =>
  vCall Try.prog 12 #[] h_27 (fun u_8 h_28 =>
  K_11 u_8 h_28)
  (fun c h => R (.pan c) h))
  (fun t86 h_29 =>
  vPick t84 t86 (.bool false) fun t87 =>
  R (.ret t87) h_29) h_27) h_25) h_23) h_21) h_20) h_19)
  (fun c h => R (.pan c) h))
  (fun c h => R (.pan c) h))) h_16) h_14) h_13) h_12) h_11) h_10)
  (fun c h => R (.pan c) h)))
  (fun c h => R (.pan c) h))
  (fun c h => R (.pan c) h))
  (fun c h => R (.pan c) h)) h)) (a0, t3, t14, t6) (.int .i64 0) h_5))
  (fun c h => R (.pan c) h))
  (fun c h => R (.pan c) h)
def L8 (Kp : List PanicEntry → PH → Prop) : Loops := fun c Q ρ h =>
    sel (Nat.beq (loopId c) 6) (lf (b8_6 Kp (fun v h => exq (fun ρ => (ρ 3, ρ 5, ρ 6)) v (Q (.exit 0)) h)) ((fun ρ => (ρ 0, ρ 3, ρ 5, ρ 6)) ρ) ((fun ρ => ρ 8) ρ) h)
    (False)
theorem B8_6 (Kp : List PanicEntry → PH → Prop) (KN : (Value × Value × Value × Value) → (Value) → PH → Prop) (XX : Exit → (Value × Value × Value) → PH → Prop) (ρ : Env) (h : PH) :
    den Try.prog qf (ordOf o8) Kp (L8 Kp) (loopAt c8 0) (lq KN XX (fun ρ => (ρ 0, ρ 3, ρ 5, ρ 6)) (fun ρ => ρ 8) (fun ρ => (ρ 3, ρ 5, ρ 6))) ρ h = b8_6 Kp (XX (.exit 0)) ((fun ρ => (ρ 0, ρ 3, ρ 5, ρ 6)) ρ) KN ((fun ρ => ρ 8) ρ) h := by kernel_rfl
theorem l8 (R : AEnd → PH → Prop) : LoopsOK Try.prog qf (ordOf o8) (fun c h => R (.pan c) h) (L8 (fun c h => R (.pan c) h)) c8 :=
  LoopsOK.mk 1 (by kernel_rfl) fun i hi Q ρ h H => match i, hi with
    | 0, _ => loop_gen (F := Value × Value × Value × Value) (S := Value) (X := Value × Value × Value) (φ := (fun ρ => (ρ 0, ρ 3, ρ 5, ρ 6))) (π := (fun ρ => ρ 8)) (ξ := (fun ρ => (ρ 3, ρ 5, ρ 6))) (B := (fun (XX : Exit → (Value × Value × Value) → PH → Prop) => b8_6 (fun c h => R (.pan c) h) (XX (.exit 0)))) (B8_6 _) (of_den (by kernel_rfl) H)
    | n + 1, hi => absurd hi (by omega)
theorem e8 (a0 a1 : Value) (h : PH) (R : AEnd → PH → Prop) : denF Try.prog qf (ordOf o8) (L8 (fun c h => R (.pan c) h)) Try.f8.results.toList c8 #[a0, a1] h R = sh8 a0 a1 h R := by kernel_rfl
theorem k8 : codeOK Try.prog qf Try.f8.ntmps (ordOf o8) c8 = true := by kernel_rfl
theorem s8 : Try.f8.body = some c8 := by kernel_rfl
theorem call8 {a0 a1 : Value} {h : PH} {R : AEnd → PH → Prop} (H : sh8 a0 a1 h R) : ACalls Try.prog 8 #[a0, a1] h R :=
  ACalls_of_den mixed Try.func8 s8 (by kernel_rfl) k8 (l8 R) (of_den (e8 a0 a1 h R) H)

/- gavel/gavellaw06.begun -/
noncomputable def c9 : Code := bodyOf Try.f9
def o9 : List (Nat × List (Nat × List Nat)) := []
def b9_5 (Kp : List PanicEntry → PH → Prop) (x0 : Value → PH → Prop) (f : Value × Value) (kn : (Value × Value) → Value → PH → Prop) (s : Value) (h : PH) : Prop :=
  vLenS f.1 fun t14 =>
  vBin Try.prog .lss 3 s t14 fun t15 =>
  gq (boolOf t15) true (fun K =>
  K s h)
  (fun t17 h_1 =>
  gq (boolOf t15) true (fun K_1 =>
  vBin Try.prog .lss 3 t17 (.int .i64 100) fun u =>
  K_1 u h_1)
  (fun t18 h_2 =>
  vPick t15 t18 (.bool false) fun t19 =>
  dIf t19 (vIxS 6 f.1 s fun t25 =>
  vLoad (some 6) t25 h_2 fun t26 =>
  vCall Try.prog 11 #[f.2, t26] h_2 (fun t27 h_3 =>
  vBin Try.prog .add 3 s (.int .i64 1) fun t21 =>
  kn f t21 h_3)
  Kp)
  (x0 f.2 h_2)) h_1) h

def sh9 (a0 : Value) (h : PH) (R : AEnd → PH → Prop) : Prop :=
  vCall Try.prog 23 #[(.int .i64 3), (.int .i64 2)] h (fun t7 h_1 =>
  vExt t7 0 fun t8 =>
  vExt t7 1 fun t9 =>
  vBin Try.prog .eql 25 t8 (.pointer none) fun t11 =>
  dIf t11 (R (.ret (.pointer none)) h_1)
  (lf (b9_5 (fun c h => R (.pan c) h) (fun v h => exq (fun ρ => ρ 3) v (fun r h_2 =>
  R (.ret (r 3)) h_2) h)) (a0, t8) (.int .i64 0) h_1))
  (fun c h => R (.pan c) h)
def L9 (Kp : List PanicEntry → PH → Prop) : Loops := fun c Q ρ h =>
    sel (Nat.beq (loopId c) 5) (lf (b9_5 Kp (fun v h => exq (fun ρ => ρ 3) v (Q (.exit 0)) h)) ((fun ρ => (ρ 0, ρ 3)) ρ) ((fun ρ => ρ 5) ρ) h)
    (False)
theorem B9_5 (Kp : List PanicEntry → PH → Prop) (KN : (Value × Value) → (Value) → PH → Prop) (XX : Exit → (Value) → PH → Prop) (ρ : Env) (h : PH) :
    den Try.prog qf (ordOf o9) Kp (L9 Kp) (loopAt c9 0) (lq KN XX (fun ρ => (ρ 0, ρ 3)) (fun ρ => ρ 5) (fun ρ => ρ 3)) ρ h = b9_5 Kp (XX (.exit 0)) ((fun ρ => (ρ 0, ρ 3)) ρ) KN ((fun ρ => ρ 5) ρ) h := by kernel_rfl
theorem l9 (R : AEnd → PH → Prop) : LoopsOK Try.prog qf (ordOf o9) (fun c h => R (.pan c) h) (L9 (fun c h => R (.pan c) h)) c9 :=
  LoopsOK.mk 1 (by kernel_rfl) fun i hi Q ρ h H => match i, hi with
    | 0, _ => loop_gen (F := Value × Value) (S := Value) (X := Value) (φ := (fun ρ => (ρ 0, ρ 3))) (π := (fun ρ => ρ 5)) (ξ := (fun ρ => ρ 3)) (B := (fun (XX : Exit → (Value) → PH → Prop) => b9_5 (fun c h => R (.pan c) h) (XX (.exit 0)))) (B9_5 _) (of_den (by kernel_rfl) H)
    | n + 1, hi => absurd hi (by omega)
theorem e9 (a0 : Value) (h : PH) (R : AEnd → PH → Prop) : denF Try.prog qf (ordOf o9) (L9 (fun c h => R (.pan c) h)) Try.f9.results.toList c9 #[a0] h R = sh9 a0 h R := by kernel_rfl
theorem k9 : codeOK Try.prog qf Try.f9.ntmps (ordOf o9) c9 = true := by kernel_rfl
theorem s9 : Try.f9.body = some c9 := by kernel_rfl
theorem call9 {a0 : Value} {h : PH} {R : AEnd → PH → Prop} (H : sh9 a0 h R) : ACalls Try.prog 9 #[a0] h R :=
  ACalls_of_den mixed Try.func9 s9 (by kernel_rfl) k9 (l9 R) (of_den (e9 a0 h R) H)

/- (*gavel/ledger.Ledger).Records -/
noncomputable def c10 : Code := bodyOf Try.f10
def o10 : List (Nat × List (Nat × List Nat)) := [(8, [(0, []), (1, []), (2, []), (3, []), (4, []), (5, []), (6, []), (7, []), (9, []), (10, []), (11, []), (12, []), (13, []), (14, []), (15, []), (17, []), (18, []), (19, []), (20, []), (21, []), (22, []), (23, []), (26, []), (8, [14, 22]), (16, [22]), (24, []), (25, [])])]
def b10_9 (Kp : List PanicEntry → PH → Prop) (x2 : (Value × Value × Value × Value × Value × Value × Value × Value) → PH → Prop) (f : Value × Value × Value × Value × Value × Value × Value × Value × Value) (kn : (Value × Value × Value × Value × Value × Value × Value × Value × Value) → (Value × Value) → PH → Prop) (s : Value × Value) (h : PH) : Prop :=
  vBin Try.prog .lss 3 s.2 f.2.2.2.2.2.2.2.2 fun t53 =>
  dIf t53 (vIxS 1 f.2.2.2.2.2.2.2.1 s.2 fun t54 =>
  vLoad none t54 h fun t55 =>
  vCall Try.prog 24 #[t55] h (fun t58 h_1 =>
  vExt t58 0 fun t59 =>
  vExt t58 1 fun t60 =>
  vBin Try.prog .add 9 s.1 t59 fun t63 =>
  vBin Try.prog .add 3 s.2 (.int .i64 1) fun t64 =>
  kn f (t63, t64) h_1)
  Kp)
  (x2 (f.1, f.2.1, f.2.2.1, f.2.2.2.1, s.1, f.2.2.2.2.1, f.2.2.2.2.2.1, f.2.2.2.2.2.2.1) h)

def b10_5 (Kp : List PanicEntry → PH → Prop) (x0 : Value → PH → Prop) (f : Value × Value × Value) (kn : (Value × Value × Value) → (Value × Value) → PH → Prop) (s : Value × Value) (h : PH) : Prop :=
  vBin Try.prog .lss 3 s.2 f.2.2 fun t22 =>
  dIf t22 (vIxS 12 f.2.1 s.2 fun t24 =>
  vLoad (some 12) t24 h fun t25 =>
  vNew #[.int .i64 0, .int .i64 0, .int .i64 0, .int .i64 0, .int .i64 0, .int .i64 0, .int .i64 0, .int .i64 0, .int .i64 0, .int .i64 0, .int .i64 0, .string ⟨#[]⟩] 66 h fun t5 h_1 =>
  vStore 12 t5 t25 h_1 fun h_2 =>
  vFA 10 t5 fun t26 =>
  vLoad none t26 h_2 fun t27 =>
  vFA 0 t5 fun t28 =>
  vFA 0 t28 fun t29 =>
  vLoad none t29 h_2 fun t30 =>
  vFA 0 t5 fun t31 =>
  vFA 1 t31 fun t32 =>
  vLoad none t32 h_2 fun t33 =>
  vFA 0 t5 fun t35 =>
  vFA 2 t35 fun t36 =>
  vNil f.1 fun t38 =>
  vFA 0 t38 fun t39 =>
  vLoad none t39 h_2 fun t40 =>
  vSlA 4 1 none (some t40) t36 fun t41 =>
  vFA 0 t5 fun t43 =>
  vFA 6 t43 fun t44 =>
  vNil f.1 fun t46 =>
  vFA 0 t46 fun t47 =>
  vLoad none t47 h_2 fun t48 =>
  vSlA 4 1 none (some t48) t44 fun t49 =>
  (3 * 1 ≤ 2 ^ 24) ∧ vBuildS 3 1 3 #[.int .i64 0] [(0, t27), (1, t30), (2, t33)] h_2 fun t34 h_3 =>
  (vLoad none t39 h_3 fun u =>
  t40 = u) ∧
  (vLoad none t47 h_3 fun u_1 =>
  t48 = u_1) ∧
  (0 < 1) ∧ (0 < 8) ∧ (Array.size #[(.int .i64 0 : Value)] = 1) ∧ vAppend false 3 1 8 t34 t41 h_3 fun t42 h_4 =>
  (vLoad none t47 h_4 fun u_2 =>
  t48 = u_2) ∧
  (0 < 1) ∧ (0 < 8) ∧ (Array.size #[(.int .i64 0 : Value)] = 1) ∧ vAppend false 3 1 8 t42 t49 h_4 fun t50 h_5 =>
  vLenS t50 fun t51 =>
  lf (b10_9 Kp (fun v h => exq (fun ρ => (ρ 0, ρ 3, ρ 4, ρ 5, ρ 6, ρ 19, ρ 20, ρ 21)) v (fun r h_6 =>
  vFA 11 (r 5) fun t66 =>
  vLoad none t66 h_6 fun t67 =>
  vCall Try.prog 25 #[t67] h_6 (fun t68 h_7 =>
  vExt t68 0 fun t69 =>
  vExt t68 1 fun t70 =>
  vCall Try.prog 26 #[(r 4)] h_7 (fun t73 h_8 =>
  vBin Try.prog .add 9 (r 6) t69 fun t76 =>
  vBuild [(0, 1), (1, 1)] #[.string ⟨#[]⟩, .string ⟨#[]⟩] [(0, t73), (1, t76)] fun t77 =>
  (1 * 2 ≤ 2 ^ 24) ∧ vBuildS 32 2 1 #[.string ⟨#[]⟩, .string ⟨#[]⟩] [(0, t77)] h_8 fun t78 h_9 =>
  (0 < 2) ∧ (0 < 32) ∧ (Array.size #[(.string ⟨#[]⟩ : Value), (.string ⟨#[]⟩ : Value)] = 2) ∧ vAppend false 32 2 32 (r 3) t78 h_9 fun t79 h_10 =>
  vBin Try.prog .add 3 (r 21) (.int .i64 1) fun t80 =>
  kn ((r 0), (r 19), (r 20)) (t79, t80) h_10)
  Kp)
  Kp) h)) (f.1, s.1, s.2, t5, f.2.1, f.2.2, s.2, t50, t51) ((.string ⟨#[]⟩), (.int .i64 0)) h_5)
  (x0 s.1 h)

def sh10 (a0 : Value) (h : PH) (R : AEnd → PH → Prop) : Prop :=
  vBin Try.prog .eql 25 a0 (.pointer none) fun t14 =>
  dIf t14 (R (.ret (.slice none 0 0)) h)
  (vNil a0 fun t17 =>
  vFA 1 t17 fun t18 =>
  vLoad none t18 h fun t19 =>
  vLenS t19 fun t20 =>
  lf (b10_5 (fun c h => R (.pan c) h) (fun v h => exq (fun ρ => ρ 3) v (fun r h_1 =>
  R (.ret (r 3)) h_1) h)) (a0, t19, t20) ((.slice none 0 0), (.int .i64 0)) h)
def L10 (Kp : List PanicEntry → PH → Prop) : Loops := fun c Q ρ h =>
    sel (Nat.beq (loopId c) 5) (lf (b10_5 Kp (fun v h => exq (fun ρ => ρ 3) v (Q (.exit 0)) h)) ((fun ρ => (ρ 0, ρ 19, ρ 20)) ρ) ((fun ρ => (ρ 3, ρ 21)) ρ) h)
    (sel (Nat.beq (loopId c) 9) (lf (b10_9 Kp (fun v h => exq (fun ρ => (ρ 0, ρ 3, ρ 4, ρ 5, ρ 6, ρ 19, ρ 20, ρ 21)) v (Q (.exit 2)) h)) ((fun ρ => (ρ 0, ρ 3, ρ 4, ρ 5, ρ 19, ρ 20, ρ 21, ρ 50, ρ 51)) ρ) ((fun ρ => (ρ 6, ρ 52)) ρ) h)
    (False))
theorem B10_5 (Kp : List PanicEntry → PH → Prop) (KN : (Value × Value × Value) → (Value × Value) → PH → Prop) (XX : Exit → (Value) → PH → Prop) (ρ : Env) (h : PH) :
    den Try.prog qf (ordOf o10) Kp (L10 Kp) (loopAt c10 0) (lq KN XX (fun ρ => (ρ 0, ρ 19, ρ 20)) (fun ρ => (ρ 3, ρ 21)) (fun ρ => ρ 3)) ρ h = b10_5 Kp (XX (.exit 0)) ((fun ρ => (ρ 0, ρ 19, ρ 20)) ρ) KN ((fun ρ => (ρ 3, ρ 21)) ρ) h := by kernel_rfl
theorem B10_9 (Kp : List PanicEntry → PH → Prop) (KN : (Value × Value × Value × Value × Value × Value × Value × Value × Value) → (Value × Value) → PH → Prop) (XX : Exit → (Value × Value × Value × Value × Value × Value × Value × Value) → PH → Prop) (ρ : Env) (h : PH) :
    den Try.prog qf (ordOf o10) Kp (L10 Kp) (loopAt c10 1) (lq KN XX (fun ρ => (ρ 0, ρ 3, ρ 4, ρ 5, ρ 19, ρ 20, ρ 21, ρ 50, ρ 51)) (fun ρ => (ρ 6, ρ 52)) (fun ρ => (ρ 0, ρ 3, ρ 4, ρ 5, ρ 6, ρ 19, ρ 20, ρ 21))) ρ h = b10_9 Kp (XX (.exit 2)) ((fun ρ => (ρ 0, ρ 3, ρ 4, ρ 5, ρ 19, ρ 20, ρ 21, ρ 50, ρ 51)) ρ) KN ((fun ρ => (ρ 6, ρ 52)) ρ) h := by kernel_rfl
theorem l10 (R : AEnd → PH → Prop) : LoopsOK Try.prog qf (ordOf o10) (fun c h => R (.pan c) h) (L10 (fun c h => R (.pan c) h)) c10 :=
  LoopsOK.mk 2 (by kernel_rfl) fun i hi Q ρ h H => match i, hi with
    | 0, _ => loop_gen (F := Value × Value × Value) (S := Value × Value) (X := Value) (φ := (fun ρ => (ρ 0, ρ 19, ρ 20))) (π := (fun ρ => (ρ 3, ρ 21))) (ξ := (fun ρ => ρ 3)) (B := (fun (XX : Exit → (Value) → PH → Prop) => b10_5 (fun c h => R (.pan c) h) (XX (.exit 0)))) (B10_5 _) (of_den (by kernel_rfl) H)
    | 1, _ => loop_gen (F := Value × Value × Value × Value × Value × Value × Value × Value × Value) (S := Value × Value) (X := Value × Value × Value × Value × Value × Value × Value × Value) (φ := (fun ρ => (ρ 0, ρ 3, ρ 4, ρ 5, ρ 19, ρ 20, ρ 21, ρ 50, ρ 51))) (π := (fun ρ => (ρ 6, ρ 52))) (ξ := (fun ρ => (ρ 0, ρ 3, ρ 4, ρ 5, ρ 6, ρ 19, ρ 20, ρ 21))) (B := (fun (XX : Exit → (Value × Value × Value × Value × Value × Value × Value × Value) → PH → Prop) => b10_9 (fun c h => R (.pan c) h) (XX (.exit 2)))) (B10_9 _) (of_den (by kernel_rfl) H)
    | n + 2, hi => absurd hi (by omega)
theorem e10 (a0 : Value) (h : PH) (R : AEnd → PH → Prop) : denF Try.prog qf (ordOf o10) (L10 (fun c h => R (.pan c) h)) Try.f10.results.toList c10 #[a0] h R = sh10 a0 h R := by kernel_rfl
theorem k10 : codeOK Try.prog qf Try.f10.ntmps (ordOf o10) c10 = true := by kernel_rfl
theorem s10 : Try.f10.body = some c10 := by kernel_rfl
theorem call10 {a0 : Value} {h : PH} {R : AEnd → PH → Prop} (H : sh10 a0 h R) : ACalls Try.prog 10 #[a0] h R :=
  ACalls_of_den mixed Try.func10 s10 (by kernel_rfl) k10 (l10 R) (of_den (e10 a0 h R) H)

/- gavel/gavellaw06.done -/
noncomputable def c11 : Code := bodyOf Try.f11
def o11 : List (Nat × List (Nat × List Nat)) := []
def sh11 (a0 a1 : Value) (h : PH) (R : AEnd → PH → Prop) : Prop :=
  vNew (Value.cells a1) 24 h fun t3 h_1 =>
  vFA 0 t3 fun t5 =>
  vLoad none t5 h_1 fun t6 =>
  vCall Try.prog 27 #[t6, (.int .i64 11)] h_1 (fun t7 h_2 =>
  vBin Try.prog .eql 3 t7 (.int .i64 0) fun t9 =>
  dIf t9 (vFA 1 t3 fun t11 =>
  vLoad none t11 h_2 fun t12 =>
  vFA 4 t3 fun t13 =>
  vLoad none t13 h_2 fun t14 =>
  vCall Try.prog 28 #[a0, t12, t14] h_2 (fun t15 h_3 =>
  R (.ret t15) h_3)
  (fun c h => R (.pan c) h))
  (vBin Try.prog .eql 3 t7 (.int .i64 1) fun t17 =>
  dIf t17 (vFA 1 t3 fun t19 =>
  vLoad none t19 h_2 fun t20 =>
  vFA 4 t3 fun t21 =>
  vLoad none t21 h_2 fun t22 =>
  vCall Try.prog 29 #[a0, t20, t22] h_2 (fun t23 h_4 =>
  R (.ret t23) h_4)
  (fun c h => R (.pan c) h))
  (vBin Try.prog .eql 3 t7 (.int .i64 2) fun t25 =>
  dIf t25 (vFA 1 t3 fun t27 =>
  vLoad none t27 h_2 fun t28 =>
  vFA 3 t3 fun t29 =>
  vLoad none t29 h_2 fun t30 =>
  vFA 4 t3 fun t31 =>
  vLoad none t31 h_2 fun t32 =>
  vCall Try.prog 30 #[a0, t28, t30, t32] h_2 (fun t33 h_5 =>
  R (.ret t33) h_5)
  (fun c h => R (.pan c) h))
  (vBin Try.prog .eql 3 t7 (.int .i64 3) fun t35 =>
  dIf t35 (vFA 1 t3 fun t37 =>
  vLoad none t37 h_2 fun t38 =>
  vFA 3 t3 fun t39 =>
  vLoad none t39 h_2 fun t40 =>
  vFA 4 t3 fun t41 =>
  vLoad none t41 h_2 fun t42 =>
  vCall Try.prog 31 #[a0, t38, t40, t42] h_2 (fun t43 h_6 =>
  R (.ret t43) h_6)
  (fun c h => R (.pan c) h))
  (vBin Try.prog .eql 3 t7 (.int .i64 4) fun t45 =>
  dIf t45 (vFA 1 t3 fun t47 =>
  vLoad none t47 h_2 fun t48 =>
  vFA 4 t3 fun t49 =>
  vLoad none t49 h_2 fun t50 =>
  vCall Try.prog 32 #[a0, t48, t50] h_2 (fun t51 h_7 =>
  R (.ret t51) h_7)
  (fun c h => R (.pan c) h))
  (vBin Try.prog .eql 3 t7 (.int .i64 5) fun t53 =>
  dIf t53 (vFA 1 t3 fun t55 =>
  vLoad none t55 h_2 fun t56 =>
  vFA 4 t3 fun t57 =>
  vLoad none t57 h_2 fun t58 =>
  vCall Try.prog 33 #[a0, t56, t58] h_2 (fun t59 h_8 =>
  R (.ret t59) h_8)
  (fun c h => R (.pan c) h))
  (vBin Try.prog .eql 3 t7 (.int .i64 6) fun t61 =>
  dIf t61 (vFA 1 t3 fun t63 =>
  vLoad none t63 h_2 fun t64 =>
  vFA 3 t3 fun t65 =>
  vLoad none t65 h_2 fun t66 =>
  vFA 4 t3 fun t67 =>
  vLoad none t67 h_2 fun t68 =>
  vCall Try.prog 34 #[a0, t64, t66, t68] h_2 (fun t69 h_9 =>
  R (.ret t69) h_9)
  (fun c h => R (.pan c) h))
  (vBin Try.prog .eql 3 t7 (.int .i64 7) fun t71 =>
  dIf t71 (vFA 1 t3 fun t73 =>
  vLoad none t73 h_2 fun t74 =>
  vFA 3 t3 fun t75 =>
  vLoad none t75 h_2 fun t76 =>
  vFA 4 t3 fun t77 =>
  vLoad none t77 h_2 fun t78 =>
  vCall Try.prog 35 #[a0, t74, t76, t78] h_2 (fun t79 h_10 =>
  R (.ret t79) h_10)
  (fun c h => R (.pan c) h))
  (vBin Try.prog .eql 3 t7 (.int .i64 8) fun t81 =>
  dIf t81 (vFA 1 t3 fun t83 =>
  vLoad none t83 h_2 fun t84 =>
  vFA 2 t3 fun t85 =>
  vLoad none t85 h_2 fun t86 =>
  vFA 4 t3 fun t87 =>
  vLoad none t87 h_2 fun t88 =>
  vCall Try.prog 36 #[a0, t84, t86, t88] h_2 (fun t89 h_11 =>
  R (.ret t89) h_11)
  (fun c h => R (.pan c) h))
  (vBin Try.prog .eql 3 t7 (.int .i64 9) fun t91 =>
  dIf t91 (vFA 1 t3 fun t93 =>
  vLoad none t93 h_2 fun t94 =>
  vFA 2 t3 fun t95 =>
  vLoad none t95 h_2 fun t96 =>
  vFA 3 t3 fun t97 =>
  vLoad none t97 h_2 fun t98 =>
  vFA 4 t3 fun t99 =>
  vLoad none t99 h_2 fun t100 =>
  vCall Try.prog 37 #[a0, t94, t96, t98, t100] h_2 (fun t101 h_12 =>
  R (.ret t101) h_12)
  (fun c h => R (.pan c) h))
  (vFA 1 t3 fun t103 =>
  vLoad none t103 h_2 fun t104 =>
  vFA 4 t3 fun t105 =>
  vLoad none t105 h_2 fun t106 =>
  vFA 5 t3 fun t107 =>
  vLoad none t107 h_2 fun t108 =>
  vCall Try.prog 38 #[a0, t104, t106, t108] h_2 (fun t109 h_13 =>
  R (.ret t109) h_13)
  (fun c h => R (.pan c) h))))))))))))
  (fun c h => R (.pan c) h)
theorem l11 (R : AEnd → PH → Prop) : LoopsOK Try.prog qf (ordOf o11) (fun c h => R (.pan c) h) noLoops c11 := noLoops_ok (by kernel_rfl)
theorem e11 (a0 a1 : Value) (h : PH) (R : AEnd → PH → Prop) : denF Try.prog qf (ordOf o11) noLoops Try.f11.results.toList c11 #[a0, a1] h R = sh11 a0 a1 h R := by kernel_rfl
theorem k11 : codeOK Try.prog qf Try.f11.ntmps (ordOf o11) c11 = true := by kernel_rfl
theorem s11 : Try.f11.body = some c11 := by kernel_rfl
theorem call11 {a0 a1 : Value} {h : PH} {R : AEnd → PH → Prop} (H : sh11 a0 a1 h R) : ACalls Try.prog 11 #[a0, a1] h R :=
  ACalls_of_den mixed Try.func11 s11 (by kernel_rfl) k11 (l11 R) (of_den (e11 a0 a1 h R) H)

end Go.Pw
/- The functions of the program, told as predicate transformers: printed by wip/tools/shprint.py; each is what the model makes of the function, by the kernel's reckoning. -/
set_option linter.unusedVariables false
set_option maxRecDepth 100000
namespace Go.Pw
open Go Go.Proofs
/- gavel/gavelref06.Key -/
noncomputable def c42 : Code := bodyOf Try.f42
def o42 : List (Nat × List (Nat × List Nat)) := []
def sh42 (a0 : Value) (h : PH) (R : AEnd → PH → Prop) : Prop :=
  vBin Try.prog .quo 3 a0 (.int .i64 10) fun t4 =>
  vBin Try.prog .add 3 (.int .i64 48) t4 fun t5 =>
  vConvI .u8 t5 fun t6 =>
  vBin Try.prog .rem 3 a0 (.int .i64 10) fun t8 =>
  vBin Try.prog .add 3 (.int .i64 48) t8 fun t9 =>
  vConvI .u8 t9 fun t10 =>
  (2 * 1 ≤ 2 ^ 24) ∧ vBuildS 5 1 2 #[.int .u8 0] [(0, t6), (1, t10)] h fun t11 h_1 =>
  vConvBS t11 h_1 fun t12 =>
  vBin Try.prog .add 9 (.string ⟨#[97, 99, 99, 116, 47]⟩) t12 fun t13 =>
  R (.ret t13) h_1
theorem l42 (R : AEnd → PH → Prop) : LoopsOK Try.prog qf (ordOf o42) (fun c h => R (.pan c) h) noLoops c42 := noLoops_ok (by kernel_rfl)
theorem e42 (a0 : Value) (h : PH) (R : AEnd → PH → Prop) : denF Try.prog qf (ordOf o42) noLoops Try.f42.results.toList c42 #[a0] h R = sh42 a0 h R := by kernel_rfl
theorem k42 : codeOK Try.prog qf Try.f42.ntmps (ordOf o42) c42 = true := by kernel_rfl
theorem s42 : Try.f42.body = some c42 := by kernel_rfl
theorem call42 {a0 : Value} {h : PH} {R : AEnd → PH → Prop} (H : sh42 a0 h R) : ACalls Try.prog 42 #[a0] h R :=
  ACalls_of_den mixed Try.func42 s42 (by kernel_rfl) k42 (l42 R) (of_den (e42 a0 h R) H)

/- gavel/gavelref06.Total -/
noncomputable def c43 : Code := bodyOf Try.f43
def o43 : List (Nat × List (Nat × List Nat)) := [(5, [(0, []), (1, []), (2, []), (3, []), (4, []), (5, []), (6, []), (7, []), (8, []), (9, []), (10, []), (11, []), (12, []), (13, []), (14, []), (15, []), (16, []), (17, []), (18, []), (19, [])])]
def b43_3 (Kp : List PanicEntry → PH → Prop) (x0 : Value → PH → Prop) (f : Value × Value) (kn : (Value × Value) → (Value × Value) → PH → Prop) (s : Value × Value) (h : PH) : Prop :=
  vFA 1 f.2 fun t8 =>
  vLoad none t8 h fun t9 =>
  vLenS t9 fun t10 =>
  vBin Try.prog .lss 3 s.2 t10 fun t11 =>
  dIf t11 (vFA 1 f.2 fun t15 =>
  vLoad none t15 h fun t16 =>
  vIxS 12 t16 s.2 fun t19 =>
  vFA 0 t19 fun t20 =>
  vIxA 5 1 t20 f.1 fun t21 =>
  vLoad none t21 h fun t22 =>
  vBin Try.prog .add 3 s.1 t22 fun t23 =>
  vFA 1 f.2 fun t24 =>
  vLoad none t24 h fun t25 =>
  vIxS 12 t25 s.2 fun t28 =>
  vFA 5 t28 fun t29 =>
  vIxA 5 1 t29 f.1 fun t30 =>
  vLoad none t30 h fun t31 =>
  vBin Try.prog .add 3 t23 t31 fun t32 =>
  vBin Try.prog .add 3 s.2 (.int .i64 1) fun t13 =>
  kn f (t32, t13) h)
  (x0 s.1 h)

def sh43 (a0 a1 : Value) (h : PH) (R : AEnd → PH → Prop) : Prop :=
  vNew (Value.cells a0) 52 h fun t2 h_1 =>
  lf (b43_3 (fun c h => R (.pan c) h) (fun v h => exq (fun ρ => ρ 5) v (fun r h_2 =>
  R (.ret (r 5)) h_2) h)) (a1, t2) ((.int .i64 0), (.int .i64 0)) h_1
def L43 (Kp : List PanicEntry → PH → Prop) : Loops := fun c Q ρ h =>
    sel (Nat.beq (loopId c) 3) (lf (b43_3 Kp (fun v h => exq (fun ρ => ρ 5) v (Q (.exit 0)) h)) ((fun ρ => (ρ 1, ρ 2)) ρ) ((fun ρ => (ρ 5, ρ 6)) ρ) h)
    (False)
theorem B43_3 (Kp : List PanicEntry → PH → Prop) (KN : (Value × Value) → (Value × Value) → PH → Prop) (XX : Exit → (Value) → PH → Prop) (ρ : Env) (h : PH) :
    den Try.prog qf (ordOf o43) Kp (L43 Kp) (loopAt c43 0) (lq KN XX (fun ρ => (ρ 1, ρ 2)) (fun ρ => (ρ 5, ρ 6)) (fun ρ => ρ 5)) ρ h = b43_3 Kp (XX (.exit 0)) ((fun ρ => (ρ 1, ρ 2)) ρ) KN ((fun ρ => (ρ 5, ρ 6)) ρ) h := by kernel_rfl
theorem l43 (R : AEnd → PH → Prop) : LoopsOK Try.prog qf (ordOf o43) (fun c h => R (.pan c) h) (L43 (fun c h => R (.pan c) h)) c43 :=
  LoopsOK.mk 1 (by kernel_rfl) fun i hi Q ρ h H => match i, hi with
    | 0, _ => loop_gen (F := Value × Value) (S := Value × Value) (X := Value) (φ := (fun ρ => (ρ 1, ρ 2))) (π := (fun ρ => (ρ 5, ρ 6))) (ξ := (fun ρ => ρ 5)) (B := (fun (XX : Exit → (Value) → PH → Prop) => b43_3 (fun c h => R (.pan c) h) (XX (.exit 0)))) (B43_3 _) (of_den (by kernel_rfl) H)
    | n + 1, hi => absurd hi (by omega)
theorem e43 (a0 a1 : Value) (h : PH) (R : AEnd → PH → Prop) : denF Try.prog qf (ordOf o43) (L43 (fun c h => R (.pan c) h)) Try.f43.results.toList c43 #[a0, a1] h R = sh43 a0 a1 h R := by kernel_rfl
theorem k43 : codeOK Try.prog qf Try.f43.ntmps (ordOf o43) c43 = true := by kernel_rfl
theorem s43 : Try.f43.body = some c43 := by kernel_rfl
theorem call43 {a0 a1 : Value} {h : PH} {R : AEnd → PH → Prop} (H : sh43 a0 a1 h R) : ACalls Try.prog 43 #[a0, a1] h R :=
  ACalls_of_den mixed Try.func43 s43 (by kernel_rfl) k43 (l43 R) (of_den (e43 a0 a1 h R) H)

/- gavel/gavelref06.Shown -/
noncomputable def c44 : Code := bodyOf Try.f44
def o44 : List (Nat × List (Nat × List Nat)) := [(7, [(0, []), (1, []), (2, []), (3, []), (4, []), (5, []), (6, []), (7, []), (8, []), (9, []), (10, []), (11, []), (12, []), (13, []), (14, [])])]
def b44_5 (Kp : List PanicEntry → PH → Prop) (x0 : (Value × Value) → PH → Prop) (f : Value × Value × Value) (kn : (Value × Value × Value) → Value → PH → Prop) (s : Value) (h : PH) : Prop :=
  vBin Try.prog .lss 3 s (.int .i64 4) fun t18 =>
  dIf t18 (vBin Try.prog .add 3 s (.int .i64 1) fun t23 =>
  vFA 0 f.1 fun t24 =>
  vIxA 5 1 t24 t23 fun t25 =>
  vLoad none t25 h fun t26 =>
  vBin Try.prog .add 3 s (.int .i64 1) fun t28 =>
  vFA 5 f.1 fun t29 =>
  vIxA 5 1 t29 t28 fun t30 =>
  vLoad none t30 h fun t31 =>
  vBin Try.prog .add 3 t26 t31 fun t32 =>
  vFA 2 f.2.2 fun t33 =>
  vIxA 4 1 t33 s fun t34 =>
  vStore 1 t34 t32 h fun h_1 =>
  vBin Try.prog .add 3 s (.int .i64 1) fun t37 =>
  vFA 5 f.1 fun t38 =>
  vIxA 5 1 t38 t37 fun t39 =>
  vLoad none t39 h_1 fun t40 =>
  vFA 6 f.2.2 fun t41 =>
  vIxA 4 1 t41 s fun t42 =>
  vStore 1 t42 t40 h_1 fun h_2 =>
  vBin Try.prog .add 3 s (.int .i64 1) fun t20 =>
  kn f t20 h_2)
  (x0 (f.2.1, f.2.2) h)

def sh44 (a0 : Value) (h : PH) (R : AEnd → PH → Prop) : Prop :=
  vNew (Value.cells a0) 83 h fun t1 h_1 =>
  vNew #[.int .i64 0, .int .i64 0, .int .i64 0, .int .i64 0, .int .i64 0, .int .i64 0, .int .i64 0, .int .i64 0, .int .i64 0, .int .i64 0] 43 h_1 fun t2 h_2 =>
  vNew #[.int .i64 0, .int .i64 0, .int .i64 0, .int .i64 0, .int .i64 0, .int .i64 0, .int .i64 0, .int .i64 0, .int .i64 0, .int .i64 0] 43 h_2 fun t3 h_3 =>
  vFA 0 t1 fun t5 =>
  vIxA 5 1 t5 (.int .i64 0) fun t6 =>
  vLoad none t6 h_3 fun t7 =>
  vFA 5 t1 fun t8 =>
  vIxA 5 1 t8 (.int .i64 0) fun t9 =>
  vLoad none t9 h_3 fun t10 =>
  vBin Try.prog .add 3 t7 t10 fun t11 =>
  vFA 0 t3 fun t12 =>
  vStore 1 t12 t11 h_3 fun h_4 =>
  vFA 5 t1 fun t13 =>
  vIxA 5 1 t13 (.int .i64 0) fun t14 =>
  vLoad none t14 h_4 fun t15 =>
  vFA 1 t3 fun t16 =>
  vStore 1 t16 t15 h_4 fun h_5 =>
  lf (b44_5 (fun c h => R (.pan c) h) (fun v h => exq (fun ρ => (ρ 2, ρ 3)) v (fun r h_6 =>
  vLoad (some 10) (r 3) h_6 fun t43 =>
  vStore 10 (r 2) t43 h_6 fun h_7 =>
  vLoad (some 10) (r 2) h_7 fun rv =>
  R (.ret rv) h_7) h)) (t1, t2, t3) (.int .i64 0) h_5
def L44 (Kp : List PanicEntry → PH → Prop) : Loops := fun c Q ρ h =>
    sel (Nat.beq (loopId c) 5) (lf (b44_5 Kp (fun v h => exq (fun ρ => (ρ 2, ρ 3)) v (Q (.exit 0)) h)) ((fun ρ => (ρ 1, ρ 2, ρ 3)) ρ) ((fun ρ => ρ 4) ρ) h)
    (False)
theorem B44_5 (Kp : List PanicEntry → PH → Prop) (KN : (Value × Value × Value) → (Value) → PH → Prop) (XX : Exit → (Value × Value) → PH → Prop) (ρ : Env) (h : PH) :
    den Try.prog qf (ordOf o44) Kp (L44 Kp) (loopAt c44 0) (lq KN XX (fun ρ => (ρ 1, ρ 2, ρ 3)) (fun ρ => ρ 4) (fun ρ => (ρ 2, ρ 3))) ρ h = b44_5 Kp (XX (.exit 0)) ((fun ρ => (ρ 1, ρ 2, ρ 3)) ρ) KN ((fun ρ => ρ 4) ρ) h := by kernel_rfl
theorem l44 (R : AEnd → PH → Prop) : LoopsOK Try.prog qf (ordOf o44) (fun c h => R (.pan c) h) (L44 (fun c h => R (.pan c) h)) c44 :=
  LoopsOK.mk 1 (by kernel_rfl) fun i hi Q ρ h H => match i, hi with
    | 0, _ => loop_gen (F := Value × Value × Value) (S := Value) (X := Value × Value) (φ := (fun ρ => (ρ 1, ρ 2, ρ 3))) (π := (fun ρ => ρ 4)) (ξ := (fun ρ => (ρ 2, ρ 3))) (B := (fun (XX : Exit → (Value × Value) → PH → Prop) => b44_5 (fun c h => R (.pan c) h) (XX (.exit 0)))) (B44_5 _) (of_den (by kernel_rfl) H)
    | n + 1, hi => absurd hi (by omega)
theorem e44 (a0 : Value) (h : PH) (R : AEnd → PH → Prop) : denF Try.prog qf (ordOf o44) (L44 (fun c h => R (.pan c) h)) Try.f44.results.toList c44 #[a0] h R = sh44 a0 h R := by kernel_rfl
theorem k44 : codeOK Try.prog qf Try.f44.ntmps (ordOf o44) c44 = true := by kernel_rfl
theorem s44 : Try.f44.body = some c44 := by kernel_rfl
theorem call44 {a0 : Value} {h : PH} {R : AEnd → PH → Prop} (H : sh44 a0 h R) : ACalls Try.prog 44 #[a0] h R :=
  ACalls_of_den mixed Try.func44 s44 (by kernel_rfl) k44 (l44 R) (of_den (e44 a0 h R) H)

/- gavel/gavelref06.In -/
noncomputable def c45 : Code := bodyOf Try.f45
def o45 : List (Nat × List (Nat × List Nat)) := [(7, [(0, []), (1, []), (2, []), (3, []), (4, []), (5, []), (6, []), (7, []), (8, []), (9, []), (10, []), (11, []), (12, []), (13, []), (14, []), (15, []), (16, []), (17, [])])]
def sh45 (a0 a1 a2 a3 : Value) (h : PH) (R : AEnd → PH → Prop) : Prop :=
  vNew (Value.cells a0) 52 h fun t4 h_1 =>
  vNew #[.int .i64 0, .slice none 0 0] 52 h_1 fun t8 h_2 =>
  vLoad (some 2) t4 h_2 fun t12 =>
  vCall Try.prog 62 #[t12, a1, a2, a3] h_2 (fun t16 h_3 =>
  vBin Try.prog .neq 29 t16 (.int .i64 0) fun t18 =>
  dIf t18 (vLoad (some 2) t4 h_3 fun t19 =>
  vStore 2 t8 t19 h_3 fun h_4 =>
  vLoad (some 2) t8 h_4 fun rv =>
  R (.ret (.tuple #[rv, t16])) h_4)
  (vLoad (some 2) t4 h_3 fun t21 =>
  vCall Try.prog 43 #[t21, a2] h_3 (fun t23 h_5 =>
  vBin Try.prog .sub 3 (.int .i64 1099511627776) a3 fun t25 =>
  vBin Try.prog .gtr 3 t23 t25 fun t26 =>
  dIf t26 (vLoad (some 2) t4 h_5 fun t27 =>
  vStore 2 t8 t27 h_5 fun h_6 =>
  vLoad (some 2) t8 h_6 fun rv_1 =>
  R (.ret (.tuple #[rv_1, (.int .i64 62)])) h_6)
  (vLoad (some 2) t4 h_5 fun t28 =>
  vCall Try.prog 63 #[t28] h_5 (fun t29 h_7 =>
  vNew #[.int .i64 0, .slice none 0 0] 52 h_7 fun t11 h_8 =>
  vStore 2 t11 t29 h_8 fun h_9 =>
  vFA 1 t11 fun t30 =>
  vLoad none t30 h_9 fun t31 =>
  vFA 1 t11 fun t34 =>
  vLoad none t34 h_9 fun t35 =>
  vIxS 12 t35 a1 fun t38 =>
  vFA 0 t38 fun t39 =>
  vIxA 5 1 t39 a2 fun t40 =>
  vLoad none t40 h_9 fun t41 =>
  vBin Try.prog .add 3 t41 a3 fun t43 =>
  vIxS 12 t31 a1 fun t44 =>
  vFA 0 t44 fun t45 =>
  vIxA 5 1 t45 a2 fun t46 =>
  vStore 1 t46 t43 h_9 fun h_10 =>
  vLoad (some 2) t11 h_10 fun t47 =>
  vStore 2 t8 t47 h_10 fun h_11 =>
  vLoad (some 2) t8 h_11 fun rv_2 =>
  R (.ret (.tuple #[rv_2, (.int .i64 0)])) h_11)
  (fun c h => R (.pan c) h)))
  (fun c h => R (.pan c) h)))
  (fun c h => R (.pan c) h)
theorem l45 (R : AEnd → PH → Prop) : LoopsOK Try.prog qf (ordOf o45) (fun c h => R (.pan c) h) noLoops c45 := noLoops_ok (by kernel_rfl)
theorem e45 (a0 a1 a2 a3 : Value) (h : PH) (R : AEnd → PH → Prop) : denF Try.prog qf (ordOf o45) noLoops Try.f45.results.toList c45 #[a0, a1, a2, a3] h R = sh45 a0 a1 a2 a3 h R := by kernel_rfl
theorem k45 : codeOK Try.prog qf Try.f45.ntmps (ordOf o45) c45 = true := by kernel_rfl
theorem s45 : Try.f45.body = some c45 := by kernel_rfl
theorem call45 {a0 a1 a2 a3 : Value} {h : PH} {R : AEnd → PH → Prop} (H : sh45 a0 a1 a2 a3 h R) : ACalls Try.prog 45 #[a0, a1, a2, a3] h R :=
  ACalls_of_den mixed Try.func45 s45 (by kernel_rfl) k45 (l45 R) (of_den (e45 a0 a1 a2 a3 h R) H)

/- gavel/gavelref06.Out -/
noncomputable def c46 : Code := bodyOf Try.f46
def o46 : List (Nat × List (Nat × List Nat)) := [(7, [(0, []), (1, []), (2, []), (3, []), (4, []), (5, []), (6, []), (7, []), (8, []), (9, []), (10, []), (11, []), (12, []), (13, []), (14, []), (15, []), (16, []), (17, [])])]
def sh46 (a0 a1 a2 a3 : Value) (h : PH) (R : AEnd → PH → Prop) : Prop :=
  vNew (Value.cells a0) 52 h fun t4 h_1 =>
  vNew #[.int .i64 0, .slice none 0 0] 52 h_1 fun t8 h_2 =>
  vLoad (some 2) t4 h_2 fun t12 =>
  vCall Try.prog 62 #[t12, a1, a2, a3] h_2 (fun t16 h_3 =>
  vBin Try.prog .neq 29 t16 (.int .i64 0) fun t18 =>
  dIf t18 (vLoad (some 2) t4 h_3 fun t19 =>
  vStore 2 t8 t19 h_3 fun h_4 =>
  vLoad (some 2) t8 h_4 fun rv =>
  R (.ret (.tuple #[rv, t16])) h_4)
  (vFA 1 t4 fun t21 =>
  vLoad none t21 h_3 fun t22 =>
  vIxS 12 t22 a1 fun t25 =>
  vFA 0 t25 fun t26 =>
  vIxA 5 1 t26 a2 fun t27 =>
  vLoad none t27 h_3 fun t28 =>
  vBin Try.prog .lss 3 t28 a3 fun t30 =>
  dIf t30 (vLoad (some 2) t4 h_3 fun t31 =>
  vStore 2 t8 t31 h_3 fun h_5 =>
  vLoad (some 2) t8 h_5 fun rv_1 =>
  R (.ret (.tuple #[rv_1, (.int .i64 61)])) h_5)
  (vLoad (some 2) t4 h_3 fun t32 =>
  vCall Try.prog 63 #[t32] h_3 (fun t33 h_6 =>
  vNew #[.int .i64 0, .slice none 0 0] 52 h_6 fun t11 h_7 =>
  vStore 2 t11 t33 h_7 fun h_8 =>
  vFA 1 t11 fun t34 =>
  vLoad none t34 h_8 fun t35 =>
  vFA 1 t11 fun t38 =>
  vLoad none t38 h_8 fun t39 =>
  vIxS 12 t39 a1 fun t42 =>
  vFA 0 t42 fun t43 =>
  vIxA 5 1 t43 a2 fun t44 =>
  vLoad none t44 h_8 fun t45 =>
  vBin Try.prog .sub 3 t45 a3 fun t47 =>
  vIxS 12 t35 a1 fun t48 =>
  vFA 0 t48 fun t49 =>
  vIxA 5 1 t49 a2 fun t50 =>
  vStore 1 t50 t47 h_8 fun h_9 =>
  vLoad (some 2) t11 h_9 fun t51 =>
  vStore 2 t8 t51 h_9 fun h_10 =>
  vLoad (some 2) t8 h_10 fun rv_2 =>
  R (.ret (.tuple #[rv_2, (.int .i64 0)])) h_10)
  (fun c h => R (.pan c) h))))
  (fun c h => R (.pan c) h)
theorem l46 (R : AEnd → PH → Prop) : LoopsOK Try.prog qf (ordOf o46) (fun c h => R (.pan c) h) noLoops c46 := noLoops_ok (by kernel_rfl)
theorem e46 (a0 a1 a2 a3 : Value) (h : PH) (R : AEnd → PH → Prop) : denF Try.prog qf (ordOf o46) noLoops Try.f46.results.toList c46 #[a0, a1, a2, a3] h R = sh46 a0 a1 a2 a3 h R := by kernel_rfl
theorem k46 : codeOK Try.prog qf Try.f46.ntmps (ordOf o46) c46 = true := by kernel_rfl
theorem s46 : Try.f46.body = some c46 := by kernel_rfl
theorem call46 {a0 a1 a2 a3 : Value} {h : PH} {R : AEnd → PH → Prop} (H : sh46 a0 a1 a2 a3 h R) : ACalls Try.prog 46 #[a0, a1, a2, a3] h R :=
  ACalls_of_den mixed Try.func46 s46 (by kernel_rfl) k46 (l46 R) (of_den (e46 a0 a1 a2 a3 h R) H)

/- gavel/gavellaw06.part -/
noncomputable def c47 : Code := bodyOf Try.f47
def o47 : List (Nat × List (Nat × List Nat)) := []
def sh47 (a0 : Value) (h : PH) (R : AEnd → PH → Prop) : Prop :=
  vBin Try.prog .lss 3 a0 (.int .i64 0) fun t4 =>
  gq (boolOf t4) false (fun K =>
  K a0 h)
  (fun t6 h_1 =>
  gq (boolOf t4) false (fun K_1 =>
  vBin Try.prog .gtr 3 t6 (.int .i64 3) fun u =>
  K_1 u h_1)
  (fun t7 h_2 =>
  vPick t4 (.bool true) t7 fun t8 =>
  dIf t8 (R (.ret (.int .i64 (-1))) h_2)
  (vBin Try.prog .add 3 a0 (.int .i64 1) fun t10 =>
  R (.ret t10) h_2)) h_1) h
theorem l47 (R : AEnd → PH → Prop) : LoopsOK Try.prog qf (ordOf o47) (fun c h => R (.pan c) h) noLoops c47 := noLoops_ok (by kernel_rfl)
theorem e47 (a0 : Value) (h : PH) (R : AEnd → PH → Prop) : denF Try.prog qf (ordOf o47) noLoops Try.f47.results.toList c47 #[a0] h R = sh47 a0 h R := by kernel_rfl
theorem k47 : codeOK Try.prog qf Try.f47.ntmps (ordOf o47) c47 = true := by kernel_rfl
theorem s47 : Try.f47.body = some c47 := by kernel_rfl
theorem call47 {a0 : Value} {h : PH} {R : AEnd → PH → Prop} (H : sh47 a0 h R) : ACalls Try.prog 47 #[a0] h R :=
  ACalls_of_den mixed Try.func47 s47 (by kernel_rfl) k47 (l47 R) (of_den (e47 a0 h R) H)

/- gavel/gavelref06.Keep -/
noncomputable def c48 : Code := bodyOf Try.f48
def o48 : List (Nat × List (Nat × List Nat)) := [(3, [(0, []), (1, []), (2, []), (3, []), (4, []), (5, []), (6, []), (7, []), (8, []), (9, []), (10, []), (11, []), (12, []), (13, []), (14, []), (15, []), (16, []), (17, [])])]
def sh48 (a0 a1 a2 a3 : Value) (h : PH) (R : AEnd → PH → Prop) : Prop :=
  vNew (Value.cells a0) 52 h fun t4 h_1 =>
  vNew #[.int .i64 0, .slice none 0 0] 52 h_1 fun t8 h_2 =>
  vLoad (some 2) t4 h_2 fun t13 =>
  vCall Try.prog 46 #[t13, a1, a2, a3] h_2 (fun t17 h_3 =>
  vExt t17 0 fun t18 =>
  vExt t17 1 fun t19 =>
  vNew #[.int .i64 0, .slice none 0 0] 52 h_3 fun t10 h_4 =>
  vStore 2 t10 t18 h_4 fun h_5 =>
  vBin Try.prog .eql 29 t19 (.int .i64 0) fun t21 =>
  dIf t21 (vFA 1 t10 fun t22 =>
  vLoad none t22 h_5 fun t23 =>
  vFA 1 t10 fun t26 =>
  vLoad none t26 h_5 fun t27 =>
  vIxS 12 t27 a1 fun t30 =>
  vFA 5 t30 fun t31 =>
  vIxA 5 1 t31 a2 fun t32 =>
  vLoad none t32 h_5 fun t33 =>
  vBin Try.prog .add 3 t33 a3 fun t35 =>
  vIxS 12 t23 a1 fun t36 =>
  vFA 5 t36 fun t37 =>
  vIxA 5 1 t37 a2 fun t38 =>
  vStore 1 t38 t35 h_5 fun h_6 =>
  vLoad (some 2) t10 h_6 fun t39 =>
  vStore 2 t8 t39 h_6 fun h_7 =>
  vLoad (some 2) t8 h_7 fun rv =>
  R (.ret (.tuple #[rv, t19])) h_7)
  (vLoad (some 2) t10 h_5 fun t39_1 =>
  vStore 2 t8 t39_1 h_5 fun h_8 =>
  vLoad (some 2) t8 h_8 fun rv_1 =>
  R (.ret (.tuple #[rv_1, t19])) h_8))
  (fun c h => R (.pan c) h)
theorem l48 (R : AEnd → PH → Prop) : LoopsOK Try.prog qf (ordOf o48) (fun c h => R (.pan c) h) noLoops c48 := noLoops_ok (by kernel_rfl)
theorem e48 (a0 a1 a2 a3 : Value) (h : PH) (R : AEnd → PH → Prop) : denF Try.prog qf (ordOf o48) noLoops Try.f48.results.toList c48 #[a0, a1, a2, a3] h R = sh48 a0 a1 a2 a3 h R := by kernel_rfl
theorem k48 : codeOK Try.prog qf Try.f48.ntmps (ordOf o48) c48 = true := by kernel_rfl
theorem s48 : Try.f48.body = some c48 := by kernel_rfl
theorem call48 {a0 a1 a2 a3 : Value} {h : PH} {R : AEnd → PH → Prop} (H : sh48 a0 a1 a2 a3 h R) : ACalls Try.prog 48 #[a0, a1, a2, a3] h R :=
  ACalls_of_den mixed Try.func48 s48 (by kernel_rfl) k48 (l48 R) (of_den (e48 a0 a1 a2 a3 h R) H)

/- gavel/gavelref06.Loose -/
noncomputable def c49 : Code := bodyOf Try.f49
def o49 : List (Nat × List (Nat × List Nat)) := []
def sh49 (a0 a1 a2 a3 : Value) (h : PH) (R : AEnd → PH → Prop) : Prop :=
  vNew (Value.cells a0) 52 h fun t4 h_1 =>
  vNew #[.int .i64 0, .slice none 0 0] 52 h_1 fun t8 h_2 =>
  vLoad (some 2) t4 h_2 fun t10 =>
  vCall Try.prog 50 #[t10, a1, a1, a2, a3] h_2 (fun t15 h_3 =>
  vExt t15 0 fun t16 =>
  vExt t15 1 fun t17 =>
  vStore 2 t8 t16 h_3 fun h_4 =>
  vLoad (some 2) t8 h_4 fun rv =>
  R (.ret (.tuple #[rv, t17])) h_4)
  (fun c h => R (.pan c) h)
theorem l49 (R : AEnd → PH → Prop) : LoopsOK Try.prog qf (ordOf o49) (fun c h => R (.pan c) h) noLoops c49 := noLoops_ok (by kernel_rfl)
theorem e49 (a0 a1 a2 a3 : Value) (h : PH) (R : AEnd → PH → Prop) : denF Try.prog qf (ordOf o49) noLoops Try.f49.results.toList c49 #[a0, a1, a2, a3] h R = sh49 a0 a1 a2 a3 h R := by kernel_rfl
theorem k49 : codeOK Try.prog qf Try.f49.ntmps (ordOf o49) c49 = true := by kernel_rfl
theorem s49 : Try.f49.body = some c49 := by kernel_rfl
theorem call49 {a0 a1 a2 a3 : Value} {h : PH} {R : AEnd → PH → Prop} (H : sh49 a0 a1 a2 a3 h R) : ACalls Try.prog 49 #[a0, a1, a2, a3] h R :=
  ACalls_of_den mixed Try.func49 s49 (by kernel_rfl) k49 (l49 R) (of_den (e49 a0 a1 a2 a3 h R) H)

/- gavel/gavelref06.Over -/
noncomputable def c50 : Code := bodyOf Try.f50
def o50 : List (Nat × List (Nat × List Nat)) := [(9, [(0, []), (1, []), (2, []), (3, []), (4, []), (5, []), (6, []), (7, []), (8, []), (9, []), (10, []), (11, []), (12, []), (13, []), (14, []), (15, []), (16, []), (17, [])]), (10, [(0, []), (1, []), (2, []), (3, []), (4, []), (5, []), (6, []), (7, []), (8, []), (9, []), (10, []), (11, []), (12, []), (13, []), (14, []), (15, []), (16, []), (17, [])])]
def sh50 (a0 a1 a2 a3 a4 : Value) (h : PH) (R : AEnd → PH → Prop) : Prop :=
  vNew (Value.cells a0) 52 h fun t5 h_1 =>
  vNew #[.int .i64 0, .slice none 0 0] 52 h_1 fun t10 h_2 =>
  vBin Try.prog .lss 3 a1 (.int .i64 0) fun t15 =>
  gq (boolOf t15) false (fun K =>
  K a1 h_2)
  (fun t17 h_3 =>
  gq (boolOf t15) false (fun K_1 =>
  vFA 1 t5 fun u =>
  K_1 u h_3)
  (fun t18 h_4 =>
  gq (boolOf t15) false (fun K_2 =>
  vLoad none t18 h_4 fun u_1 =>
  K_2 u_1 h_4)
  (fun t19 h_5 =>
  gq (boolOf t15) false (fun K_3 =>
  vLenS t19 fun u_2 =>
  K_3 u_2 h_5)
  (fun t20 h_6 =>
  gq (boolOf t15) false (fun K_4 =>
  vBin Try.prog .geq 3 t17 t20 fun u_3 =>
  K_4 u_3 h_6)
  (fun t21 h_7 =>
  vPick t15 (.bool true) t21 fun t22 =>
  dIf t22 (vLoad (some 2) t5 h_7 fun t23 =>
  vStore 2 t10 t23 h_7 fun h_8 =>
  vLoad (some 2) t10 h_8 fun rv =>
  R (.ret (.tuple #[rv, (.int .i64 60)])) h_8)
  (vLoad (some 2) t5 h_7 fun t24 =>
  vCall Try.prog 62 #[t24, a2, a3, a4] h_7 (fun t28 h_9 =>
  vBin Try.prog .neq 29 t28 (.int .i64 0) fun t30 =>
  dIf t30 (vLoad (some 2) t5 h_9 fun t31 =>
  vStore 2 t10 t31 h_9 fun h_10 =>
  vLoad (some 2) t10 h_10 fun rv_1 =>
  R (.ret (.tuple #[rv_1, t28])) h_10)
  (vFA 1 t5 fun t33 =>
  vLoad none t33 h_9 fun t34 =>
  vIxS 12 t34 a1 fun t37 =>
  vFA 5 t37 fun t38 =>
  vIxA 5 1 t38 a3 fun t39 =>
  vLoad none t39 h_9 fun t40 =>
  vBin Try.prog .lss 3 t40 a4 fun t42 =>
  dIf t42 (vLoad (some 2) t5 h_9 fun t43 =>
  vStore 2 t10 t43 h_9 fun h_11 =>
  vLoad (some 2) t10 h_11 fun rv_2 =>
  R (.ret (.tuple #[rv_2, (.int .i64 61)])) h_11)
  (vLoad (some 2) t5 h_9 fun t44 =>
  vCall Try.prog 63 #[t44] h_9 (fun t45 h_12 =>
  vNew #[.int .i64 0, .slice none 0 0] 52 h_12 fun t13 h_13 =>
  vStore 2 t13 t45 h_13 fun h_14 =>
  vFA 1 t13 fun t46 =>
  vLoad none t46 h_14 fun t47 =>
  vFA 1 t13 fun t50 =>
  vLoad none t50 h_14 fun t51 =>
  vIxS 12 t51 a1 fun t54 =>
  vFA 5 t54 fun t55 =>
  vIxA 5 1 t55 a3 fun t56 =>
  vLoad none t56 h_14 fun t57 =>
  vBin Try.prog .sub 3 t57 a4 fun t59 =>
  vIxS 12 t47 a1 fun t60 =>
  vFA 5 t60 fun t61 =>
  vIxA 5 1 t61 a3 fun t62 =>
  vStore 1 t62 t59 h_14 fun h_15 =>
  vFA 1 t13 fun t63 =>
  vLoad none t63 h_15 fun t64 =>
  vFA 1 t13 fun t67 =>
  vLoad none t67 h_15 fun t68 =>
  vIxS 12 t68 a2 fun t71 =>
  vFA 0 t71 fun t72 =>
  vIxA 5 1 t72 a3 fun t73 =>
  vLoad none t73 h_15 fun t74 =>
  vBin Try.prog .add 3 t74 a4 fun t76 =>
  vIxS 12 t64 a2 fun t77 =>
  vFA 0 t77 fun t78 =>
  vIxA 5 1 t78 a3 fun t79 =>
  vStore 1 t79 t76 h_15 fun h_16 =>
  vLoad (some 2) t13 h_16 fun t80 =>
  vStore 2 t10 t80 h_16 fun h_17 =>
  vLoad (some 2) t10 h_17 fun rv_3 =>
  R (.ret (.tuple #[rv_3, (.int .i64 0)])) h_17)
  (fun c h => R (.pan c) h))))
  (fun c h => R (.pan c) h))) h_6) h_5) h_4) h_3) h_2
theorem l50 (R : AEnd → PH → Prop) : LoopsOK Try.prog qf (ordOf o50) (fun c h => R (.pan c) h) noLoops c50 := noLoops_ok (by kernel_rfl)
theorem e50 (a0 a1 a2 a3 a4 : Value) (h : PH) (R : AEnd → PH → Prop) : denF Try.prog qf (ordOf o50) noLoops Try.f50.results.toList c50 #[a0, a1, a2, a3, a4] h R = sh50 a0 a1 a2 a3 a4 h R := by kernel_rfl
theorem k50 : codeOK Try.prog qf Try.f50.ntmps (ordOf o50) c50 = true := by kernel_rfl
theorem s50 : Try.f50.body = some c50 := by kernel_rfl
theorem call50 {a0 a1 a2 a3 a4 : Value} {h : PH} {R : AEnd → PH → Prop} (H : sh50 a0 a1 a2 a3 a4 h R) : ACalls Try.prog 50 #[a0, a1, a2, a3, a4] h R :=
  ACalls_of_den mixed Try.func50 s50 (by kernel_rfl) k50 (l50 R) (of_den (e50 a0 a1 a2 a3 a4 h R) H)

/- gavel/gavelref06.Mark -/
noncomputable def c51 : Code := bodyOf Try.f51
def o51 : List (Nat × List (Nat × List Nat)) := []
def sh51 (a0 a1 a2 a3 : Value) (h : PH) (R : AEnd → PH → Prop) : Prop :=
  vNew (Value.cells a0) 52 h fun t4 h_1 =>
  vNew #[.int .i64 0, .slice none 0 0] 52 h_1 fun t8 h_2 =>
  vBin Try.prog .lss 3 a1 (.int .i64 0) fun t12 =>
  gq (boolOf t12) false (fun K =>
  K a1 h_2)
  (fun t14 h_3 =>
  gq (boolOf t12) false (fun K_1 =>
  vFA 1 t4 fun u =>
  K_1 u h_3)
  (fun t15 h_4 =>
  gq (boolOf t12) false (fun K_2 =>
  vLoad none t15 h_4 fun u_1 =>
  K_2 u_1 h_4)
  (fun t16 h_5 =>
  gq (boolOf t12) false (fun K_3 =>
  vLenS t16 fun u_2 =>
  K_3 u_2 h_5)
  (fun t17 h_6 =>
  gq (boolOf t12) false (fun K_4 =>
  vBin Try.prog .geq 3 t14 t17 fun u_3 =>
  K_4 u_3 h_6)
  (fun t18 h_7 =>
  vPick t12 (.bool true) t18 fun t19 =>
  dIf t19 (vLoad (some 2) t4 h_7 fun t20 =>
  vStore 2 t8 t20 h_7 fun h_8 =>
  vLoad (some 2) t8 h_8 fun rv =>
  R (.ret (.tuple #[rv, (.int .i64 60)])) h_8)
  (vBin Try.prog .lss 3 a2 (.int .i64 1) fun t22 =>
  gq (boolOf t22) false (fun K_5 =>
  K_5 a2 h_7)
  (fun t24 h_9 =>
  gq (boolOf t22) false (fun K_6 =>
  vBin Try.prog .gtr 3 t24 (.int .i64 1099511627776) fun u_4 =>
  K_6 u_4 h_9)
  (fun t25 h_10 =>
  vPick t22 (.bool true) t25 fun t26 =>
  gq (boolOf t26) false (fun K_7 =>
  K_7 a3 h_10)
  (fun t28 h_11 =>
  gq (boolOf t26) false (fun K_8 =>
  vLenStr t28 fun u_5 =>
  K_8 u_5 h_11)
  (fun t29 h_12 =>
  gq (boolOf t26) false (fun K_9 =>
  vBin Try.prog .gtr 3 t29 (.int .i64 256) fun u_6 =>
  K_9 u_6 h_12)
  (fun t30 h_13 =>
  vPick t26 (.bool true) t30 fun t31 =>
  dIf t31 (vLoad (some 2) t4 h_13 fun t32 =>
  vStore 2 t8 t32 h_13 fun h_14 =>
  vLoad (some 2) t8 h_14 fun rv_1 =>
  R (.ret (.tuple #[rv_1, (.int .i64 1)])) h_14)
  (vFA 1 t4 fun t34 =>
  vLoad none t34 h_13 fun t35 =>
  vIxS 12 t35 a1 fun t37 =>
  vFA 10 t37 fun t38 =>
  vLoad none t38 h_13 fun t39 =>
  vBin Try.prog .leq 3 a2 t39 fun t40 =>
  dIf t40 (vLoad (some 2) t4 h_13 fun t41 =>
  vStore 2 t8 t41 h_13 fun h_15 =>
  vLoad (some 2) t8 h_15 fun rv_2 =>
  R (.ret (.tuple #[rv_2, (.int .i64 91)])) h_15)
  (vLoad (some 2) t4 h_13 fun t42 =>
  vCall Try.prog 63 #[t42] h_13 (fun t43 h_16 =>
  vNew #[.int .i64 0, .slice none 0 0] 52 h_16 fun t10 h_17 =>
  vStore 2 t10 t43 h_17 fun h_18 =>
  vFA 1 t10 fun t44 =>
  vLoad none t44 h_18 fun t45 =>
  vIxS 12 t45 a1 fun t48 =>
  vFA 10 t48 fun t49 =>
  vStore 1 t49 a2 h_18 fun h_19 =>
  vFA 1 t10 fun t50 =>
  vLoad none t50 h_19 fun t51 =>
  vIxS 12 t51 a1 fun t54 =>
  vFA 11 t54 fun t55 =>
  vStore 1 t55 a3 h_19 fun h_20 =>
  vLoad (some 2) t10 h_20 fun t56 =>
  vStore 2 t8 t56 h_20 fun h_21 =>
  vLoad (some 2) t8 h_21 fun rv_3 =>
  R (.ret (.tuple #[rv_3, (.int .i64 0)])) h_21)
  (fun c h => R (.pan c) h)))) h_12) h_11) h_10) h_9) h_7)) h_6) h_5) h_4) h_3) h_2
theorem l51 (R : AEnd → PH → Prop) : LoopsOK Try.prog qf (ordOf o51) (fun c h => R (.pan c) h) noLoops c51 := noLoops_ok (by kernel_rfl)
theorem e51 (a0 a1 a2 a3 : Value) (h : PH) (R : AEnd → PH → Prop) : denF Try.prog qf (ordOf o51) noLoops Try.f51.results.toList c51 #[a0, a1, a2, a3] h R = sh51 a0 a1 a2 a3 h R := by kernel_rfl
theorem k51 : codeOK Try.prog qf Try.f51.ntmps (ordOf o51) c51 = true := by kernel_rfl
theorem s51 : Try.f51.body = some c51 := by kernel_rfl
theorem call51 {a0 a1 a2 a3 : Value} {h : PH} {R : AEnd → PH → Prop} (H : sh51 a0 a1 a2 a3 h R) : ACalls Try.prog 51 #[a0, a1, a2, a3] h R :=
  ACalls_of_den mixed Try.func51 s51 (by kernel_rfl) k51 (l51 R) (of_den (e51 a0 a1 a2 a3 h R) H)

end Go.Pw

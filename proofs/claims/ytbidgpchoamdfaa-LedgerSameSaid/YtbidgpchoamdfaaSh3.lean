/- The functions of the program, told as predicate transformers: printed by wip/tools/shprint.py; each is what the model makes of the function, by the kernel's reckoning. -/
import Derived.Test.YtbidgpchoamdfaaSh
set_option linter.unusedVariables false
set_option maxRecDepth 100000
namespace Go.Pw
open Go Go.Proofs
/- (*gavel/ledger.Ledger).Hold -/
noncomputable def c32 : Code := bodyOf Try.f32
def o32 : List (Nat × List (Nat × List Nat)) := [(4, [(0, []), (1, []), (2, []), (3, []), (4, []), (5, []), (6, []), (7, []), (8, []), (9, []), (10, []), (11, []), (12, [])])]
def sh32 (a0 a1 a2 : Value) (h : PH) (R : AEnd → PH → Prop) : Prop :=
  vCall Try.prog 56 #[a0, a1, (.int .i64 0), a2] h (fun t13 h_1 =>
  vExt t13 0 fun t14 =>
  vExt t13 1 fun t15 =>
  vBin Try.prog .neq 29 t15 (.int .i64 0) fun t17 =>
  dIf t17 (R (.ret t15) h_1)
  (vNil t14 fun t20 =>
  vFA 0 t20 fun t21 =>
  vFA 0 t21 fun t22 =>
  vLoad none t22 h_1 fun t23 =>
  vNil t14 fun t25 =>
  vFA 0 t25 fun t26 =>
  vFA 1 t26 fun t27 =>
  vLoad none t27 h_1 fun t28 =>
  vBin Try.prog .sub 3 t23 t28 fun t29 =>
  vBin Try.prog .lss 3 t29 a2 fun t31 =>
  dIf t31 (R (.ret (.int .i64 61)) h_1)
  (vNil t14 fun t33 =>
  vFA 0 t33 fun t34 =>
  vFA 1 t34 fun t35 =>
  vLoad none t35 h_1 fun t36 =>
  vBin Try.prog .add 3 t36 a2 fun t38 =>
  vNil t14 fun t39 =>
  vFA 0 t39 fun t40 =>
  vFA 1 t40 fun t41 =>
  vStore 1 t41 t38 h_1 fun h_2 =>
  R (.ret (.int .i64 0)) h_2)))
  (fun c h => R (.pan c) h)
theorem l32 (R : AEnd → PH → Prop) : LoopsOK Try.prog qf (ordOf o32) (fun c h => R (.pan c) h) noLoops c32 := noLoops_ok (by kernel_rfl)
theorem e32 (a0 a1 a2 : Value) (h : PH) (R : AEnd → PH → Prop) : denF Try.prog qf (ordOf o32) noLoops Try.f32.results.toList c32 #[a0, a1, a2] h R = sh32 a0 a1 a2 h R := by kernel_rfl
theorem k32 : codeOK Try.prog qf Try.f32.ntmps (ordOf o32) c32 = true := by kernel_rfl
theorem s32 : Try.f32.body = some c32 := by kernel_rfl
theorem call32 {a0 a1 a2 : Value} {h : PH} {R : AEnd → PH → Prop} (H : sh32 a0 a1 a2 h R) : ACalls Try.prog 32 #[a0, a1, a2] h R :=
  ACalls_of_den mixed Try.func32 s32 (by kernel_rfl) k32 (l32 R) (of_den (e32 a0 a1 a2 h R) H)

/- (*gavel/ledger.Ledger).Free -/
noncomputable def c33 : Code := bodyOf Try.f33
def o33 : List (Nat × List (Nat × List Nat)) := []
def sh33 (a0 a1 a2 : Value) (h : PH) (R : AEnd → PH → Prop) : Prop :=
  vCall Try.prog 56 #[a0, a1, (.int .i64 0), a2] h (fun t13 h_1 =>
  vExt t13 0 fun t14 =>
  vExt t13 1 fun t15 =>
  vBin Try.prog .neq 29 t15 (.int .i64 0) fun t17 =>
  dIf t17 (R (.ret t15) h_1)
  (vNil t14 fun t20 =>
  vFA 0 t20 fun t21 =>
  vFA 1 t21 fun t22 =>
  vLoad none t22 h_1 fun t23 =>
  vBin Try.prog .lss 3 t23 a2 fun t25 =>
  dIf t25 (R (.ret (.int .i64 61)) h_1)
  (vNil t14 fun t27 =>
  vFA 0 t27 fun t28 =>
  vFA 1 t28 fun t29 =>
  vLoad none t29 h_1 fun t30 =>
  vBin Try.prog .sub 3 t30 a2 fun t32 =>
  vNil t14 fun t33 =>
  vFA 0 t33 fun t34 =>
  vFA 1 t34 fun t35 =>
  vStore 1 t35 t32 h_1 fun h_2 =>
  R (.ret (.int .i64 0)) h_2)))
  (fun c h => R (.pan c) h)
theorem l33 (R : AEnd → PH → Prop) : LoopsOK Try.prog qf (ordOf o33) (fun c h => R (.pan c) h) noLoops c33 := noLoops_ok (by kernel_rfl)
theorem e33 (a0 a1 a2 : Value) (h : PH) (R : AEnd → PH → Prop) : denF Try.prog qf (ordOf o33) noLoops Try.f33.results.toList c33 #[a0, a1, a2] h R = sh33 a0 a1 a2 h R := by kernel_rfl
theorem k33 : codeOK Try.prog qf Try.f33.ntmps (ordOf o33) c33 = true := by kernel_rfl
theorem s33 : Try.f33.body = some c33 := by kernel_rfl
theorem call33 {a0 a1 a2 : Value} {h : PH} {R : AEnd → PH → Prop} (H : sh33 a0 a1 a2 h R) : ACalls Try.prog 33 #[a0, a1, a2] h R :=
  ACalls_of_den mixed Try.func33 s33 (by kernel_rfl) k33 (l33 R) (of_den (e33 a0 a1 a2 h R) H)

/- (*gavel/ledger.Ledger).Lock -/
noncomputable def c34 : Code := bodyOf Try.f34
def o34 : List (Nat × List (Nat × List Nat)) := [(4, [(0, []), (1, []), (2, []), (3, []), (4, []), (5, []), (6, []), (7, []), (8, []), (9, []), (10, []), (11, []), (12, []), (13, []), (14, []), (15, []), (16, [])]), (6, [(0, []), (1, []), (2, []), (3, []), (4, []), (5, []), (6, []), (7, []), (8, []), (9, []), (10, []), (11, []), (12, []), (13, [])])]
def sh34 (a0 a1 a2 a3 : Value) (h : PH) (R : AEnd → PH → Prop) : Prop :=
  vCall Try.prog 56 #[a0, a1, a2, a3] h (fun t16 h_1 =>
  vExt t16 0 fun t17 =>
  vExt t16 1 fun t18 =>
  vBin Try.prog .neq 29 t18 (.int .i64 0) fun t20 =>
  dIf t20 (R (.ret t18) h_1)
  (vNil t17 fun t24 =>
  vFA 0 t24 fun t25 =>
  vFA 2 t25 fun t26 =>
  vIxA 4 1 t26 a2 fun t27 =>
  vLoad none t27 h_1 fun t28 =>
  vNil t17 fun t31 =>
  vFA 0 t31 fun t32 =>
  vFA 6 t32 fun t33 =>
  vIxA 4 1 t33 a2 fun t34 =>
  vLoad none t34 h_1 fun t35 =>
  vBin Try.prog .sub 3 t28 t35 fun t36 =>
  vBin Try.prog .lss 3 t36 a3 fun t38 =>
  dIf t38 (R (.ret (.int .i64 61)) h_1)
  (vNil t17 fun t41 =>
  vFA 0 t41 fun t42 =>
  vFA 6 t42 fun t43 =>
  vIxA 4 1 t43 a2 fun t44 =>
  vLoad none t44 h_1 fun t45 =>
  vBin Try.prog .add 3 t45 a3 fun t47 =>
  vNil t17 fun t48 =>
  vFA 0 t48 fun t49 =>
  vFA 6 t49 fun t50 =>
  vIxA 4 1 t50 a2 fun t51 =>
  vStore 1 t51 t47 h_1 fun h_2 =>
  R (.ret (.int .i64 0)) h_2)))
  (fun c h => R (.pan c) h)
theorem l34 (R : AEnd → PH → Prop) : LoopsOK Try.prog qf (ordOf o34) (fun c h => R (.pan c) h) noLoops c34 := noLoops_ok (by kernel_rfl)
theorem e34 (a0 a1 a2 a3 : Value) (h : PH) (R : AEnd → PH → Prop) : denF Try.prog qf (ordOf o34) noLoops Try.f34.results.toList c34 #[a0, a1, a2, a3] h R = sh34 a0 a1 a2 a3 h R := by kernel_rfl
theorem k34 : codeOK Try.prog qf Try.f34.ntmps (ordOf o34) c34 = true := by kernel_rfl
theorem s34 : Try.f34.body = some c34 := by kernel_rfl
theorem call34 {a0 a1 a2 a3 : Value} {h : PH} {R : AEnd → PH → Prop} (H : sh34 a0 a1 a2 a3 h R) : ACalls Try.prog 34 #[a0, a1, a2, a3] h R :=
  ACalls_of_den mixed Try.func34 s34 (by kernel_rfl) k34 (l34 R) (of_den (e34 a0 a1 a2 a3 h R) H)

/- (*gavel/ledger.Ledger).Unlock -/
noncomputable def c35 : Code := bodyOf Try.f35
def o35 : List (Nat × List (Nat × List Nat)) := [(6, [(0, []), (1, []), (2, []), (3, []), (4, []), (5, []), (6, []), (7, []), (8, []), (9, []), (10, []), (11, []), (12, []), (13, [])])]
def sh35 (a0 a1 a2 a3 : Value) (h : PH) (R : AEnd → PH → Prop) : Prop :=
  vCall Try.prog 56 #[a0, a1, a2, a3] h (fun t16 h_1 =>
  vExt t16 0 fun t17 =>
  vExt t16 1 fun t18 =>
  vBin Try.prog .neq 29 t18 (.int .i64 0) fun t20 =>
  dIf t20 (R (.ret t18) h_1)
  (vNil t17 fun t24 =>
  vFA 0 t24 fun t25 =>
  vFA 6 t25 fun t26 =>
  vIxA 4 1 t26 a2 fun t27 =>
  vLoad none t27 h_1 fun t28 =>
  vBin Try.prog .lss 3 t28 a3 fun t30 =>
  dIf t30 (R (.ret (.int .i64 61)) h_1)
  (vNil t17 fun t33 =>
  vFA 0 t33 fun t34 =>
  vFA 6 t34 fun t35 =>
  vIxA 4 1 t35 a2 fun t36 =>
  vLoad none t36 h_1 fun t37 =>
  vBin Try.prog .sub 3 t37 a3 fun t39 =>
  vNil t17 fun t40 =>
  vFA 0 t40 fun t41 =>
  vFA 6 t41 fun t42 =>
  vIxA 4 1 t42 a2 fun t43 =>
  vStore 1 t43 t39 h_1 fun h_2 =>
  R (.ret (.int .i64 0)) h_2)))
  (fun c h => R (.pan c) h)
theorem l35 (R : AEnd → PH → Prop) : LoopsOK Try.prog qf (ordOf o35) (fun c h => R (.pan c) h) noLoops c35 := noLoops_ok (by kernel_rfl)
theorem e35 (a0 a1 a2 a3 : Value) (h : PH) (R : AEnd → PH → Prop) : denF Try.prog qf (ordOf o35) noLoops Try.f35.results.toList c35 #[a0, a1, a2, a3] h R = sh35 a0 a1 a2 a3 h R := by kernel_rfl
theorem k35 : codeOK Try.prog qf Try.f35.ntmps (ordOf o35) c35 = true := by kernel_rfl
theorem s35 : Try.f35.body = some c35 := by kernel_rfl
theorem call35 {a0 a1 a2 a3 : Value} {h : PH} {R : AEnd → PH → Prop} (H : sh35 a0 a1 a2 a3 h R) : ACalls Try.prog 35 #[a0, a1, a2, a3] h R :=
  ACalls_of_den mixed Try.func35 s35 (by kernel_rfl) k35 (l35 R) (of_den (e35 a0 a1 a2 a3 h R) H)

/- (*gavel/ledger.Ledger).Move -/
noncomputable def c36 : Code := bodyOf Try.f36
def o36 : List (Nat × List (Nat × List Nat)) := []
def sh36 (a0 a1 a2 a3 : Value) (h : PH) (R : AEnd → PH → Prop) : Prop :=
  vCall Try.prog 39 #[a0, a1] h (fun t17 h_1 =>
  vExt t17 0 fun t18 =>
  vExt t17 1 fun t19 =>
  vBin Try.prog .neq 29 t19 (.int .i64 0) fun t21 =>
  dIf t21 (R (.ret t19) h_1)
  (vCall Try.prog 56 #[a0, a2, (.int .i64 0), a3] h_1 (fun t27 h_2 =>
  vExt t27 0 fun t28 =>
  vExt t27 1 fun t29 =>
  vBin Try.prog .neq 29 t29 (.int .i64 0) fun t31 =>
  dIf t31 (R (.ret t29) h_2)
  (vNil a0 fun t34 =>
  vFA 1 t34 fun t35 =>
  vLoad none t35 h_2 fun t36 =>
  vIxS 12 t36 a1 fun t38 =>
  vNil t38 fun t40 =>
  vFA 0 t40 fun t41 =>
  vFA 1 t41 fun t42 =>
  vLoad none t42 h_2 fun t43 =>
  vBin Try.prog .lss 3 t43 a3 fun t45 =>
  dIf t45 (R (.ret (.int .i64 61)) h_2)
  (vNil t38 fun t47 =>
  vFA 0 t47 fun t48 =>
  vFA 1 t48 fun t49 =>
  vLoad none t49 h_2 fun t50 =>
  vBin Try.prog .sub 3 t50 a3 fun t52 =>
  vNil t38 fun t53 =>
  vFA 0 t53 fun t54 =>
  vFA 1 t54 fun t55 =>
  vStore 1 t55 t52 h_2 fun h_3 =>
  vNil t38 fun t57 =>
  vFA 0 t57 fun t58 =>
  vFA 0 t58 fun t59 =>
  vLoad none t59 h_3 fun t60 =>
  vBin Try.prog .sub 3 t60 a3 fun t62 =>
  vNil t38 fun t63 =>
  vFA 0 t63 fun t64 =>
  vFA 0 t64 fun t65 =>
  vStore 1 t65 t62 h_3 fun h_4 =>
  vNil t28 fun t67 =>
  vFA 0 t67 fun t68 =>
  vFA 0 t68 fun t69 =>
  vLoad none t69 h_4 fun t70 =>
  vBin Try.prog .add 3 t70 a3 fun t72 =>
  vNil t28 fun t73 =>
  vFA 0 t73 fun t74 =>
  vFA 0 t74 fun t75 =>
  vStore 1 t75 t72 h_4 fun h_5 =>
  R (.ret (.int .i64 0)) h_5)))
  (fun c h => R (.pan c) h)))
  (fun c h => R (.pan c) h)
theorem l36 (R : AEnd → PH → Prop) : LoopsOK Try.prog qf (ordOf o36) (fun c h => R (.pan c) h) noLoops c36 := noLoops_ok (by kernel_rfl)
theorem e36 (a0 a1 a2 a3 : Value) (h : PH) (R : AEnd → PH → Prop) : denF Try.prog qf (ordOf o36) noLoops Try.f36.results.toList c36 #[a0, a1, a2, a3] h R = sh36 a0 a1 a2 a3 h R := by kernel_rfl
theorem k36 : codeOK Try.prog qf Try.f36.ntmps (ordOf o36) c36 = true := by kernel_rfl
theorem s36 : Try.f36.body = some c36 := by kernel_rfl
theorem call36 {a0 a1 a2 a3 : Value} {h : PH} {R : AEnd → PH → Prop} (H : sh36 a0 a1 a2 a3 h R) : ACalls Try.prog 36 #[a0, a1, a2, a3] h R :=
  ACalls_of_den mixed Try.func36 s36 (by kernel_rfl) k36 (l36 R) (of_den (e36 a0 a1 a2 a3 h R) H)

/- (*gavel/ledger.Ledger).Hand -/
noncomputable def c37 : Code := bodyOf Try.f37
def o37 : List (Nat × List (Nat × List Nat)) := [(10, [(0, []), (1, []), (2, []), (3, []), (4, []), (5, []), (6, []), (7, []), (8, []), (9, []), (10, []), (11, []), (12, []), (13, [])]), (11, [(0, []), (1, []), (2, []), (3, []), (4, []), (5, []), (6, []), (7, []), (8, []), (9, []), (10, []), (11, []), (12, []), (13, [])]), (12, [(0, []), (1, []), (2, []), (3, []), (4, []), (5, []), (6, []), (7, []), (8, []), (9, []), (10, []), (11, []), (12, []), (13, [])])]
def sh37 (a0 a1 a2 a3 a4 : Value) (h : PH) (R : AEnd → PH → Prop) : Prop :=
  vCall Try.prog 39 #[a0, a1] h (fun t19 h_1 =>
  vExt t19 0 fun t20 =>
  vExt t19 1 fun t21 =>
  vBin Try.prog .neq 29 t21 (.int .i64 0) fun t23 =>
  dIf t23 (R (.ret t21) h_1)
  (vCall Try.prog 56 #[a0, a2, a3, a4] h_1 (fun t30 h_2 =>
  vExt t30 0 fun t31 =>
  vExt t30 1 fun t32 =>
  vBin Try.prog .neq 29 t32 (.int .i64 0) fun t34 =>
  dIf t34 (R (.ret t32) h_2)
  (vNil a0 fun t37 =>
  vFA 1 t37 fun t38 =>
  vLoad none t38 h_2 fun t39 =>
  vIxS 12 t39 a1 fun t41 =>
  vNil t41 fun t44 =>
  vFA 0 t44 fun t45 =>
  vFA 6 t45 fun t46 =>
  vIxA 4 1 t46 a3 fun t47 =>
  vLoad none t47 h_2 fun t48 =>
  vBin Try.prog .lss 3 t48 a4 fun t50 =>
  dIf t50 (R (.ret (.int .i64 61)) h_2)
  (vNil t41 fun t53 =>
  vFA 0 t53 fun t54 =>
  vFA 6 t54 fun t55 =>
  vIxA 4 1 t55 a3 fun t56 =>
  vLoad none t56 h_2 fun t57 =>
  vBin Try.prog .sub 3 t57 a4 fun t59 =>
  vNil t41 fun t60 =>
  vFA 0 t60 fun t61 =>
  vFA 6 t61 fun t62 =>
  vIxA 4 1 t62 a3 fun t63 =>
  vStore 1 t63 t59 h_2 fun h_3 =>
  vNil t41 fun t66 =>
  vFA 0 t66 fun t67 =>
  vFA 2 t67 fun t68 =>
  vIxA 4 1 t68 a3 fun t69 =>
  vLoad none t69 h_3 fun t70 =>
  vBin Try.prog .sub 3 t70 a4 fun t72 =>
  vNil t41 fun t73 =>
  vFA 0 t73 fun t74 =>
  vFA 2 t74 fun t75 =>
  vIxA 4 1 t75 a3 fun t76 =>
  vStore 1 t76 t72 h_3 fun h_4 =>
  vNil t31 fun t79 =>
  vFA 0 t79 fun t80 =>
  vFA 2 t80 fun t81 =>
  vIxA 4 1 t81 a3 fun t82 =>
  vLoad none t82 h_4 fun t83 =>
  vBin Try.prog .add 3 t83 a4 fun t85 =>
  vNil t31 fun t86 =>
  vFA 0 t86 fun t87 =>
  vFA 2 t87 fun t88 =>
  vIxA 4 1 t88 a3 fun t89 =>
  vStore 1 t89 t85 h_4 fun h_5 =>
  R (.ret (.int .i64 0)) h_5)))
  (fun c h => R (.pan c) h)))
  (fun c h => R (.pan c) h)
theorem l37 (R : AEnd → PH → Prop) : LoopsOK Try.prog qf (ordOf o37) (fun c h => R (.pan c) h) noLoops c37 := noLoops_ok (by kernel_rfl)
theorem e37 (a0 a1 a2 a3 a4 : Value) (h : PH) (R : AEnd → PH → Prop) : denF Try.prog qf (ordOf o37) noLoops Try.f37.results.toList c37 #[a0, a1, a2, a3, a4] h R = sh37 a0 a1 a2 a3 a4 h R := by kernel_rfl
theorem k37 : codeOK Try.prog qf Try.f37.ntmps (ordOf o37) c37 = true := by kernel_rfl
theorem s37 : Try.f37.body = some c37 := by kernel_rfl
theorem call37 {a0 a1 a2 a3 a4 : Value} {h : PH} {R : AEnd → PH → Prop} (H : sh37 a0 a1 a2 a3 a4 h R) : ACalls Try.prog 37 #[a0, a1, a2, a3, a4] h R :=
  ACalls_of_den mixed Try.func37 s37 (by kernel_rfl) k37 (l37 R) (of_den (e37 a0 a1 a2 a3 a4 h R) H)

/- (*gavel/ledger.Ledger).Mark -/
noncomputable def c38 : Code := bodyOf Try.f38
def o38 : List (Nat × List (Nat × List Nat)) := []
def sh38 (a0 a1 a2 a3 : Value) (h : PH) (R : AEnd → PH → Prop) : Prop :=
  vCall Try.prog 39 #[a0, a1] h (fun t14 h_1 =>
  vExt t14 0 fun t15 =>
  vExt t14 1 fun t16 =>
  vBin Try.prog .neq 29 t16 (.int .i64 0) fun t18 =>
  dIf t18 (R (.ret t16) h_1)
  (vBin Try.prog .lss 3 a2 (.int .i64 1) fun t21 =>
  gq (boolOf t21) false (fun K =>
  K a2 h_1)
  (fun t23 h_2 =>
  gq (boolOf t21) false (fun K_1 =>
  vBin Try.prog .gtr 3 t23 (.int .i64 1099511627776) fun u =>
  K_1 u h_2)
  (fun t24 h_3 =>
  vPick t21 (.bool true) t24 fun t25 =>
  gq (boolOf t25) false (fun K_2 =>
  K_2 a3 h_3)
  (fun t27 h_4 =>
  gq (boolOf t25) false (fun K_3 =>
  vLenStr t27 fun u_1 =>
  K_3 u_1 h_4)
  (fun t28 h_5 =>
  gq (boolOf t25) false (fun K_4 =>
  vBin Try.prog .gtr 3 t28 (.int .i64 256) fun u_2 =>
  K_4 u_2 h_5)
  (fun t29 h_6 =>
  vPick t25 (.bool true) t29 fun t30 =>
  dIf t30 (R (.ret (.int .i64 1)) h_6)
  (vNil t15 fun t33 =>
  vFA 10 t33 fun t34 =>
  vLoad none t34 h_6 fun t35 =>
  vBin Try.prog .leq 3 a2 t35 fun t36 =>
  dIf t36 (R (.ret (.int .i64 91)) h_6)
  (vNil t15 fun t41 =>
  vFA 10 t41 fun t42 =>
  vStore 1 t42 a2 h_6 fun h_7 =>
  vNil t15 fun t43 =>
  vFA 11 t43 fun t44 =>
  vStore 1 t44 a3 h_7 fun h_8 =>
  R (.ret (.int .i64 0)) h_8))) h_5) h_4) h_3) h_2) h_1))
  (fun c h => R (.pan c) h)
theorem l38 (R : AEnd → PH → Prop) : LoopsOK Try.prog qf (ordOf o38) (fun c h => R (.pan c) h) noLoops c38 := noLoops_ok (by kernel_rfl)
theorem e38 (a0 a1 a2 a3 : Value) (h : PH) (R : AEnd → PH → Prop) : denF Try.prog qf (ordOf o38) noLoops Try.f38.results.toList c38 #[a0, a1, a2, a3] h R = sh38 a0 a1 a2 a3 h R := by kernel_rfl
theorem k38 : codeOK Try.prog qf Try.f38.ntmps (ordOf o38) c38 = true := by kernel_rfl
theorem s38 : Try.f38.body = some c38 := by kernel_rfl
theorem call38 {a0 a1 a2 a3 : Value} {h : PH} {R : AEnd → PH → Prop} (H : sh38 a0 a1 a2 a3 h R) : ACalls Try.prog 38 #[a0, a1, a2, a3] h R :=
  ACalls_of_den mixed Try.func38 s38 (by kernel_rfl) k38 (l38 R) (of_den (e38 a0 a1 a2 a3 h R) H)

/- (*gavel/ledger.Ledger).find -/
noncomputable def c39 : Code := bodyOf Try.f39
def o39 : List (Nat × List (Nat × List Nat)) := []
def sh39 (a0 a1 : Value) (h : PH) (R : AEnd → PH → Prop) : Prop :=
  vBin Try.prog .eql 25 a0 (.pointer none) fun t7 =>
  dIf t7 (R (.ret (.tuple #[(.pointer none), (.int .i64 1)])) h)
  (vBin Try.prog .lss 3 a1 (.int .i64 0) fun t9 =>
  gq (boolOf t9) false (fun K =>
  K a1 h)
  (fun t11 h_1 =>
  gq (boolOf t9) false (fun K_1 =>
  K_1 a0 h_1)
  (fun t12 h_2 =>
  gq (boolOf t9) false (fun K_2 =>
  vNil t12 fun u =>
  K_2 u h_2)
  (fun t13 h_3 =>
  gq (boolOf t9) false (fun K_3 =>
  vFA 1 t13 fun u_1 =>
  K_3 u_1 h_3)
  (fun t14 h_4 =>
  gq (boolOf t9) false (fun K_4 =>
  vLoad none t14 h_4 fun u_2 =>
  K_4 u_2 h_4)
  (fun t15 h_5 =>
  gq (boolOf t9) false (fun K_5 =>
  vLenS t15 fun u_3 =>
  K_5 u_3 h_5)
  (fun t16 h_6 =>
  gq (boolOf t9) false (fun K_6 =>
  vBin Try.prog .geq 3 t11 t16 fun u_4 =>
  K_6 u_4 h_6)
  (fun t17 h_7 =>
  vPick t9 (.bool true) t17 fun t18 =>
  dIf t18 (R (.ret (.tuple #[(.pointer none), (.int .i64 60)])) h_7)
  (vNil a0 fun t20 =>
  vFA 1 t20 fun t21 =>
  vLoad none t21 h_7 fun t22 =>
  vIxS 12 t22 a1 fun t24 =>
  R (.ret (.tuple #[t24, (.int .i64 0)])) h_7)) h_6) h_5) h_4) h_3) h_2) h_1) h)
theorem l39 (R : AEnd → PH → Prop) : LoopsOK Try.prog qf (ordOf o39) (fun c h => R (.pan c) h) noLoops c39 := noLoops_ok (by kernel_rfl)
theorem e39 (a0 a1 : Value) (h : PH) (R : AEnd → PH → Prop) : denF Try.prog qf (ordOf o39) noLoops Try.f39.results.toList c39 #[a0, a1] h R = sh39 a0 a1 h R := by kernel_rfl
theorem k39 : codeOK Try.prog qf Try.f39.ntmps (ordOf o39) c39 = true := by kernel_rfl
theorem s39 : Try.f39.body = some c39 := by kernel_rfl
theorem call39 {a0 a1 : Value} {h : PH} {R : AEnd → PH → Prop} (H : sh39 a0 a1 h R) : ACalls Try.prog 39 #[a0, a1] h R :=
  ACalls_of_den mixed Try.func39 s39 (by kernel_rfl) k39 (l39 R) (of_den (e39 a0 a1 h R) H)

/- (*gavel/ledger.Ledger).read -/
noncomputable def c40 : Code := bodyOf Try.f40
def o40 : List (Nat × List (Nat × List Nat)) := [(7, [(0, []), (1, []), (2, []), (4, []), (5, []), (6, []), (3, []), (7, []), (8, [])]), (12, [(0, []), (1, []), (2, []), (4, []), (5, []), (6, []), (3, []), (7, []), (8, [])]), (15, [(0, []), (1, []), (2, []), (3, []), (4, []), (5, []), (6, []), (7, []), (8, []), (9, []), (10, []), (11, []), (12, []), (13, []), (14, []), (15, []), (16, []), (17, []), (18, []), (19, []), (20, []), (21, []), (22, []), (23, []), (24, []), (25, []), (26, []), (27, []), (28, []), (29, []), (30, []), (31, []), (32, []), (33, []), (34, []), (35, []), (36, [])])]
def b40_5 (Kp : List PanicEntry → PH → Prop) (x0 : (Value × Value × Value × Value × Value × Value) → PH → Prop) (f : Value × Value × Value × Value × Value × Value × Value) (kn : (Value × Value × Value × Value × Value × Value × Value) → Value → PH → Prop) (s : Value) (h : PH) : Prop :=
  vBin Try.prog .lss 3 s f.2.2.2.2.2.2 fun t39 =>
  dIf t39 (vNil f.2.1 fun t45 =>
  vFA 0 t45 fun t46 =>
  vFA 2 t46 fun t47 =>
  vCallV Try.prog f.2.2.2.2.2.1 #[] h (fun t44 h_1 =>
  vIxA 4 1 t47 s fun t48 =>
  vStore 1 t48 t44 h_1 fun h_2 =>
  vBin Try.prog .add 3 s (.int .i64 1) fun t49 =>
  kn f t49 h_2)
  Kp)
  (x0 (f.1, f.2.1, f.2.2.1, f.2.2.2.1, f.2.2.2.2.1, f.2.2.2.2.2.1) h)

def b40_10 (Kp : List PanicEntry → PH → Prop) (x2 : (Value × Value × Value × Value) → PH → Prop) (f : Value × Value × Value × Value × Value × Value) (kn : (Value × Value × Value × Value × Value × Value) → Value → PH → Prop) (s : Value) (h : PH) : Prop :=
  vBin Try.prog .lss 3 s f.2.2.2.2.2 fun t55 =>
  dIf t55 (vNil f.1 fun t61 =>
  vFA 0 t61 fun t62 =>
  vFA 6 t62 fun t63 =>
  vCallV Try.prog f.2.2.2.2.1 #[] h (fun t60 h_1 =>
  vIxA 4 1 t63 s fun t64 =>
  vStore 1 t64 t60 h_1 fun h_2 =>
  vBin Try.prog .add 3 s (.int .i64 1) fun t65 =>
  kn f t65 h_2)
  Kp)
  (x2 (f.1, f.2.1, f.2.2.1, f.2.2.2.1) h)

def b40_18 (Kp : List PanicEntry → PH → Prop) (x4 : (Value × Value × Value) → PH → Prop) (xr : (Value × Value × Value) → PH → Prop) (f : Value × Value × Value) (kn : (Value × Value × Value) → (Value × Value) → PH → Prop) (s : Value × Value) (h : PH) : Prop :=
  vBin Try.prog .lss 3 s.2 (.int .i64 4) fun t116 =>
  dIf t116 (vIxAg none 4 1 f.2.2 s.2 fun t118 =>
  vNil f.1 fun t121 =>
  vFA 0 t121 fun t122 =>
  vFA 6 t122 fun t123 =>
  vIxA 4 1 t123 s.2 fun t124 =>
  vLoad none t124 h fun t125 =>
  vBin Try.prog .gtr 3 t125 t118 fun t127 =>
  dIf t127 (xr (f.1, (.bool false), f.2.1) h)
  (vBin Try.prog .add 3 s.2 (.int .i64 1) fun t128 =>
  kn f (s.1, t128) h))
  (x4 (f.1, s.1, f.2.1) h)

def sh40 (a0 a1 a2 : Value) (h : PH) (R : AEnd → PH → Prop) : Prop :=
  vNew (Value.cells a2) 9 h fun t5 h_1 =>
  vNew #[.int .i64 0] 3 h_1 fun t7 h_2 =>
  vStore 1 t7 (.int .i64 0) h_2 fun h_3 =>
  vFunc (.func 57) #[] #[t5, t7] fun t16 =>
  vCallV Try.prog t16 #[] h_3 (fun t21 h_4 =>
  vCallV Try.prog t16 #[] h_4 (fun t23 h_5 =>
  vCallV Try.prog t16 #[] h_5 (fun t25 h_6 =>
  vNil a1 fun t26 =>
  vFA 10 t26 fun t27 =>
  vStore 1 t27 t21 h_6 fun h_7 =>
  vNil a1 fun t28 =>
  vFA 0 t28 fun t29 =>
  vFA 0 t29 fun t30 =>
  vStore 1 t30 t23 h_7 fun h_8 =>
  vNil a1 fun t31 =>
  vFA 0 t31 fun t32 =>
  vFA 1 t32 fun t33 =>
  vStore 1 t33 t25 h_8 fun h_9 =>
  vNil a0 fun t35 =>
  vFA 0 t35 fun t36 =>
  vLoad none t36 h_9 fun t37 =>
  lf (b40_5 (fun c h => R (.pan c) h) (fun v h => exq (fun ρ => (ρ 0, ρ 1, ρ 5, ρ 6, ρ 7, ρ 8)) v (fun r h_10 =>
  vNil (r 0) fun t51 =>
  vFA 0 t51 fun t52 =>
  vLoad none t52 h_10 fun t53 =>
  lf (b40_10 (fun c h => R (.pan c) h) (fun v h => exq (fun ρ => (ρ 1, ρ 5, ρ 6, ρ 7)) v (fun r_1 h_11 =>
  vLoad none (r_1 5) h_11 fun t67 =>
  vLoad none (r_1 7) h_11 fun t68 =>
  vCall Try.prog 59 #[t67, t68] h_11 (fun t69 h_12 =>
  vExt t69 0 fun t70 =>
  vExt t69 1 fun t71 =>
  vExt t69 2 fun t72 =>
  vBin Try.prog .neq 29 t72 (.int .i64 0) fun t74 =>
  gq (boolOf t74) false (fun K =>
  K t71 h_12)
  (fun t76 h_13 =>
  gq (boolOf t74) false (fun K_1 =>
  vLoad none (r_1 5) h_13 fun u =>
  K_1 u h_13)
  (fun t77 h_14 =>
  gq (boolOf t74) false (fun K_2 =>
  vLenStr t77 fun u_1 =>
  K_2 u_1 h_14)
  (fun t78 h_15 =>
  gq (boolOf t74) false (fun K_3 =>
  vBin Try.prog .neq 3 t76 t78 fun u_2 =>
  K_3 u_2 h_15)
  (fun t79 h_16 =>
  vPick t74 (.bool true) t79 fun t80 =>
  gq (boolOf t80) false (fun K_4 =>
  K_4 t70 h_16)
  (fun t82 h_17 =>
  gq (boolOf t80) false (fun K_5 =>
  vLenStr t82 fun u_3 =>
  K_5 u_3 h_17)
  (fun t83 h_18 =>
  gq (boolOf t80) false (fun K_6 =>
  vBin Try.prog .gtr 3 t83 (.int .i64 256) fun u_4 =>
  K_6 u_4 h_18)
  (fun t84 h_19 =>
  vPick t80 (.bool true) t84 fun t85 =>
  gq (boolOf t85) false (fun K_7 =>
  K_7 (r_1 1) h_19)
  (fun t87 h_20 =>
  gq (boolOf t85) false (fun K_8 =>
  vNil t87 fun u_5 =>
  K_8 u_5 h_20)
  (fun t88 h_21 =>
  gq (boolOf t85) false (fun K_9 =>
  vFA 0 t88 fun u_6 =>
  K_9 u_6 h_21)
  (fun t89 h_22 =>
  gq (boolOf t85) false (fun K_10 =>
  vFA 1 t89 fun u_7 =>
  K_10 u_7 h_22)
  (fun t90 h_23 =>
  gq (boolOf t85) false (fun K_11 =>
  vLoad none t90 h_23 fun u_8 =>
  K_11 u_8 h_23)
  (fun t91 h_24 =>
  gq (boolOf t85) false (fun K_12 =>
  K_12 (r_1 1) h_24)
  (fun t92 h_25 =>
  gq (boolOf t85) false (fun K_13 =>
  vNil t92 fun u_9 =>
  K_13 u_9 h_25)
  (fun t93 h_26 =>
  gq (boolOf t85) false (fun K_14 =>
  vFA 0 t93 fun u_10 =>
  K_14 u_10 h_26)
  (fun t94 h_27 =>
  gq (boolOf t85) false (fun K_15 =>
  vFA 0 t94 fun u_11 =>
  K_15 u_11 h_27)
  (fun t95 h_28 =>
  gq (boolOf t85) false (fun K_16 =>
  vLoad none t95 h_28 fun u_12 =>
  K_16 u_12 h_28)
  (fun t96 h_29 =>
  gq (boolOf t85) false (fun K_17 =>
  vBin Try.prog .gtr 3 t91 t96 fun u_13 =>
  K_17 u_13 h_29)
  (fun t97 h_30 =>
  vPick t85 (.bool true) t97 fun t98 =>
  gq (boolOf t98) false (fun K_18 =>
  K_18 (r_1 1) h_30)
  (fun t100 h_31 =>
  gq (boolOf t98) false (fun K_19 =>
  vNil t100 fun u_14 =>
  K_19 u_14 h_31)
  (fun t101 h_32 =>
  gq (boolOf t98) false (fun K_20 =>
  vFA 10 t101 fun u_15 =>
  K_20 u_15 h_32)
  (fun t102 h_33 =>
  gq (boolOf t98) false (fun K_21 =>
  vLoad none t102 h_33 fun u_16 =>
  K_21 u_16 h_33)
  (fun t103 h_34 =>
  gq (boolOf t98) false (fun K_22 =>
  vBin Try.prog .eql 3 t103 (.int .i64 0) fun u_17 =>
  K_22 u_17 h_34)
  (fun t104 h_35 =>
  gq (boolOf t98) false (fun K_23 =>
  K_23 t104 h_35)
  (fun t105 h_36 =>
  gq (boolOf t105) true (fun K_24 =>
  K_24 t70 h_36)
  (fun t106 h_37 =>
  gq (boolOf t105) true (fun K_25 =>
  vBin Try.prog .neq 9 t106 (.string ⟨#[]⟩) fun u_18 =>
  K_25 u_18 h_37)
  (fun t107 h_38 =>
  gq (boolOf t98) false (fun K_26 =>
  vPick t105 t107 (.bool false) fun u_19 =>
  K_26 u_19 h_38)
  (fun t108 h_39 =>
  vPick t98 (.bool true) t108 fun t109 =>
  dIf t109 (R (.ret (.bool false)) h_39)
  (vNil (r_1 1) fun t111 =>
  vFA 0 t111 fun t112 =>
  vFA 2 t112 fun t113 =>
  vLoad (some 4) t113 h_39 fun t114 =>
  lf (b40_18 (fun c h => R (.pan c) h) (fun v h => exq (fun ρ => (ρ 1, ρ 6, ρ 11)) v (fun r_2 h_40 =>
  vNil (r_2 1) fun t131 =>
  vFA 11 t131 fun t132 =>
  vStore 1 t132 (r_2 11) h_40 fun h_41 =>
  R (.ret (.bool true)) h_41) h) (fun v h => exq (fun ρ => (ρ 1, ρ 6, ρ 11)) v (fun r_2 h_42 =>
  R (.ret (r_2 6)) h_42) h)) ((r_1 1), t70, t114) ((r_1 6), (.int .i64 0)) h_39)) h_38) h_37) h_36) h_35) h_34) h_33) h_32) h_31) h_30) h_29) h_28) h_27) h_26) h_25) h_24) h_23) h_22) h_21) h_20) h_19) h_18) h_17) h_16) h_15) h_14) h_13) h_12)
  (fun c h => R (.pan c) h)) h)) ((r 1), (r 5), (r 6), (r 7), (r 8), t53) (.int .i64 0) h_10) h)) (a0, a1, t5, (.bool false), t7, t16, t37) (.int .i64 0) h_9)
  (fun c h => R (.pan c) h))
  (fun c h => R (.pan c) h))
  (fun c h => R (.pan c) h)
def L40 (Kp : List PanicEntry → PH → Prop) : Loops := fun c Q ρ h =>
    sel (Nat.beq (loopId c) 5) (lf (b40_5 Kp (fun v h => exq (fun ρ => (ρ 0, ρ 1, ρ 5, ρ 6, ρ 7, ρ 8)) v (Q (.exit 0)) h)) ((fun ρ => (ρ 0, ρ 1, ρ 5, ρ 6, ρ 7, ρ 8, ρ 37)) ρ) ((fun ρ => ρ 38) ρ) h)
    (sel (Nat.beq (loopId c) 10) (lf (b40_10 Kp (fun v h => exq (fun ρ => (ρ 1, ρ 5, ρ 6, ρ 7)) v (Q (.exit 2)) h)) ((fun ρ => (ρ 1, ρ 5, ρ 6, ρ 7, ρ 8, ρ 53)) ρ) ((fun ρ => ρ 54) ρ) h)
    (sel (Nat.beq (loopId c) 18) (lf (b40_18 Kp (fun v h => exq (fun ρ => (ρ 1, ρ 6, ρ 11)) v (Q (.exit 4)) h) (fun v h => exq (fun ρ => (ρ 1, ρ 6, ρ 11)) v (Q .ret) h)) ((fun ρ => (ρ 1, ρ 11, ρ 114)) ρ) ((fun ρ => (ρ 6, ρ 115)) ρ) h)
    (False)))
theorem B40_5 (Kp : List PanicEntry → PH → Prop) (KN : (Value × Value × Value × Value × Value × Value × Value) → (Value) → PH → Prop) (XX : Exit → (Value × Value × Value × Value × Value × Value) → PH → Prop) (ρ : Env) (h : PH) :
    den Try.prog qf (ordOf o40) Kp (L40 Kp) (loopAt c40 0) (lq KN XX (fun ρ => (ρ 0, ρ 1, ρ 5, ρ 6, ρ 7, ρ 8, ρ 37)) (fun ρ => ρ 38) (fun ρ => (ρ 0, ρ 1, ρ 5, ρ 6, ρ 7, ρ 8))) ρ h = b40_5 Kp (XX (.exit 0)) ((fun ρ => (ρ 0, ρ 1, ρ 5, ρ 6, ρ 7, ρ 8, ρ 37)) ρ) KN ((fun ρ => ρ 38) ρ) h := by kernel_rfl
theorem B40_10 (Kp : List PanicEntry → PH → Prop) (KN : (Value × Value × Value × Value × Value × Value) → (Value) → PH → Prop) (XX : Exit → (Value × Value × Value × Value) → PH → Prop) (ρ : Env) (h : PH) :
    den Try.prog qf (ordOf o40) Kp (L40 Kp) (loopAt c40 1) (lq KN XX (fun ρ => (ρ 1, ρ 5, ρ 6, ρ 7, ρ 8, ρ 53)) (fun ρ => ρ 54) (fun ρ => (ρ 1, ρ 5, ρ 6, ρ 7))) ρ h = b40_10 Kp (XX (.exit 2)) ((fun ρ => (ρ 1, ρ 5, ρ 6, ρ 7, ρ 8, ρ 53)) ρ) KN ((fun ρ => ρ 54) ρ) h := by kernel_rfl
theorem B40_18 (Kp : List PanicEntry → PH → Prop) (KN : (Value × Value × Value) → (Value × Value) → PH → Prop) (XX : Exit → (Value × Value × Value) → PH → Prop) (ρ : Env) (h : PH) :
    den Try.prog qf (ordOf o40) Kp (L40 Kp) (loopAt c40 2) (lq KN XX (fun ρ => (ρ 1, ρ 11, ρ 114)) (fun ρ => (ρ 6, ρ 115)) (fun ρ => (ρ 1, ρ 6, ρ 11))) ρ h = b40_18 Kp (XX (.exit 4)) (XX .ret) ((fun ρ => (ρ 1, ρ 11, ρ 114)) ρ) KN ((fun ρ => (ρ 6, ρ 115)) ρ) h := by kernel_rfl
theorem l40 (R : AEnd → PH → Prop) : LoopsOK Try.prog qf (ordOf o40) (fun c h => R (.pan c) h) (L40 (fun c h => R (.pan c) h)) c40 :=
  LoopsOK.mk 3 (by kernel_rfl) fun i hi Q ρ h H => match i, hi with
    | 0, _ => loop_gen (F := Value × Value × Value × Value × Value × Value × Value) (S := Value) (X := Value × Value × Value × Value × Value × Value) (φ := (fun ρ => (ρ 0, ρ 1, ρ 5, ρ 6, ρ 7, ρ 8, ρ 37))) (π := (fun ρ => ρ 38)) (ξ := (fun ρ => (ρ 0, ρ 1, ρ 5, ρ 6, ρ 7, ρ 8))) (B := (fun (XX : Exit → (Value × Value × Value × Value × Value × Value) → PH → Prop) => b40_5 (fun c h => R (.pan c) h) (XX (.exit 0)))) (B40_5 _) (of_den (by kernel_rfl) H)
    | 1, _ => loop_gen (F := Value × Value × Value × Value × Value × Value) (S := Value) (X := Value × Value × Value × Value) (φ := (fun ρ => (ρ 1, ρ 5, ρ 6, ρ 7, ρ 8, ρ 53))) (π := (fun ρ => ρ 54)) (ξ := (fun ρ => (ρ 1, ρ 5, ρ 6, ρ 7))) (B := (fun (XX : Exit → (Value × Value × Value × Value) → PH → Prop) => b40_10 (fun c h => R (.pan c) h) (XX (.exit 2)))) (B40_10 _) (of_den (by kernel_rfl) H)
    | 2, _ => loop_gen (F := Value × Value × Value) (S := Value × Value) (X := Value × Value × Value) (φ := (fun ρ => (ρ 1, ρ 11, ρ 114))) (π := (fun ρ => (ρ 6, ρ 115))) (ξ := (fun ρ => (ρ 1, ρ 6, ρ 11))) (B := (fun (XX : Exit → (Value × Value × Value) → PH → Prop) => b40_18 (fun c h => R (.pan c) h) (XX (.exit 4)) (XX .ret))) (B40_18 _) (of_den (by kernel_rfl) H)
    | n + 3, hi => absurd hi (by omega)
theorem e40 (a0 a1 a2 : Value) (h : PH) (R : AEnd → PH → Prop) : denF Try.prog qf (ordOf o40) (L40 (fun c h => R (.pan c) h)) Try.f40.results.toList c40 #[a0, a1, a2] h R = sh40 a0 a1 a2 h R := by kernel_rfl
theorem k40 : codeOK Try.prog qf Try.f40.ntmps (ordOf o40) c40 = true := by kernel_rfl
theorem s40 : Try.f40.body = some c40 := by kernel_rfl
theorem call40 {a0 a1 a2 : Value} {h : PH} {R : AEnd → PH → Prop} (H : sh40 a0 a1 a2 h R) : ACalls Try.prog 40 #[a0, a1, a2] h R :=
  ACalls_of_den mixed Try.func40 s40 (by kernel_rfl) k40 (l40 R) (of_den (e40 a0 a1 a2 h R) H)

/- gavel/gavelref06.read -/
noncomputable def c41 : Code := bodyOf Try.f41
def o41 : List (Nat × List (Nat × List Nat)) := [(20, [(0, []), (1, []), (2, []), (3, []), (4, []), (5, []), (6, []), (7, [])]), (22, [(0, []), (1, []), (2, []), (3, []), (4, []), (5, []), (6, []), (7, []), (8, []), (9, []), (10, []), (11, []), (12, []), (13, [])])]
def b41_5 (Kp : List PanicEntry → PH → Prop) (x0 : (Value × Value × Value × Value × Value × Value × Value) → PH → Prop) (xr : (Value × Value × Value × Value × Value × Value × Value) → PH → Prop) (f : Value × Value × Value × Value) (kn : (Value × Value × Value × Value) → (Value × Value × Value × Value) → PH → Prop) (s : Value × Value × Value × Value) (h : PH) : Prop :=
  vBin Try.prog .mul 3 (.int .i64 2) f.1 fun t20 =>
  vBin Try.prog .add 3 (.int .i64 3) t20 fun t21 =>
  vBin Try.prog .lss 3 s.2.2.2 t21 fun t22 =>
  dIf t22 (vCall Try.prog 60 #[f.2.1, s.2.2.1] h (fun t28 h_1 =>
  vExt t28 0 fun t29 =>
  vExt t28 1 fun t30 =>
  vExt t28 2 fun t31 =>
  vBin Try.prog .neq 29 t31 (.int .i64 0) fun t33 =>
  gq (boolOf t33) false (fun K =>
  K t29 h_1)
  (fun t35 h_2 =>
  gq (boolOf t33) false (fun K_1 =>
  vBin Try.prog .gtr 3 t35 (.int .i64 1099511627776) fun u =>
  K_1 u h_2)
  (fun t36 h_3 =>
  vPick t33 (.bool true) t36 fun t37 =>
  dIf t37 (vLoad (some 12) f.2.2.2 h_3 fun t38 =>
  vStore 12 f.2.2.1 t38 h_3 fun h_4 =>
  xr (f.1, f.2.1, f.2.2.1, (.bool false), f.2.2.2, s.2.1, s.2.2.1) h_4)
  ((1 * 1 ≤ 2 ^ 24) ∧ vBuildS 3 1 1 #[.int .i64 0] [(0, t29)] h_3 fun t41 h_5 =>
  (0 < 1) ∧ (0 < 8) ∧ (Array.size #[(.int .i64 0 : Value)] = 1) ∧ vAppend false 3 1 8 s.2.1 t41 h_5 fun t42 h_6 =>
  vBin Try.prog .add 3 s.2.2.2 (.int .i64 1) fun t24 =>
  kn f (s.1, t42, t30, t24) h_6)) h_2) h_1)
  Kp)
  (x0 (f.1, f.2.1, f.2.2.1, s.1, f.2.2.2, s.2.1, s.2.2.1) h)

def b41_18 (Kp : List PanicEntry → PH → Prop) (x2 : (Value × Value × Value) → PH → Prop) (xr : (Value × Value × Value) → PH → Prop) (f : Value × Value × Value × Value) (kn : (Value × Value × Value × Value) → (Value × Value) → PH → Prop) (s : Value × Value) (h : PH) : Prop :=
  vBin Try.prog .leq 3 s.2 f.1 fun t83 =>
  dIf t83 (vIxS 1 f.2.2.2 (.int .i64 1) fun t87 =>
  vLoad none t87 h fun t88 =>
  vIxS 1 f.2.2.2 (.int .i64 2) fun t90 =>
  vLoad none t90 h fun t91 =>
  vBin Try.prog .gtr 3 s.2 (.int .i64 0) fun t93 =>
  dIf t93 (vBin Try.prog .add 3 (.int .i64 2) s.2 fun t96 =>
  vIxS 1 f.2.2.2 t96 fun t97 =>
  vLoad none t97 h fun t98 =>
  vBin Try.prog .add 3 (.int .i64 2) f.1 fun t101 =>
  vBin Try.prog .add 3 t101 s.2 fun t103 =>
  vIxS 1 f.2.2.2 t103 fun t104 =>
  vLoad none t104 h fun t105 =>
  vBin Try.prog .gtr 3 t105 t98 fun t108 =>
  dIf t108 (vLoad (some 12) f.2.2.1 h fun t109 =>
  vStore 12 f.2.1 t109 h fun h_1 =>
  xr (f.2.1, (.bool false), f.2.2.1) h_1)
  (vBin Try.prog .sub 3 t98 t105 fun t113 =>
  vFA 0 f.2.2.1 fun t114 =>
  vIxA 5 1 t114 s.2 fun t115 =>
  vStore 1 t115 t113 h fun h_2 =>
  vFA 5 f.2.2.1 fun t118 =>
  vIxA 5 1 t118 s.2 fun t119 =>
  vStore 1 t119 t105 h_2 fun h_3 =>
  vBin Try.prog .add 3 s.2 (.int .i64 1) fun t85 =>
  kn f (s.1, t85) h_3))
  (vBin Try.prog .gtr 3 t91 t88 fun t108_1 =>
  dIf t108_1 (vLoad (some 12) f.2.2.1 h fun t109_1 =>
  vStore 12 f.2.1 t109_1 h fun h_4 =>
  xr (f.2.1, (.bool false), f.2.2.1) h_4)
  (vBin Try.prog .sub 3 t88 t91 fun t113_1 =>
  vFA 0 f.2.2.1 fun t114_1 =>
  vIxA 5 1 t114_1 s.2 fun t115_1 =>
  vStore 1 t115_1 t113_1 h fun h_5 =>
  vFA 5 f.2.2.1 fun t118_1 =>
  vIxA 5 1 t118_1 s.2 fun t119_1 =>
  vStore 1 t119_1 t91 h_5 fun h_6 =>
  vBin Try.prog .add 3 s.2 (.int .i64 1) fun t85_1 =>
  kn f (s.1, t85_1) h_6)))
  (x2 (f.2.1, s.1, f.2.2.1) h)

def sh41 (a0 a1 : Value) (h : PH) (R : AEnd → PH → Prop) : Prop :=
  vNew #[.int .i64 0, .int .i64 0, .int .i64 0, .int .i64 0, .int .i64 0, .int .i64 0, .int .i64 0, .int .i64 0, .int .i64 0, .int .i64 0, .int .i64 0, .string ⟨#[]⟩] 83 h fun t4 h_1 =>
  vNew #[.int .i64 0, .int .i64 0, .int .i64 0, .int .i64 0, .int .i64 0, .int .i64 0, .int .i64 0, .int .i64 0, .int .i64 0, .int .i64 0, .int .i64 0, .string ⟨#[]⟩] 83 h_1 fun t6 h_2 =>
  lf (b41_5 (fun c h => R (.pan c) h) (fun v h => exq (fun ρ => (ρ 0, ρ 1, ρ 4, ρ 5, ρ 6, ρ 7, ρ 8)) v (fun r h_3 =>
  vCall Try.prog 61 #[(r 1), (r 8)] h_3 (fun t47 h_4 =>
  vExt t47 0 fun t48 =>
  vExt t47 1 fun t49 =>
  vExt t47 2 fun t50 =>
  vBin Try.prog .neq 29 t50 (.int .i64 0) fun t52 =>
  gq (boolOf t52) false (fun K =>
  K t49 h_4)
  (fun t54 h_5 =>
  gq (boolOf t52) false (fun K_1 =>
  K_1 (r 1) h_5)
  (fun t55 h_6 =>
  gq (boolOf t52) false (fun K_2 =>
  vLenStr t55 fun u =>
  K_2 u h_6)
  (fun t56 h_7 =>
  gq (boolOf t52) false (fun K_3 =>
  vBin Try.prog .neq 3 t54 t56 fun u_1 =>
  K_3 u_1 h_7)
  (fun t57 h_8 =>
  vPick t52 (.bool true) t57 fun t58 =>
  gq (boolOf t58) false (fun K_4 =>
  K_4 t48 h_8)
  (fun t60 h_9 =>
  gq (boolOf t58) false (fun K_5 =>
  vLenStr t60 fun u_2 =>
  K_5 u_2 h_9)
  (fun t61 h_10 =>
  gq (boolOf t58) false (fun K_6 =>
  vBin Try.prog .gtr 3 t61 (.int .i64 256) fun u_3 =>
  K_6 u_3 h_10)
  (fun t62 h_11 =>
  vPick t58 (.bool true) t62 fun t63 =>
  gq (boolOf t63) false (fun K_7 =>
  K_7 (r 7) h_11)
  (fun t65 h_12 =>
  gq (boolOf t63) false (fun K_8 =>
  vIxS 1 t65 (.int .i64 0) fun u_4 =>
  K_8 u_4 h_12)
  (fun t66 h_13 =>
  gq (boolOf t63) false (fun K_9 =>
  vLoad none t66 h_13 fun u_5 =>
  K_9 u_5 h_13)
  (fun t67 h_14 =>
  gq (boolOf t63) false (fun K_10 =>
  vBin Try.prog .eql 3 t67 (.int .i64 0) fun u_6 =>
  K_10 u_6 h_14)
  (fun t68 h_15 =>
  gq (boolOf t63) false (fun K_11 =>
  K_11 t68 h_15)
  (fun t69 h_16 =>
  gq (boolOf t69) true (fun K_12 =>
  K_12 t48 h_16)
  (fun t70 h_17 =>
  gq (boolOf t69) true (fun K_13 =>
  vBin Try.prog .neq 9 t70 (.string ⟨#[]⟩) fun u_7 =>
  K_13 u_7 h_17)
  (fun t71 h_18 =>
  gq (boolOf t63) false (fun K_14 =>
  vPick t69 t71 (.bool false) fun u_8 =>
  K_14 u_8 h_18)
  (fun t72 h_19 =>
  vPick t63 (.bool true) t72 fun t73 =>
  dIf t73 (vLoad (some 12) (r 6) h_19 fun t74 =>
  vStore 12 (r 4) t74 h_19 fun h_20 =>
  vLoad (some 12) (r 4) h_20 fun rv =>
  R (.ret (.tuple #[rv, (.bool false)])) h_20)
  (vIxS 1 (r 7) (.int .i64 0) fun t76 =>
  vLoad none t76 h_19 fun t77 =>
  vFA 10 (r 6) fun t78 =>
  vStore 1 t78 t77 h_19 fun h_21 =>
  vFA 11 (r 6) fun t80 =>
  vStore 1 t80 t48 h_21 fun h_22 =>
  lf (b41_18 (fun c h => R (.pan c) h) (fun v h => exq (fun ρ => (ρ 4, ρ 5, ρ 6)) v (fun r_1 h_23 =>
  vLoad (some 12) (r_1 6) h_23 fun t120 =>
  vStore 12 (r_1 4) t120 h_23 fun h_24 =>
  vLoad (some 12) (r_1 4) h_24 fun rv_1 =>
  R (.ret (.tuple #[rv_1, (.bool true)])) h_24) h) (fun v h => exq (fun ρ => (ρ 4, ρ 5, ρ 6)) v (fun r_1 h_25 =>
  vLoad (some 12) (r_1 4) h_25 fun rv_2 =>
  R (.ret (.tuple #[rv_2, (r_1 5)])) h_25) h)) ((r 0), (r 4), (r 6), (r 7)) ((r 5), (.int .i64 0)) h_22)) h_18) h_17) h_16) h_15) h_14) h_13) h_12) h_11) h_10) h_9) h_8) h_7) h_6) h_5) h_4)
  (fun c h => R (.pan c) h)) h) (fun v h => exq (fun ρ => (ρ 0, ρ 1, ρ 4, ρ 5, ρ 6, ρ 7, ρ 8)) v (fun r h_26 =>
  vLoad (some 12) (r 4) h_26 fun rv_3 =>
  R (.ret (.tuple #[rv_3, (r 5)])) h_26) h)) (a0, a1, t4, t6) ((.bool false), (.slice none 0 0), (.int .i64 0), (.int .i64 0)) h_2
def L41 (Kp : List PanicEntry → PH → Prop) : Loops := fun c Q ρ h =>
    sel (Nat.beq (loopId c) 5) (lf (b41_5 Kp (fun v h => exq (fun ρ => (ρ 0, ρ 1, ρ 4, ρ 5, ρ 6, ρ 7, ρ 8)) v (Q (.exit 0)) h) (fun v h => exq (fun ρ => (ρ 0, ρ 1, ρ 4, ρ 5, ρ 6, ρ 7, ρ 8)) v (Q .ret) h)) ((fun ρ => (ρ 0, ρ 1, ρ 4, ρ 6)) ρ) ((fun ρ => (ρ 5, ρ 7, ρ 8, ρ 9)) ρ) h)
    (sel (Nat.beq (loopId c) 18) (lf (b41_18 Kp (fun v h => exq (fun ρ => (ρ 4, ρ 5, ρ 6)) v (Q (.exit 2)) h) (fun v h => exq (fun ρ => (ρ 4, ρ 5, ρ 6)) v (Q .ret) h)) ((fun ρ => (ρ 0, ρ 4, ρ 6, ρ 7)) ρ) ((fun ρ => (ρ 5, ρ 15)) ρ) h)
    (False))
theorem B41_5 (Kp : List PanicEntry → PH → Prop) (KN : (Value × Value × Value × Value) → (Value × Value × Value × Value) → PH → Prop) (XX : Exit → (Value × Value × Value × Value × Value × Value × Value) → PH → Prop) (ρ : Env) (h : PH) :
    den Try.prog qf (ordOf o41) Kp (L41 Kp) (loopAt c41 0) (lq KN XX (fun ρ => (ρ 0, ρ 1, ρ 4, ρ 6)) (fun ρ => (ρ 5, ρ 7, ρ 8, ρ 9)) (fun ρ => (ρ 0, ρ 1, ρ 4, ρ 5, ρ 6, ρ 7, ρ 8))) ρ h = b41_5 Kp (XX (.exit 0)) (XX .ret) ((fun ρ => (ρ 0, ρ 1, ρ 4, ρ 6)) ρ) KN ((fun ρ => (ρ 5, ρ 7, ρ 8, ρ 9)) ρ) h := by kernel_rfl
theorem B41_18 (Kp : List PanicEntry → PH → Prop) (KN : (Value × Value × Value × Value) → (Value × Value) → PH → Prop) (XX : Exit → (Value × Value × Value) → PH → Prop) (ρ : Env) (h : PH) :
    den Try.prog qf (ordOf o41) Kp (L41 Kp) (loopAt c41 1) (lq KN XX (fun ρ => (ρ 0, ρ 4, ρ 6, ρ 7)) (fun ρ => (ρ 5, ρ 15)) (fun ρ => (ρ 4, ρ 5, ρ 6))) ρ h = b41_18 Kp (XX (.exit 2)) (XX .ret) ((fun ρ => (ρ 0, ρ 4, ρ 6, ρ 7)) ρ) KN ((fun ρ => (ρ 5, ρ 15)) ρ) h := by kernel_rfl
theorem l41 (R : AEnd → PH → Prop) : LoopsOK Try.prog qf (ordOf o41) (fun c h => R (.pan c) h) (L41 (fun c h => R (.pan c) h)) c41 :=
  LoopsOK.mk 2 (by kernel_rfl) fun i hi Q ρ h H => match i, hi with
    | 0, _ => loop_gen (F := Value × Value × Value × Value) (S := Value × Value × Value × Value) (X := Value × Value × Value × Value × Value × Value × Value) (φ := (fun ρ => (ρ 0, ρ 1, ρ 4, ρ 6))) (π := (fun ρ => (ρ 5, ρ 7, ρ 8, ρ 9))) (ξ := (fun ρ => (ρ 0, ρ 1, ρ 4, ρ 5, ρ 6, ρ 7, ρ 8))) (B := (fun (XX : Exit → (Value × Value × Value × Value × Value × Value × Value) → PH → Prop) => b41_5 (fun c h => R (.pan c) h) (XX (.exit 0)) (XX .ret))) (B41_5 _) (of_den (by kernel_rfl) H)
    | 1, _ => loop_gen (F := Value × Value × Value × Value) (S := Value × Value) (X := Value × Value × Value) (φ := (fun ρ => (ρ 0, ρ 4, ρ 6, ρ 7))) (π := (fun ρ => (ρ 5, ρ 15))) (ξ := (fun ρ => (ρ 4, ρ 5, ρ 6))) (B := (fun (XX : Exit → (Value × Value × Value) → PH → Prop) => b41_18 (fun c h => R (.pan c) h) (XX (.exit 2)) (XX .ret))) (B41_18 _) (of_den (by kernel_rfl) H)
    | n + 2, hi => absurd hi (by omega)
theorem e41 (a0 a1 : Value) (h : PH) (R : AEnd → PH → Prop) : denF Try.prog qf (ordOf o41) (L41 (fun c h => R (.pan c) h)) Try.f41.results.toList c41 #[a0, a1] h R = sh41 a0 a1 h R := by kernel_rfl
theorem k41 : codeOK Try.prog qf Try.f41.ntmps (ordOf o41) c41 = true := by kernel_rfl
theorem s41 : Try.f41.body = some c41 := by kernel_rfl
theorem call41 {a0 a1 : Value} {h : PH} {R : AEnd → PH → Prop} (H : sh41 a0 a1 h R) : ACalls Try.prog 41 #[a0, a1] h R :=
  ACalls_of_den mixed Try.func41 s41 (by kernel_rfl) k41 (l41 R) (of_den (e41 a0 a1 h R) H)

end Go.Pw

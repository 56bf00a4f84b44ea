/- The functions of the program, told as predicate transformers: printed by wip/tools/shprint.py; each is what the model makes of the function, by the kernel's reckoning. -/
import Derived.Test.YtbidgpchoamdfaaSh
set_option linter.unusedVariables false
set_option maxRecDepth 100000
namespace Go.Pw
open Go Go.Proofs
/- gosem.cut.init -/
noncomputable def c2 : Code := bodyOf Try.f2
def o2 : List (Nat × List (Nat × List Nat)) := []
def sh2 (h : PH) (R : AEnd → PH → Prop) : Prop :=
  vCall Try.prog 1 #[] h (fun t0 h_1 =>
  R (.ret (.tuple #[])) h_1)
  (fun c h => R (.pan c) h)
theorem l2 (R : AEnd → PH → Prop) : LoopsOK Try.prog qf (ordOf o2) (fun c h => R (.pan c) h) noLoops c2 := noLoops_ok (by kernel_rfl)
theorem e2 (h : PH) (R : AEnd → PH → Prop) : denF Try.prog qf (ordOf o2) noLoops Try.f2.results.toList c2 #[] h R = sh2 h R := by kernel_rfl
theorem k2 : codeOK Try.prog qf Try.f2.ntmps (ordOf o2) c2 = true := by kernel_rfl
theorem s2 : Try.f2.body = some c2 := by kernel_rfl
theorem call2 {h : PH} {R : AEnd → PH → Prop} (H : sh2 h R) : ACalls Try.prog 2 #[] h R :=
  ACalls_of_den mixed Try.func2 s2 (by kernel_rfl) k2 (l2 R) (of_den (e2 h R) H)

/- gavel/gavellaw06.LedgerRefused -/
noncomputable def c3 : Code := bodyOf Try.f3
def o3 : List (Nat × List (Nat × List Nat)) := [(13, [(0, []), (1, []), (2, []), (3, []), (4, []), (5, []), (6, []), (7, []), (8, []), (9, []), (10, []), (11, []), (12, []), (13, []), (14, []), (15, [])])]
def b3_10 (Kp : List PanicEntry → PH → Prop) (x0 : Value → PH → Prop) (xr : Value → PH → Prop) (f : Value × Value × Value × Value) (kn : (Value × Value × Value × Value) → (Value × Value) → PH → Prop) (s : Value × Value) (h : PH) : Prop :=
  vBin Try.prog .lss 3 s.2 (.int .i64 3) fun t31 =>
  dIf t31 (vFA 1 f.1 fun t35 =>
  vLoad none t35 h fun t36 =>
  vBin Try.prog .neq 3 s.2 t36 fun t37 =>
  gq (boolOf t37) true (fun K =>
  K s.2 h)
  (fun t39 h_1 =>
  gq (boolOf t37) true (fun K_1 =>
  vFA 2 f.1 fun u =>
  K_1 u h_1)
  (fun t40 h_2 =>
  gq (boolOf t37) true (fun K_2 =>
  vLoad none t40 h_2 fun u_1 =>
  K_2 u_1 h_2)
  (fun t41 h_3 =>
  gq (boolOf t37) true (fun K_3 =>
  vBin Try.prog .neq 3 t39 t41 fun u_2 =>
  K_3 u_2 h_3)
  (fun t42 h_4 =>
  vPick t37 t42 (.bool false) fun t43 =>
  vBin Try.prog .neq 29 f.2.2.1 (.int .i64 0) fun t45 =>
  gq (boolOf t45) false (fun K_4 =>
  K_4 t43 h_4)
  (fun t47 h_5 =>
  vPick t45 (.bool true) t47 fun t48 =>
  gq (boolOf t48) true (fun K_5 =>
  K_5 f.2.1 h_5)
  (fun t50 h_6 =>
  gq (boolOf t48) true (fun K_6 =>
  K_6 s.2 h_6)
  (fun t51 h_7 =>
  gq (boolOf t48) true (fun K_7 =>
  vIxS 2 t50 t51 fun u_3 =>
  K_7 u_3 h_7)
  (fun t52 h_8 =>
  gq (boolOf t48) true (fun K_8 =>
  vLoad (some 2) t52 h_8 fun u_4 =>
  K_8 u_4 h_8)
  (fun t53 h_9 =>
  gq (boolOf t48) true (fun K_9 =>
  K_9 f.2.2.2 h_9)
  (fun t54 h_10 =>
  gq (boolOf t48) true (fun K_10 =>
  K_10 s.2 h_10)
  (fun t55 h_11 =>
  gq (boolOf t48) true (fun K_11 =>
  vIxS 2 t54 t55 fun u_5 =>
  K_11 u_5 h_11)
  (fun t56 h_12 =>
  gq (boolOf t48) true (fun K_12 =>
  vLoad (some 2) t56 h_12 fun u_6 =>
  K_12 u_6 h_12)
  (fun t57 h_13 =>
  gq (boolOf t48) true (fun K_13 =>
  vBin Try.prog .neq 32 t53 t57 fun u_7 =>
  K_13 u_7 h_13)
  (fun t58 h_14 =>
  vPick t48 t58 (.bool false) fun t59 =>
  dIf t59 (xr (.bool false) h_14)
  (vBin Try.prog .add 3 s.2 (.int .i64 1) fun t33 =>
  kn f (s.1, t33) h_14)) h_13) h_12) h_11) h_10) h_9) h_8) h_7) h_6) h_5) h_4) h_3) h_2) h_1) h)
  (x0 s.1 h)

def sh3 (a0 a1 : Value) (h : PH) (R : AEnd → PH → Prop) : Prop :=
  vNew (Value.cells a1) 24 h fun t3 h_1 =>
  vCall Try.prog 9 #[a0] h_1 (fun t12 h_2 =>
  vBin Try.prog .eql 25 t12 (.pointer none) fun t14 =>
  dIf t14 (R (.ret (.bool false)) h_2)
  (vCall Try.prog 10 #[t12] h_2 (fun t16 h_3 =>
  vLoad (some 6) t3 h_3 fun t18 =>
  vCall Try.prog 11 #[t12, t18] h_3 (fun t19 h_4 =>
  vCall Try.prog 10 #[t12] h_4 (fun t21 h_5 =>
  vLenS t16 fun t23 =>
  vBin Try.prog .neq 3 t23 (.int .i64 3) fun t24 =>
  gq (boolOf t24) false (fun K =>
  K t21 h_5)
  (fun t26 h_6 =>
  gq (boolOf t24) false (fun K_1 =>
  vLenS t26 fun u =>
  K_1 u h_6)
  (fun t27 h_7 =>
  gq (boolOf t24) false (fun K_2 =>
  vBin Try.prog .neq 3 t27 (.int .i64 3) fun u_1 =>
  K_2 u_1 h_7)
  (fun t28 h_8 =>
  vPick t24 (.bool true) t28 fun t29 =>
  dIf t29 (R (.ret (.bool false)) h_8)
  (lf (b3_10 (fun c h => R (.pan c) h) (fun v h => exq (fun ρ => ρ 4) v (fun r h_9 =>
  vCall Try.prog 12 #[] h_9 (fun t60 h_10 =>
  R (.ret t60) h_10)
  (fun c h => R (.pan c) h)) h) (fun v h => exq (fun ρ => ρ 4) v (fun r h_11 =>
  R (.ret (r 4)) h_11) h)) (t3, t16, t19, t21) ((.bool false), (.int .i64 0)) h_8)) h_7) h_6) h_5)
  (fun c h => R (.pan c) h))
  (fun c h => R (.pan c) h))
  (fun c h => R (.pan c) h)))
  (fun c h => R (.pan c) h)
def L3 (Kp : List PanicEntry → PH → Prop) : Loops := fun c Q ρ h =>
    sel (Nat.beq (loopId c) 10) (lf (b3_10 Kp (fun v h => exq (fun ρ => ρ 4) v (Q (.exit 0)) h) (fun v h => exq (fun ρ => ρ 4) v (Q .ret) h)) ((fun ρ => (ρ 3, ρ 6, ρ 7, ρ 8)) ρ) ((fun ρ => (ρ 4, ρ 9)) ρ) h)
    (False)
theorem B3_10 (Kp : List PanicEntry → PH → Prop) (KN : (Value × Value × Value × Value) → (Value × Value) → PH → Prop) (XX : Exit → (Value) → PH → Prop) (ρ : Env) (h : PH) :
    den Try.prog qf (ordOf o3) Kp (L3 Kp) (loopAt c3 0) (lq KN XX (fun ρ => (ρ 3, ρ 6, ρ 7, ρ 8)) (fun ρ => (ρ 4, ρ 9)) (fun ρ => ρ 4)) ρ h = b3_10 Kp (XX (.exit 0)) (XX .ret) ((fun ρ => (ρ 3, ρ 6, ρ 7, ρ 8)) ρ) KN ((fun ρ => (ρ 4, ρ 9)) ρ) h := by kernel_rfl
theorem l3 (R : AEnd → PH → Prop) : LoopsOK Try.prog qf (ordOf o3) (fun c h => R (.pan c) h) (L3 (fun c h => R (.pan c) h)) c3 :=
  LoopsOK.mk 1 (by kernel_rfl) fun i hi Q ρ h H => match i, hi with
    | 0, _ => loop_gen (F := Value × Value × Value × Value) (S := Value × Value) (X := Value) (φ := (fun ρ => (ρ 3, ρ 6, ρ 7, ρ 8))) (π := (fun ρ => (ρ 4, ρ 9))) (ξ := (fun ρ => ρ 4)) (B := (fun (XX : Exit → (Value) → PH → Prop) => b3_10 (fun c h => R (.pan c) h) (XX (.exit 0)) (XX .ret))) (B3_10 _) (of_den (by kernel_rfl) H)
    | n + 1, hi => absurd hi (by omega)
theorem e3 (a0 a1 : Value) (h : PH) (R : AEnd → PH → Prop) : denF Try.prog qf (ordOf o3) (L3 (fun c h => R (.pan c) h)) Try.f3.results.toList c3 #[a0, a1] h R = sh3 a0 a1 h R := by kernel_rfl
theorem k3 : codeOK Try.prog qf Try.f3.ntmps (ordOf o3) c3 = true := by kernel_rfl
theorem s3 : Try.f3.body = some c3 := by kernel_rfl
theorem call3 {a0 a1 : Value} {h : PH} {R : AEnd → PH → Prop} (H : sh3 a0 a1 h R) : ACalls Try.prog 3 #[a0, a1] h R :=
  ACalls_of_den mixed Try.func3 s3 (by kernel_rfl) k3 (l3 R) (of_den (e3 a0 a1 h R) H)

/- gavel/gavellaw06.LedgerBackwards -/
noncomputable def c4 : Code := bodyOf Try.f4
def o4 : List (Nat × List (Nat × List Nat)) := []
def b4_6 (Kp : List PanicEntry → PH → Prop) (x0 : (Value × Value × Value) → PH → Prop) (xr : (Value × Value × Value) → PH → Prop) (f : Value × Value × Value × Value × Value) (kn : (Value × Value × Value × Value × Value) → (Value × Value) → PH → Prop) (s : Value × Value) (h : PH) : Prop :=
  vBin Try.prog .lss 3 s.2 (.int .i64 8) fun t19 =>
  dIf t19 (vBuild [(0, 1), (1, 1), (2, 1), (3, 1), (4, 1), (5, 1)] #[.int .i64 0, .int .i64 0, .int .i64 0, .int .i64 0, .int .i64 0, .string ⟨#[]⟩] [(0, s.2), (1, f.1), (3, f.2.1), (4, f.2.2.1)] fun t27 =>
  vCall Try.prog 11 #[f.2.2.2.1, t27] h (fun t28 h_1 =>
  vBin Try.prog .eql 29 t28 (.int .i64 0) fun t29 =>
  gq (boolOf t29) true (fun K =>
  K f.2.2.2.1 h_1)
  (fun t31 h_2 =>
  gq (boolOf t29) true (fun K_1 =>
  K_1 s.2 h_2)
  (fun t32 h_3 =>
  gq (boolOf t29) true (fun K_2 =>
  vBin Try.prog .add 3 t32 (.int .i64 1) fun u =>
  K_2 u h_3)
  (fun t33 h_4 =>
  gq (boolOf t29) true (fun K_3 =>
  K_3 f.1 h_4)
  (fun t34 h_5 =>
  gq (boolOf t29) true (fun K_4 =>
  K_4 f.2.1 h_5)
  (fun t35 h_6 =>
  gq (boolOf t29) true (fun K_5 =>
  K_5 f.2.2.1 h_6)
  (fun t36 h_7 =>
  gq (boolOf t29) true (fun K_6 =>
  vBuild [(0, 1), (1, 1), (2, 1), (3, 1), (4, 1), (5, 1)] #[.int .i64 0, .int .i64 0, .int .i64 0, .int .i64 0, .int .i64 0, .string ⟨#[]⟩] [(0, t33), (1, t34), (3, t35), (4, t36)] fun u_1 =>
  K_6 u_1 h_7)
  (fun t37 h_8 =>
  gq (boolOf t29) true (fun K_7 =>
  vCall Try.prog 11 #[t31, t37] h_8 (fun u_2 h_9 =>
  K_7 u_2 h_9)
  Kp)
  (fun t38 h_10 =>
  gq (boolOf t29) true (fun K_8 =>
  vBin Try.prog .neq 29 t38 (.int .i64 0) fun u_3 =>
  K_8 u_3 h_10)
  (fun t39 h_11 =>
  vPick t29 t39 (.bool false) fun t40 =>
  dIf t40 (xr ((.bool false), f.2.2.2.1, f.2.2.2.2) h_11)
  (vBin Try.prog .add 3 s.2 (.int .i64 2) fun t21 =>
  kn f (s.1, t21) h_11)) h_10) h_8) h_7) h_6) h_5) h_4) h_3) h_2) h_1)
  Kp)
  (x0 (s.1, f.2.2.2.1, f.2.2.2.2) h)

def sh4 (a0 a1 a2 a3 : Value) (h : PH) (R : AEnd → PH → Prop) : Prop :=
  vCall Try.prog 9 #[a0] h (fun t13 h_1 =>
  vBin Try.prog .eql 25 t13 (.pointer none) fun t15 =>
  dIf t15 (R (.ret (.bool false)) h_1)
  (vCall Try.prog 10 #[t13] h_1 (fun t17 h_2 =>
  lf (b4_6 (fun c h => R (.pan c) h) (fun v h => exq (fun ρ => (ρ 8, ρ 9, ρ 10)) v (fun r h_3 =>
  vCall Try.prog 10 #[(r 9)] h_3 (fun t42 h_4 =>
  vCall Try.prog 13 #[t42, (r 10)] h_4 (fun t44 h_5 =>
  gq (boolOf t44) true (fun K =>
  vCall Try.prog 12 #[] h_5 (fun u h_6 =>
  K u h_6)
  (fun c h => R (.pan c) h))
  (fun t46 h_7 =>
  vPick t44 t46 (.bool false) fun t47 =>
  R (.ret t47) h_7) h_5)
  (fun c h => R (.pan c) h))
  (fun c h => R (.pan c) h)) h) (fun v h => exq (fun ρ => (ρ 8, ρ 9, ρ 10)) v (fun r h_8 =>
  R (.ret (r 8)) h_8) h)) (a1, a2, a3, t13, t17) ((.bool false), (.int .i64 0)) h_2)
  (fun c h => R (.pan c) h)))
  (fun c h => R (.pan c) h)
def L4 (Kp : List PanicEntry → PH → Prop) : Loops := fun c Q ρ h =>
    sel (Nat.beq (loopId c) 6) (lf (b4_6 Kp (fun v h => exq (fun ρ => (ρ 8, ρ 9, ρ 10)) v (Q (.exit 0)) h) (fun v h => exq (fun ρ => (ρ 8, ρ 9, ρ 10)) v (Q .ret) h)) ((fun ρ => (ρ 1, ρ 2, ρ 3, ρ 9, ρ 10)) ρ) ((fun ρ => (ρ 8, ρ 11)) ρ) h)
    (False)
theorem B4_6 (Kp : List PanicEntry → PH → Prop) (KN : (Value × Value × Value × Value × Value) → (Value × Value) → PH → Prop) (XX : Exit → (Value × Value × Value) → PH → Prop) (ρ : Env) (h : PH) :
    den Try.prog qf (ordOf o4) Kp (L4 Kp) (loopAt c4 0) (lq KN XX (fun ρ => (ρ 1, ρ 2, ρ 3, ρ 9, ρ 10)) (fun ρ => (ρ 8, ρ 11)) (fun ρ => (ρ 8, ρ 9, ρ 10))) ρ h = b4_6 Kp (XX (.exit 0)) (XX .ret) ((fun ρ => (ρ 1, ρ 2, ρ 3, ρ 9, ρ 10)) ρ) KN ((fun ρ => (ρ 8, ρ 11)) ρ) h := by kernel_rfl
theorem l4 (R : AEnd → PH → Prop) : LoopsOK Try.prog qf (ordOf o4) (fun c h => R (.pan c) h) (L4 (fun c h => R (.pan c) h)) c4 :=
  LoopsOK.mk 1 (by kernel_rfl) fun i hi Q ρ h H => match i, hi with
    | 0, _ => loop_gen (F := Value × Value × Value × Value × Value) (S := Value × Value) (X := Value × Value × Value) (φ := (fun ρ => (ρ 1, ρ 2, ρ 3, ρ 9, ρ 10))) (π := (fun ρ => (ρ 8, ρ 11))) (ξ := (fun ρ => (ρ 8, ρ 9, ρ 10))) (B := (fun (XX : Exit → (Value × Value × Value) → PH → Prop) => b4_6 (fun c h => R (.pan c) h) (XX (.exit 0)) (XX .ret))) (B4_6 _) (of_den (by kernel_rfl) H)
    | n + 1, hi => absurd hi (by omega)
theorem e4 (a0 a1 a2 a3 : Value) (h : PH) (R : AEnd → PH → Prop) : denF Try.prog qf (ordOf o4) (L4 (fun c h => R (.pan c) h)) Try.f4.results.toList c4 #[a0, a1, a2, a3] h R = sh4 a0 a1 a2 a3 h R := by kernel_rfl
theorem k4 : codeOK Try.prog qf Try.f4.ntmps (ordOf o4) c4 = true := by kernel_rfl
theorem s4 : Try.f4.body = some c4 := by kernel_rfl
theorem call4 {a0 a1 a2 a3 : Value} {h : PH} {R : AEnd → PH → Prop} (H : sh4 a0 a1 a2 a3 h R) : ACalls Try.prog 4 #[a0, a1, a2, a3] h R :=
  ACalls_of_den mixed Try.func4 s4 (by kernel_rfl) k4 (l4 R) (of_den (e4 a0 a1 a2 a3 h R) H)

/- gavel/gavellaw06.LedgerNobody -/
noncomputable def c5 : Code := bodyOf Try.f5
def o5 : List (Nat × List (Nat × List Nat)) := []
def sh5 (a0 : Value) (h : PH) (R : AEnd → PH → Prop) : Prop :=
  vNew (Value.cells a0) 24 h fun t1 h_1 =>
  vCall Try.prog 14 #[(.pointer none)] h_1 (fun t12 h_2 =>
  vExt t12 0 fun t13 =>
  vExt t12 1 fun t14 =>
  vNew #[.int .i64 0, .int .i64 0, .int .i64 0, .int .i64 0] 37 h_2 fun t5 h_3 =>
  vStore 4 t5 t14 h_3 fun h_4 =>
  vFA 1 t1 fun t17 =>
  vLoad none t17 h_4 fun t18 =>
  vCall Try.prog 15 #[(.pointer none), t18] h_4 (fun t19 h_5 =>
  vExt t19 0 fun t20 =>
  vExt t19 1 fun t21 =>
  vFA 1 t1 fun t24 =>
  vLoad none t24 h_5 fun t25 =>
  vCall Try.prog 16 #[(.pointer none), t25] h_5 (fun t26 h_6 =>
  vExt t26 0 fun t27 =>
  vExt t26 1 fun t28 =>
  vNew #[.int .i64 0, .int .i64 0, .int .i64 0, .int .i64 0, .int .i64 0, .int .i64 0, .int .i64 0, .int .i64 0, .int .i64 0, .int .i64 0] 43 h_6 fun t8 h_7 =>
  vStore 10 t8 t27 h_7 fun h_8 =>
  vLoad (some 6) t1 h_8 fun t30 =>
  vCall Try.prog 11 #[(.pointer none), t30] h_8 (fun t31 h_9 =>
  vBin Try.prog .eql 29 t31 (.int .i64 1) fun t32 =>
  gq (boolOf t32) true (fun K =>
  K t13 h_9)
  (fun t34 h_10 =>
  gq (boolOf t32) true (fun K_1 =>
  vBin Try.prog .eql 3 t34 (.int .i64 0) fun u =>
  K_1 u h_10)
  (fun t35 h_11 =>
  vPick t32 t35 (.bool false) fun t36 =>
  gq (boolOf t36) true (fun K_2 =>
  vLoad (some 4) t5 h_11 fun u_1 =>
  K_2 u_1 h_11)
  (fun t38 h_12 =>
  gq (boolOf t36) true (fun K_3 =>
  vBuildA 1 #[.int .i64 0, .int .i64 0, .int .i64 0, .int .i64 0] [] fun u_2 =>
  K_3 u_2 h_12)
  (fun t39 h_13 =>
  gq (boolOf t36) true (fun K_4 =>
  vBin Try.prog .eql 37 t38 t39 fun u_3 =>
  K_4 u_3 h_13)
  (fun t40 h_14 =>
  vPick t36 t40 (.bool false) fun t41 =>
  gq (boolOf t41) true (fun K_5 =>
  K_5 t20 h_14)
  (fun t43 h_15 =>
  gq (boolOf t41) true (fun K_6 =>
  vBin Try.prog .eql 3 t43 (.int .i64 0) fun u_4 =>
  K_6 u_4 h_15)
  (fun t44 h_16 =>
  vPick t41 t44 (.bool false) fun t45 =>
  gq (boolOf t45) true (fun K_7 =>
  K_7 t21 h_16)
  (fun t47 h_17 =>
  gq (boolOf t45) true (fun K_8 =>
  vBin Try.prog .eql 9 t47 (.string ⟨#[]⟩) fun u_5 =>
  K_8 u_5 h_17)
  (fun t48 h_18 =>
  vPick t45 t48 (.bool false) fun t49 =>
  gq (boolOf t49) true (fun K_9 =>
  K_9 t28 h_18)
  (fun t51 h_19 =>
  gq (boolOf t49) true (fun K_10 =>
  vUn Try.prog .not t51 fun u_6 =>
  K_10 u_6 h_19)
  (fun t52 h_20 =>
  vPick t49 t52 (.bool false) fun t53 =>
  gq (boolOf t53) true (fun K_11 =>
  K_11 (.pointer none) h_20)
  (fun t55 h_21 =>
  gq (boolOf t53) true (fun K_12 =>
  vCall Try.prog 10 #[t55] h_21 (fun u_7 h_22 =>
  K_12 u_7 h_22)
  (fun c h => R (.pan c) h))
  (fun t56 h_23 =>
  gq (boolOf t53) true (fun K_13 =>
  vLenS t56 fun u_8 =>
  K_13 u_8 h_23)
  (fun t57 h_24 =>
  gq (boolOf t53) true (fun K_14 =>
  vBin Try.prog .eql 3 t57 (.int .i64 0) fun u_9 =>
  K_14 u_9 h_24)
  (fun t58 h_25 =>
  vPick t53 t58 (.bool false) fun t59 =>
  gq (boolOf t59) true (fun K_15 =>
  vCall Try.prog 12 #[] h_25 (fun u_10 h_26 =>
  K_15 u_10 h_26)
  (fun c h => R (.pan c) h))
  (fun t61 h_27 =>
  vPick t59 t61 (.bool false) fun t62 =>
  R (.ret t62) h_27) h_25) h_24) h_23) h_21) h_20) h_19) h_18) h_17) h_16) h_15) h_14) h_13) h_12) h_11) h_10) h_9)
  (fun c h => R (.pan c) h))
  (fun c h => R (.pan c) h))
  (fun c h => R (.pan c) h))
  (fun c h => R (.pan c) h)
theorem l5 (R : AEnd → PH → Prop) : LoopsOK Try.prog qf (ordOf o5) (fun c h => R (.pan c) h) noLoops c5 := noLoops_ok (by kernel_rfl)
theorem e5 (a0 : Value) (h : PH) (R : AEnd → PH → Prop) : denF Try.prog qf (ordOf o5) noLoops Try.f5.results.toList c5 #[a0] h R = sh5 a0 h R := by kernel_rfl
theorem k5 : codeOK Try.prog qf Try.f5.ntmps (ordOf o5) c5 = true := by kernel_rfl
theorem s5 : Try.f5.body = some c5 := by kernel_rfl
theorem call5 {a0 : Value} {h : PH} {R : AEnd → PH → Prop} (H : sh5 a0 h R) : ACalls Try.prog 5 #[a0] h R :=
  ACalls_of_den mixed Try.func5 s5 (by kernel_rfl) k5 (l5 R) (of_den (e5 a0 h R) H)

/- gavel/gavellaw06.LedgerSame -/
noncomputable def c6 : Code := bodyOf Try.f6
def o6 : List (Nat × List (Nat × List Nat)) := []
def b6_10 (Kp : List PanicEntry → PH → Prop) (x0 : (Value × Value × Value) → PH → Prop) (f : Value × Value) (kn : (Value × Value) → (Value × Value) → PH → Prop) (s : Value × Value) (h : PH) : Prop :=
  vBin Try.prog .lss 3 s.2 (.int .i64 3) fun t38 =>
  dIf t38 (vCall Try.prog 16 #[f.1, s.2] h (fun t44 h_1 =>
  vExt t44 0 fun t45 =>
  vExt t44 1 fun t46 =>
  vNew #[.int .i64 0, .int .i64 0, .int .i64 0, .int .i64 0, .int .i64 0, .int .i64 0, .int .i64 0, .int .i64 0, .int .i64 0, .int .i64 0] 43 h_1 fun t9 h_2 =>
  vStore 10 t9 t45 h_2 fun h_3 =>
  vCall Try.prog 16 #[f.2, s.2] h_3 (fun t50 h_4 =>
  vExt t50 0 fun t51 =>
  vExt t50 1 fun t52 =>
  vNew #[.int .i64 0, .int .i64 0, .int .i64 0, .int .i64 0, .int .i64 0, .int .i64 0, .int .i64 0, .int .i64 0, .int .i64 0, .int .i64 0] 43 h_4 fun t11 h_5 =>
  vStore 10 t11 t51 h_5 fun h_6 =>
  vCall Try.prog 15 #[f.1, s.2] h_6 (fun t56 h_7 =>
  vExt t56 0 fun t57 =>
  vExt t56 1 fun t58 =>
  vCall Try.prog 15 #[f.2, s.2] h_7 (fun t62 h_8 =>
  vExt t62 0 fun t63 =>
  vExt t62 1 fun t64 =>
  gq (boolOf s.1) true (fun K =>
  vLoad (some 10) t9 h_8 fun u =>
  K u h_8)
  (fun t67 h_9 =>
  gq (boolOf s.1) true (fun K_1 =>
  vLoad (some 10) t11 h_9 fun u_1 =>
  K_1 u_1 h_9)
  (fun t68 h_10 =>
  gq (boolOf s.1) true (fun K_2 =>
  vBin Try.prog .eql 43 t67 t68 fun u_2 =>
  K_2 u_2 h_10)
  (fun t69 h_11 =>
  vPick s.1 t69 (.bool false) fun t70 =>
  gq (boolOf t70) true (fun K_3 =>
  K_3 t57 h_11)
  (fun t72 h_12 =>
  gq (boolOf t70) true (fun K_4 =>
  K_4 t63 h_12)
  (fun t73 h_13 =>
  gq (boolOf t70) true (fun K_5 =>
  vBin Try.prog .eql 3 t72 t73 fun u_3 =>
  K_5 u_3 h_13)
  (fun t74 h_14 =>
  vPick t70 t74 (.bool false) fun t75 =>
  gq (boolOf t75) true (fun K_6 =>
  K_6 t58 h_14)
  (fun t77 h_15 =>
  gq (boolOf t75) true (fun K_7 =>
  K_7 t64 h_15)
  (fun t78 h_16 =>
  gq (boolOf t75) true (fun K_8 =>
  vBin Try.prog .eql 9 t77 t78 fun u_4 =>
  K_8 u_4 h_16)
  (fun t79 h_17 =>
  vPick t75 t79 (.bool false) fun t80 =>
  vBin Try.prog .add 3 s.2 (.int .i64 1) fun t40 =>
  kn f (t80, t40) h_17) h_16) h_15) h_14) h_13) h_12) h_11) h_10) h_9) h_8)
  Kp)
  Kp)
  Kp)
  Kp)
  (x0 (f.1, f.2, s.1) h)

def sh6 (a0 a1 : Value) (h : PH) (R : AEnd → PH → Prop) : Prop :=
  vLenS a0 fun t18 =>
  vBin Try.prog .gtr 3 t18 (.int .i64 60) fun t19 =>
  dIf t19 (vSl 6 none (some (.int .i64 60)) a0 fun t21 =>
  vLenS a1 fun t23 =>
  vBin Try.prog .gtr 3 t23 (.int .i64 60) fun t24 =>
  dIf t24 (vSl 6 none (some (.int .i64 60)) a1 fun t26 =>
  vCall Try.prog 9 #[t21] h (fun t28 h_1 =>
  vCall Try.prog 9 #[t26] h_1 (fun t30 h_2 =>
  vBin Try.prog .eql 25 t28 (.pointer none) fun t32 =>
  gq (boolOf t32) false (fun K =>
  K t30 h_2)
  (fun t34 h_3 =>
  gq (boolOf t32) false (fun K_1 =>
  vBin Try.prog .eql 25 t34 (.pointer none) fun u =>
  K_1 u h_3)
  (fun t35 h_4 =>
  vPick t32 (.bool true) t35 fun t36 =>
  dIf t36 (R (.ret (.bool false)) h_4)
  (lf (b6_10 (fun c h => R (.pan c) h) (fun v h => exq (fun ρ => (ρ 5, ρ 6, ρ 7)) v (fun r h_5 =>
  vCall Try.prog 10 #[(r 5)] h_5 (fun t82 h_6 =>
  vCall Try.prog 10 #[(r 6)] h_6 (fun t84 h_7 =>
  vCall Try.prog 13 #[t82, t84] h_7 (fun t85 h_8 =>
  vBin Try.prog .eql 4 t85 (r 7) fun t87 =>
  gq (boolOf t87) true (fun K_2 =>
  vCall Try.prog 12 #[] h_8 (fun u_1 h_9 =>
  K_2 u_1 h_9)
  (fun c h => R (.pan c) h))
  (fun t89 h_10 =>
  vPick t87 t89 (.bool false) fun t90 =>
  R (.ret t90) h_10) h_8)
  (fun c h => R (.pan c) h))
  (fun c h => R (.pan c) h))
  (fun c h => R (.pan c) h)) h)) (t28, t30) ((.bool true), (.int .i64 0)) h_4)) h_3) h_2)
  (fun c h => R (.pan c) h))
  (fun c h => R (.pan c) h))
  (vCall Try.prog 9 #[t21] h (fun t28_1 h_11 =>
  vCall Try.prog 9 #[a1] h_11 (fun t30_1 h_12 =>
  vBin Try.prog .eql 25 t28_1 (.pointer none) fun t32_1 =>
  gq (boolOf t32_1) false (fun K_3 =>
  K_3 t30_1 h_12)
  (fun t34_1 h_13 =>
  gq (boolOf t32_1) false (fun K_4 =>
  vBin Try.prog .eql 25 t34_1 (.pointer none) fun u_2 =>
  K_4 u_2 h_13)
  (fun t35_1 h_14 =>
  vPick t32_1 (.bool true) t35_1 fun t36_1 =>
  dIf t36_1 (R (.ret (.bool false)) h_14)
  (lf (b6_10 (fun c h => R (.pan c) h) (fun v h => exq (fun ρ => (ρ 5, ρ 6, ρ 7)) v (fun r_1 h_15 =>
  vCall Try.prog 10 #[(r_1 5)] h_15 (fun t82_1 h_16 =>
  vCall Try.prog 10 #[(r_1 6)] h_16 (fun t84_1 h_17 =>
  vCall Try.prog 13 #[t82_1, t84_1] h_17 (fun t85_1 h_18 =>
  vBin Try.prog .eql 4 t85_1 (r_1 7) fun t87_1 =>
  gq (boolOf t87_1) true (fun K_5 =>
  vCall Try.prog 12 #[] h_18 (fun u_3 h_19 =>
  K_5 u_3 h_19)
  (fun c h => R (.pan c) h))
  (fun t89_1 h_20 =>
  vPick t87_1 t89_1 (.bool false) fun t90_1 =>
  R (.ret t90_1) h_20) h_18)
  (fun c h => R (.pan c) h))
  (fun c h => R (.pan c) h))
  (fun c h => R (.pan c) h)) h)) (t28_1, t30_1) ((.bool true), (.int .i64 0)) h_14)) h_13) h_12)
  (fun c h => R (.pan c) h))
  (fun c h => R (.pan c) h)))
  (vLenS a1 fun t23_1 =>
  vBin Try.prog .gtr 3 t23_1 (.int .i64 60) fun t24_1 =>
  dIf t24_1 (vSl 6 none (some (.int .i64 60)) a1 fun t26_1 =>
  vCall Try.prog 9 #[a0] h (fun t28_2 h_21 =>
  vCall Try.prog 9 #[t26_1] h_21 (fun t30_2 h_22 =>
  vBin Try.prog .eql 25 t28_2 (.pointer none) fun t32_2 =>
  gq (boolOf t32_2) false (fun K_6 =>
  K_6 t30_2 h_22)
  (fun t34_2 h_23 =>
  gq (boolOf t32_2) false (fun K_7 =>
  vBin Try.prog .eql 25 t34_2 (.pointer none) fun u_4 =>
  K_7 u_4 h_23)
  (fun t35_2 h_24 =>
  vPick t32_2 (.bool true) t35_2 fun t36_2 =>
  dIf t36_2 (R (.ret (.bool false)) h_24)
  (lf (b6_10 (fun c h => R (.pan c) h) (fun v h => exq (fun ρ => (ρ 5, ρ 6, ρ 7)) v (fun r_2 h_25 =>
  vCall Try.prog 10 #[(r_2 5)] h_25 (fun t82_2 h_26 =>
  vCall Try.prog 10 #[(r_2 6)] h_26 (fun t84_2 h_27 =>
  vCall Try.prog 13 #[t82_2, t84_2] h_27 (fun t85_2 h_28 =>
  vBin Try.prog .eql 4 t85_2 (r_2 7) fun t87_2 =>
  gq (boolOf t87_2) true (fun K_8 =>
  vCall Try.prog 12 #[] h_28 (fun u_5 h_29 =>
  K_8 u_5 h_29)
  (fun c h => R (.pan c) h))
  (fun t89_2 h_30 =>
  vPick t87_2 t89_2 (.bool false) fun t90_2 =>
  R (.ret t90_2) h_30) h_28)
  (fun c h => R (.pan c) h))
  (fun c h => R (.pan c) h))
  (fun c h => R (.pan c) h)) h)) (t28_2, t30_2) ((.bool true), (.int .i64 0)) h_24)) h_23) h_22)
  (fun c h => R (.pan c) h))
  (fun c h => R (.pan c) h))
  (vCall Try.prog 9 #[a0] h (fun t28_3 h_31 =>
  vCall Try.prog 9 #[a1] h_31 (fun t30_3 h_32 =>
  vBin Try.prog .eql 25 t28_3 (.pointer none) fun t32_3 =>
  gq (boolOf t32_3) false (fun K_9 =>
  K_9 t30_3 h_32)
  (fun t34_3 h_33 =>
  gq (boolOf t32_3) false (fun K_10 =>
  vBin Try.prog .eql 25 t34_3 (.pointer none) fun u_6 =>
  K_10 u_6 h_33)
  (fun t35_3 h_34 =>
  vPick t32_3 (.bool true) t35_3 fun t36_3 =>
  dIf t36_3 (R (.ret (.bool false)) h_34)
  (lf (b6_10 (fun c h => R (.pan c) h) (fun v h => exq (fun ρ => (ρ 5, ρ 6, ρ 7)) v (fun r_3 h_35 =>
  vCall Try.prog 10 #[(r_3 5)] h_35 (fun t82_3 h_36 =>
  vCall Try.prog 10 #[(r_3 6)] h_36 (fun t84_3 h_37 =>
  vCall Try.prog 13 #[t82_3, t84_3] h_37 (fun t85_3 h_38 =>
  vBin Try.prog .eql 4 t85_3 (r_3 7) fun t87_3 =>
  gq (boolOf t87_3) true (fun K_11 =>
  vCall Try.prog 12 #[] h_38 (fun u_7 h_39 =>
  K_11 u_7 h_39)
  (fun c h => R (.pan c) h))
  (fun t89_3 h_40 =>
  vPick t87_3 t89_3 (.bool false) fun t90_3 =>
  R (.ret t90_3) h_40) h_38)
  (fun c h => R (.pan c) h))
  (fun c h => R (.pan c) h))
  (fun c h => R (.pan c) h)) h)) (t28_3, t30_3) ((.bool true), (.int .i64 0)) h_34)) h_33) h_32)
  (fun c h => R (.pan c) h))
  (fun c h => R (.pan c) h)))
def L6 (Kp : List PanicEntry → PH → Prop) : Loops := fun c Q ρ h =>
    sel (Nat.beq (loopId c) 10) (lf (b6_10 Kp (fun v h => exq (fun ρ => (ρ 5, ρ 6, ρ 7)) v (Q (.exit 0)) h)) ((fun ρ => (ρ 5, ρ 6)) ρ) ((fun ρ => (ρ 7, ρ 8)) ρ) h)
    (False)
theorem B6_10 (Kp : List PanicEntry → PH → Prop) (KN : (Value × Value) → (Value × Value) → PH → Prop) (XX : Exit → (Value × Value × Value) → PH → Prop) (ρ : Env) (h : PH) :
    den Try.prog qf (ordOf o6) Kp (L6 Kp) (loopAt c6 0) (lq KN XX (fun ρ => (ρ 5, ρ 6)) (fun ρ => (ρ 7, ρ 8)) (fun ρ => (ρ 5, ρ 6, ρ 7))) ρ h = b6_10 Kp (XX (.exit 0)) ((fun ρ => (ρ 5, ρ 6)) ρ) KN ((fun ρ => (ρ 7, ρ 8)) ρ) h := by kernel_rfl
theorem l6 (R : AEnd → PH → Prop) : LoopsOK Try.prog qf (ordOf o6) (fun c h => R (.pan c) h) (L6 (fun c h => R (.pan c) h)) c6 :=
  LoopsOK.mk 1 (by kernel_rfl) fun i hi Q ρ h H => match i, hi with
    | 0, _ => loop_gen (F := Value × Value) (S := Value × Value) (X := Value × Value × Value) (φ := (fun ρ => (ρ 5, ρ 6))) (π := (fun ρ => (ρ 7, ρ 8))) (ξ := (fun ρ => (ρ 5, ρ 6, ρ 7))) (B := (fun (XX : Exit → (Value × Value × Value) → PH → Prop) => b6_10 (fun c h => R (.pan c) h) (XX (.exit 0)))) (B6_10 _) (of_den (by kernel_rfl) H)
    | n + 1, hi => absurd hi (by omega)
theorem e6 (a0 a1 : Value) (h : PH) (R : AEnd → PH → Prop) : denF Try.prog qf (ordOf o6) (L6 (fun c h => R (.pan c) h)) Try.f6.results.toList c6 #[a0, a1] h R = sh6 a0 a1 h R := by kernel_rfl
theorem k6 : codeOK Try.prog qf Try.f6.ntmps (ordOf o6) c6 = true := by kernel_rfl
theorem s6 : Try.f6.body = some c6 := by kernel_rfl
theorem call6 {a0 a1 : Value} {h : PH} {R : AEnd → PH → Prop} (H : sh6 a0 a1 h R) : ACalls Try.prog 6 #[a0, a1] h R :=
  ACalls_of_den mixed Try.func6 s6 (by kernel_rfl) k6 (l6 R) (of_den (e6 a0 a1 h R) H)

/- gavel/gavellaw06.LedgerReads -/
noncomputable def c7 : Code := bodyOf Try.f7
def o7 : List (Nat × List (Nat × List Nat)) := []
def sh7 (a0 a1 a2 : Value) (h : PH) (R : AEnd → PH → Prop) : Prop :=
  vCall Try.prog 17 #[a0, a1, a2] h (fun t15 h_1 =>
  vExt t15 0 fun t16 =>
  vExt t15 1 fun t17 =>
  vCall Try.prog 18 #[a0, a1, a2] h_1 (fun t22 h_2 =>
  vExt t22 0 fun t23 =>
  vExt t22 1 fun t24 =>
  vNew #[.int .i64 0, .slice none 0 0] 52 h_2 fun t9 h_3 =>
  vStore 2 t9 t23 h_3 fun h_4 =>
  vBin Try.prog .neq 29 t17 t24 fun t27 =>
  gq (boolOf t27) false (fun K =>
  K t16 h_4)
  (fun t29 h_5 =>
  gq (boolOf t27) false (fun K_1 =>
  vBin Try.prog .neq 25 t29 (.pointer none) fun u =>
  K_1 u h_5)
  (fun t30 h_6 =>
  gq (boolOf t27) false (fun K_2 =>
  K_2 t24 h_6)
  (fun t31 h_7 =>
  gq (boolOf t27) false (fun K_3 =>
  vBin Try.prog .eql 29 t31 (.int .i64 0) fun u_1 =>
  K_3 u_1 h_7)
  (fun t32 h_8 =>
  gq (boolOf t27) false (fun K_4 =>
  vBin Try.prog .neq 4 t30 t32 fun u_2 =>
  K_4 u_2 h_8)
  (fun t33 h_9 =>
  vPick t27 (.bool true) t33 fun t34 =>
  dIf t34 (R (.ret (.bool false)) h_9)
  (vBin Try.prog .eql 25 t16 (.pointer none) fun t36 =>
  dIf t36 (vCall Try.prog 12 #[] h_9 (fun t37 h_10 =>
  R (.ret t37) h_10)
  (fun c h => R (.pan c) h))
  (vLoad (some 2) t9 h_9 fun t39 =>
  vCall Try.prog 19 #[t16, t39] h_9 (fun t40 h_11 =>
  gq (boolOf t40) true (fun K_5 =>
  K_5 t16 h_11)
  (fun t42 h_12 =>
  gq (boolOf t40) true (fun K_6 =>
  vCall Try.prog 10 #[t42] h_12 (fun u_3 h_13 =>
  K_6 u_3 h_13)
  (fun c h => R (.pan c) h))
  (fun t43 h_14 =>
  gq (boolOf t40) true (fun K_7 =>
  K_7 a2 h_14)
  (fun t44 h_15 =>
  gq (boolOf t40) true (fun K_8 =>
  vCall Try.prog 13 #[t43, t44] h_15 (fun u_4 h_16 =>
  K_8 u_4 h_16)
  (fun c h => R (.pan c) h))
  (fun t45 h_17 =>
  vPick t40 t45 (.bool false) fun t46 =>
  gq (boolOf t46) true (fun K_9 =>
  vCall Try.prog 12 #[] h_17 (fun u_5 h_18 =>
  K_9 u_5 h_18)
  (fun c h => R (.pan c) h))
  (fun t48 h_19 =>
  vPick t46 t48 (.bool false) fun t49 =>
  R (.ret t49) h_19) h_17) h_15) h_14) h_12) h_11)
  (fun c h => R (.pan c) h)))) h_8) h_7) h_6) h_5) h_4)
  (fun c h => R (.pan c) h))
  (fun c h => R (.pan c) h)
theorem l7 (R : AEnd → PH → Prop) : LoopsOK Try.prog qf (ordOf o7) (fun c h => R (.pan c) h) noLoops c7 := noLoops_ok (by kernel_rfl)
theorem e7 (a0 a1 a2 : Value) (h : PH) (R : AEnd → PH → Prop) : denF Try.prog qf (ordOf o7) noLoops Try.f7.results.toList c7 #[a0, a1, a2] h R = sh7 a0 a1 a2 h R := by kernel_rfl
theorem k7 : codeOK Try.prog qf Try.f7.ntmps (ordOf o7) c7 = true := by kernel_rfl
theorem s7 : Try.f7.body = some c7 := by kernel_rfl
theorem call7 {a0 a1 a2 : Value} {h : PH} {R : AEnd → PH → Prop} (H : sh7 a0 a1 a2 h R) : ACalls Try.prog 7 #[a0, a1, a2] h R :=
  ACalls_of_den mixed Try.func7 s7 (by kernel_rfl) k7 (l7 R) (of_den (e7 a0 a1 a2 h R) H)

/- gavel/gavellaw06.LedgerRecords -/
noncomputable def c8 : Code := bodyOf Try.f8
def o8 : List (Nat × List (Nat × List Nat)) := [(8, [(0, []), (1, []), (2, []), (3, []), (4, []), (5, []), (6, []), (7, []), (8, []), (9, []), (10, []), (11, [])]), (17, [(0, []), (1, []), (3, []), (4, []), (2, [4]), (5, []), (6, []), (7, []), (8, []), (10, []), (9, []), (11, []), (12, []), (13, []), (14, []), (15, []), (16, []), (17, [])])]
def b8_6 (Kp : List PanicEntry → PH → Prop) (x0 : (Value × Value × Value) → PH → Prop) (f : Value × Value × Value × Value) (kn : (Value × Value × Value × Value) → Value → PH → Prop) (s : Value) (h : PH) : Prop :=
  vLenS f.1 fun t23 =>
  vBin Try.prog .lss 3 s t23 fun t24 =>
  gq (boolOf t24) true (fun K =>
  K s h)
  (fun t26 h_1 =>
  gq (boolOf t24) true (fun K_1 =>
  vBin Try.prog .lss 3 t26 (.int .i64 60) fun u =>
  K_1 u h_1)
  (fun t27 h_2 =>
  vPick t24 t27 (.bool false) fun t28 =>
  dIf t28 (vLoad (some 2) f.2.2.2 h_2 fun t32 =>
  vIxS 6 f.1 s fun t35 =>
  vLoad (some 6) t35 h_2 fun t36 =>
  vCall Try.prog 21 #[t32, t36] h_2 (fun t37 h_3 =>
  vExt t37 0 fun t38 =>
  vExt t37 1 fun t39 =>
  vNew #[.int .i64 0, .slice none 0 0] 52 h_3 fun t9 h_4 =>
  vStore 2 t9 t38 h_4 fun h_5 =>
  vLoad (some 2) t9 h_5 fun t40 =>
  vStore 2 f.2.2.2 t40 h_5 fun h_6 =>
  vIxS 6 f.1 s fun t44 =>
  vLoad (some 6) t44 h_6 fun t45 =>
  vCall Try.prog 11 #[f.2.2.1, t45] h_6 (fun t46 h_7 =>
  vBin Try.prog .add 3 s (.int .i64 1) fun t30 =>
  kn f t30 h_7)
  Kp)
  Kp)
  (x0 (f.2.1, f.2.2.1, f.2.2.2) h_2)) h_1) h

def sh8 (a0 a1 : Value) (h : PH) (R : AEnd → PH → Prop) : Prop :=
  vNew (Value.cells a1) 24 h fun t3 h_1 =>
  vCall Try.prog 9 #[(.slice none 0 0)] h_1 (fun t14 h_2 =>
  vCall Try.prog 20 #[(.int .i64 3), (.int .i64 2)] h_2 (fun t16 h_3 =>
  vExt t16 0 fun t17 =>
  vExt t16 1 fun t18 =>
  vNew #[.int .i64 0, .slice none 0 0] 52 h_3 fun t6 h_4 =>
  vStore 2 t6 t17 h_4 fun h_5 =>
  vBin Try.prog .eql 25 t14 (.pointer none) fun t20 =>
  dIf t20 (R (.ret (.bool false)) h_5)
  (lf (b8_6 (fun c h => R (.pan c) h) (fun v h => exq (fun ρ => (ρ 3, ρ 5, ρ 6)) v (fun r h_6 =>
  vCall Try.prog 10 #[(r 5)] h_6 (fun t48 h_7 =>
  vLoad (some 2) (r 6) h_7 fun t50 =>
  vCall Try.prog 22 #[t50] h_7 (fun t51 h_8 =>
  vCall Try.prog 13 #[t48, t51] h_8 (fun t52 h_9 =>
  vUn Try.prog .not t52 fun t53 =>
  dIf t53 (R (.ret (.bool false)) h_9)
  (vCall Try.prog 17 #[(.int .i64 3), (.int .i64 2), t48] h_9 (fun t56 h_10 =>
  vExt t56 0 fun t57 =>
  vExt t56 1 fun t58 =>
  vBin Try.prog .neq 29 t58 (.int .i64 0) fun t60 =>
  gq (boolOf t60) false (fun K =>
  K t57 h_10)
  (fun t62 h_11 =>
  gq (boolOf t60) false (fun K_1 =>
  vBin Try.prog .eql 25 t62 (.pointer none) fun u =>
  K_1 u h_11)
  (fun t63 h_12 =>
  vPick t60 (.bool true) t63 fun t64 =>
  gq (boolOf t64) false (fun K_2 =>
  K_2 t57 h_12)
  (fun t66 h_13 =>
  gq (boolOf t64) false (fun K_3 =>
  vLoad (some 2) (r 6) h_13 fun u_1 =>
  K_3 u_1 h_13)
  (fun t67 h_14 =>
  gq (boolOf t64) false (fun K_4 =>
  vCall Try.prog 19 #[t66, t67] h_14 (fun u_2 h_15 =>
  K_4 u_2 h_15)
  (fun c h => R (.pan c) h))
  (fun t68 h_16 =>
  gq (boolOf t64) false (fun K_5 =>
  vUn Try.prog .not t68 fun u_3 =>
  K_5 u_3 h_16)
  (fun t69 h_17 =>
  vPick t64 (.bool true) t69 fun t70 =>
  dIf t70 (R (.ret (.bool false)) h_17)
  (vLoad (some 6) (r 3) h_17 fun t72 =>
  vLoad (some 6) (r 3) h_17 fun t75 =>
  vCall Try.prog 11 #[(r 5), t72] h_17 (fun t73 h_18 =>
  (vLoad (some 6) (r 3) h_18 fun u_4 =>
  t75 = u_4) ∧
  vCall Try.prog 11 #[t57, t75] h_18 (fun t76 h_19 =>
  vBin Try.prog .eql 29 t73 t76 fun t77 =>
  gq (boolOf t77) true (fun K_6 =>
  K_6 (r 5) h_19)
  (fun t79 h_20 =>
  gq (boolOf t77) true (fun K_7 =>
  K_7 t57 h_20)
  (fun t81 h_21 =>
  gq (boolOf t77) true (fun K_8 =>
  vCall Try.prog 10 #[t79] h_21 (fun u_5 h_22 =>
  K_8 u_5 h_22)
  (fun c h => R (.pan c) h))
  (fun t80 h_23 =>
  gq (boolOf t77) true (fun K_9 =>
  vCall Try.prog 10 #[t81] h_23 (fun u_6 h_24 =>
  K_9 u_6 h_24)
  (fun c h => R (.pan c) h))
  (fun t82 h_25 =>
  gq (boolOf t77) true (fun K_10 =>
  vCall Try.prog 13 #[t80, t82] h_25 (fun u_7 h_26 =>
  K_10 u_7 h_26)
  (fun c h => R (.pan c) h))
  (fun t83 h_27 =>
  vPick t77 t83 (.bool false) fun t84 =>
  gq (boolOf t84) true (fun K_11 =>
  vCall Try.prog 12 #[] h_27 (fun u_8 h_28 =>
  K_11 u_8 h_28)
  (fun c h => R (.pan c) h))
  (fun t86 h_29 =>
  vPick t84 t86 (.bool false) fun t87 =>
  R (.ret t87) h_29) h_27) h_25) h_23) h_21) h_20) h_19)
  (fun c h => R (.pan c) h))
  (fun c h => R (.pan c) h))) h_16) h_14) h_13) h_12) h_11) h_10)
  (fun c h => R (.pan c) h)))
  (fun c h => R (.pan c) h))
  (fun c h => R (.pan c) h))
  (fun c h => R (.pan c) h)) h)) (a0, t3, t14, t6) (.int .i64 0) h_5))
  (fun c h => R (.pan c) h))
  (fun c h => R (.pan c) h)
def L8 (Kp : List PanicEntry → PH → Prop) : Loops := fun c Q ρ h =>
    sel (Nat.beq (loopId c) 6) (lf (b8_6 Kp (fun v h => exq (fun ρ => (ρ 3, ρ 5, ρ 6)) v (Q (.exit 0)) h)) ((fun ρ => (ρ 0, ρ 3, ρ 5, ρ 6)) ρ) ((fun ρ => ρ 8) ρ) h)
    (False)
theorem B8_6 (Kp : List PanicEntry → PH → Prop) (KN : (Value × Value × Value × Value) → (Value) → PH → Prop) (XX : Exit → (Value × Value × Value) → PH → Prop) (ρ : Env) (h : PH) :
    den Try.prog qf (ordOf o8) Kp (L8 Kp) (loopAt c8 0) (lq KN XX (fun ρ => (ρ 0, ρ 3, ρ 5, ρ 6)) (fun ρ => ρ 8) (fun ρ => (ρ 3, ρ 5, ρ 6))) ρ h = b8_6 Kp (XX (.exit 0)) ((fun ρ => (ρ 0, ρ 3, ρ 5, ρ 6)) ρ) KN ((fun ρ => ρ 8) ρ) h := by kernel_rfl
theorem l8 (R : AEnd → PH → Prop) : LoopsOK Try.prog qf (ordOf o8) (fun c h => R (.pan c) h) (L8 (fun c h => R (.pan c) h)) c8 :=
  LoopsOK.mk 1 (by kernel_rfl) fun i hi Q ρ h H => match i, hi with
    | 0, _ => loop_gen (F := Value × Value × Value × Value) (S := Value) (X := Value × Value × Value) (φ := (fun ρ => (ρ 0, ρ 3, ρ 5, ρ 6))) (π := (fun ρ => ρ 8)) (ξ := (fun ρ => (ρ 3, ρ 5, ρ 6))) (B := (fun (XX : Exit → (Value × Value × Value) → PH → Prop) => b8_6 (fun c h => R (.pan c) h) (XX (.exit 0)))) (B8_6 _) (of_den (by kernel_rfl) H)
    | n + 1, hi => absurd hi (by omega)
theorem e8 (a0 a1 : Value) (h : PH) (R : AEnd → PH → Prop) : denF Try.prog qf (ordOf o8) (L8 (fun c h => R (.pan c) h)) Try.f8.results.toList c8 #[a0, a1] h R = sh8 a0 a1 h R := by kernel_rfl
theorem k8 : codeOK Try.prog qf Try.f8.ntmps (ordOf o8) c8 = true := by kernel_rfl
theorem s8 : Try.f8.body = some c8 := by kernel_rfl
theorem call8 {a0 a1 : Value} {h : PH} {R : AEnd → PH → Prop} (H : sh8 a0 a1 h R) : ACalls Try.prog 8 #[a0, a1] h R :=
  ACalls_of_den mixed Try.func8 s8 (by kernel_rfl) k8 (l8 R) (of_den (e8 a0 a1 h R) H)

/- gavel/gavellaw06.begun -/
noncomputable def c9 : Code := bodyOf Try.f9
def o9 : List (Nat × List (Nat × List Nat)) := []
def b9_5 (Kp : List PanicEntry → PH → Prop) (x0 : Value → PH → Prop) (f : Value × Value) (kn : (Value × Value) → Value → PH → Prop) (s : Value) (h : PH) : Prop :=
  vLenS f.1 fun t14 =>
  vBin Try.prog .lss 3 s t14 fun t15 =>
  gq (boolOf t15) true (fun K =>
  K s h)
  (fun t17 h_1 =>
  gq (boolOf t15) true (fun K_1 =>
  vBin Try.prog .lss 3 t17 (.int .i64 100) fun u =>
  K_1 u h_1)
  (fun t18 h_2 =>
  vPick t15 t18 (.bool false) fun t19 =>
  dIf t19 (vIxS 6 f.1 s fun t25 =>
  vLoad (some 6) t25 h_2 fun t26 =>
  vCall Try.prog 11 #[f.2, t26] h_2 (fun t27 h_3 =>
  vBin Try.prog .add 3 s (.int .i64 1) fun t21 =>
  kn f t21 h_3)
  Kp)
  (x0 f.2 h_2)) h_1) h

def sh9 (a0 : Value) (h : PH) (R : AEnd → PH → Prop) : Prop :=
  vCall Try.prog 23 #[(.int .i64 3), (.int .i64 2)] h (fun t7 h_1 =>
  vExt t7 0 fun t8 =>
  vExt t7 1 fun t9 =>
  vBin Try.prog .eql 25 t8 (.pointer none) fun t11 =>
  dIf t11 (R (.ret (.pointer none)) h_1)
  (lf (b9_5 (fun c h => R (.pan c) h) (fun v h => exq (fun ρ => ρ 3) v (fun r h_2 =>
  R (.ret (r 3)) h_2) h)) (a0, t8) (.int .i64 0) h_1))
  (fun c h => R (.pan c) h)
def L9 (Kp : List PanicEntry → PH → Prop) : Loops := fun c Q ρ h =>
    sel (Nat.beq (loopId c) 5) (lf (b9_5 Kp (fun v h => exq (fun ρ => ρ 3) v (Q (.exit 0)) h)) ((fun ρ => (ρ 0, ρ 3)) ρ) ((fun ρ => ρ 5) ρ) h)
    (False)
theorem B9_5 (Kp : List PanicEntry → PH → Prop) (KN : (Value × Value) → (Value) → PH → Prop) (XX : Exit → (Value) → PH → Prop) (ρ : Env) (h : PH) :
    den Try.prog qf (ordOf o9) Kp (L9 Kp) (loopAt c9 0) (lq KN XX (fun ρ => (ρ 0, ρ 3)) (fun ρ => ρ 5) (fun ρ => ρ 3)) ρ h = b9_5 Kp (XX (.exit 0)) ((fun ρ => (ρ 0, ρ 3)) ρ) KN ((fun ρ => ρ 5) ρ) h := by kernel_rfl
theorem l9 (R : AEnd → PH → Prop) : LoopsOK Try.prog qf (ordOf o9) (fun c h => R (.pan c) h) (L9 (fun c h => R (.pan c) h)) c9 :=
  LoopsOK.mk 1 (by kernel_rfl) fun i hi Q ρ h H => match i, hi with
    | 0, _ => loop_gen (F := Value × Value) (S := Value) (X := Value) (φ := (fun ρ => (ρ 0, ρ 3))) (π := (fun ρ => ρ 5)) (ξ := (fun ρ => ρ 3)) (B := (fun (XX : Exit → (Value) → PH → Prop) => b9_5 (fun c h => R (.pan c) h) (XX (.exit 0)))) (B9_5 _) (of_den (by kernel_rfl) H)
    | n + 1, hi => absurd hi (by omega)
theorem e9 (a0 : Value) (h : PH) (R : AEnd → PH → Prop) : denF Try.prog qf (ordOf o9) (L9 (fun c h => R (.pan c) h)) Try.f9.results.toList c9 #[a0] h R = sh9 a0 h R := by kernel_rfl
theorem k9 : codeOK Try.prog qf Try.f9.ntmps (ordOf o9) c9 = true := by kernel_rfl
theorem s9 : Try.f9.body = some c9 := by kernel_rfl
theorem call9 {a0 : Value} {h : PH} {R : AEnd → PH → Prop} (H : sh9 a0 h R) : ACalls Try.prog 9 #[a0] h R :=
  ACalls_of_den mixed Try.func9 s9 (by kernel_rfl) k9 (l9 R) (of_den (e9 a0 h R) H)

/- (*gavel/ledger.Ledger).Records -/
noncomputable def c10 : Code := bodyOf Try.f10
def o10 : List (Nat × List (Nat × List Nat)) := [(8, [(0, []), (1, []), (2, []), (3, []), (4, []), (5, []), (6, []), (7, []), (9, []), (10, []), (11, []), (12, []), (13, []), (14, []), (15, []), (17, []), (18, []), (19, []), (20, []), (21, []), (22, []), (23, []), (26, []), (8, [14, 22]), (16, [22]), (24, []), (25, [])])]
def b10_9 (Kp : List PanicEntry → PH → Prop) (x2 : (Value × Value × Value × Value × Value × Value × Value × Value) → PH → Prop) (f : Value × Value × Value × Value × Value × Value × Value × Value × Value) (kn : (Value × Value × Value × Value × Value × Value × Value × Value × Value) → (Value × Value) → PH → Prop) (s : Value × Value) (h : PH) : Prop :=
  vBin Try.prog .lss 3 s.2 f.2.2.2.2.2.2.2.2 fun t53 =>
  dIf t53 (vIxS 1 f.2.2.2.2.2.2.2.1 s.2 fun t54 =>
  vLoad none t54 h fun t55 =>
  vCall Try.prog 24 #[t55] h (fun t58 h_1 =>
  vExt t58 0 fun t59 =>
  vExt t58 1 fun t60 =>
  vBin Try.prog .add 9 s.1 t59 fun t63 =>
  vBin Try.prog .add 3 s.2 (.int .i64 1) fun t64 =>
  kn f (t63, t64) h_1)
  Kp)
  (x2 (f.1, f.2.1, f.2.2.1, f.2.2.2.1, s.1, f.2.2.2.2.1, f.2.2.2.2.2.1, f.2.2.2.2.2.2.1) h)

def b10_5 (Kp : List PanicEntry → PH → Prop) (x0 : Value → PH → Prop) (f : Value × Value × Value) (kn : (Value × Value × Value) → (Value × Value) → PH → Prop) (s : Value × Value) (h : PH) : Prop :=
  vBin Try.prog .lss 3 s.2 f.2.2 fun t22 =>
  dIf t22 (vIxS 12 f.2.1 s.2 fun t24 =>
  vLoad (some 12) t24 h fun t25 =>
  vNew #[.int .i64 0, .int .i64 0, .int .i64 0, .int .i64 0, .int .i64 0, .int .i64 0, .int .i64 0, .int .i64 0, .int .i64 0, .int .i64 0, .int .i64 0, .string ⟨#[]⟩] 66 h fun t5 h_1 =>
  vStore 12 t5 t25 h_1 fun h_2 =>
  vFA 10 t5 fun t26 =>
  vLoad none t26 h_2 fun t27 =>
  vFA 0 t5 fun t28 =>
  vFA 0 t28 fun t29 =>
  vLoad none t29 h_2 fun t30 =>
  vFA 0 t5 fun t31 =>
  vFA 1 t31 fun t32 =>
  vLoad none t32 h_2 fun t33 =>
  vFA 0 t5 fun t35 =>
  vFA 2 t35 fun t36 =>
  vNil f.1 fun t38 =>
  vFA 0 t38 fun t39 =>
  vLoad none t39 h_2 fun t40 =>
  vSlA 4 1 none (some t40) t36 fun t41 =>
  vFA 0 t5 fun t43 =>
  vFA 6 t43 fun t44 =>
  vNil f.1 fun t46 =>
  vFA 0 t46 fun t47 =>
  vLoad none t47 h_2 fun t48 =>
  vSlA 4 1 none (some t48) t44 fun t49 =>
  (3 * 1 ≤ 2 ^ 24) ∧ vBuildS 3 1 3 #[.int .i64 0] [(0, t27), (1, t30), (2, t33)] h_2 fun t34 h_3 =>
  (vLoad none t39 h_3 fun u =>
  t40 = u) ∧
  (vLoad none t47 h_3 fun u_1 =>
  t48 = u_1) ∧
  (0 < 1) ∧ (0 < 8) ∧ (Array.size #[(.int .i64 0 : Value)] = 1) ∧ vAppend false 3 1 8 t34 t41 h_3 fun t42 h_4 =>
  (vLoad none t47 h_4 fun u_2 =>
  t48 = u_2) ∧
  (0 < 1) ∧ (0 < 8) ∧ (Array.size #[(.int .i64 0 : Value)] = 1) ∧ vAppend false 3 1 8 t42 t49 h_4 fun t50 h_5 =>
  vLenS t50 fun t51 =>
  lf (b10_9 Kp (fun v h => exq (fun ρ => (ρ 0, ρ 3, ρ 4, ρ 5, ρ 6, ρ 19, ρ 20, ρ 21)) v (fun r h_6 =>
  vFA 11 (r 5) fun t66 =>
  vLoad none t66 h_6 fun t67 =>
  vCall Try.prog 25 #[t67] h_6 (fun t68 h_7 =>
  vExt t68 0 fun t69 =>
  vExt t68 1 fun t70 =>
  vCall Try.prog 26 #[(r 4)] h_7 (fun t73 h_8 =>
  vBin Try.prog .add 9 (r 6) t69 fun t76 =>
  vBuild [(0, 1), (1, 1)] #[.string ⟨#[]⟩, .string ⟨#[]⟩] [(0, t73), (1, t76)] fun t77 =>
  (1 * 2 ≤ 2 ^ 24) ∧ vBuildS 32 2 1 #[.string ⟨#[]⟩, .string ⟨#[]⟩] [(0, t77)] h_8 fun t78 h_9 =>
  (0 < 2) ∧ (0 < 32) ∧ (Array.size #[(.string ⟨#[]⟩ : Value), (.string ⟨#[]⟩ : Value)] = 2) ∧ vAppend false 32 2 32 (r 3) t78 h_9 fun t79 h_10 =>
  vBin Try.prog .add 3 (r 21) (.int .i64 1) fun t80 =>
  kn ((r 0), (r 19), (r 20)) (t79, t80) h_10)
  Kp)
  Kp) h)) (f.1, s.1, s.2, t5, f.2.1, f.2.2, s.2, t50, t51) ((.string ⟨#[]⟩), (.int .i64 0)) h_5)
  (x0 s.1 h)

def sh10 (a0 : Value) (h : PH) (R : AEnd → PH → Prop) : Prop :=
  vBin Try.prog .eql 25 a0 (.pointer none) fun t14 =>
  dIf t14 (R (.ret (.slice none 0 0)) h)
  (vNil a0 fun t17 =>
  vFA 1 t17 fun t18 =>
  vLoad none t18 h fun t19 =>
  vLenS t19 fun t20 =>
  lf (b10_5 (fun c h => R (.pan c) h) (fun v h => exq (fun ρ => ρ 3) v (fun r h_1 =>
  R (.ret (r 3)) h_1) h)) (a0, t19, t20) ((.slice none 0 0), (.int .i64 0)) h)
def L10 (Kp : List PanicEntry → PH → Prop) : Loops := fun c Q ρ h =>
    sel (Nat.beq (loopId c) 5) (lf (b10_5 Kp (fun v h => exq (fun ρ => ρ 3) v (Q (.exit 0)) h)) ((fun ρ => (ρ 0, ρ 19, ρ 20)) ρ) ((fun ρ => (ρ 3, ρ 21)) ρ) h)
    (sel (Nat.beq (loopId c) 9) (lf (b10_9 Kp (fun v h => exq (fun ρ => (ρ 0, ρ 3, ρ 4, ρ 5, ρ 6, ρ 19, ρ 20, ρ 21)) v (Q (.exit 2)) h)) ((fun ρ => (ρ 0, ρ 3, ρ 4, ρ 5, ρ 19, ρ 20, ρ 21, ρ 50, ρ 51)) ρ) ((fun ρ => (ρ 6, ρ 52)) ρ) h)
    (False))
theorem B10_5 (Kp : List PanicEntry → PH → Prop) (KN : (Value × Value × Value) → (Value × Value) → PH → Prop) (XX : Exit → (Value) → PH → Prop) (ρ : Env) (h : PH) :
    den Try.prog qf (ordOf o10) Kp (L10 Kp) (loopAt c10 0) (lq KN XX (fun ρ => (ρ 0, ρ 19, ρ 20)) (fun ρ => (ρ 3, ρ 21)) (fun ρ => ρ 3)) ρ h = b10_5 Kp (XX (.exit 0)) ((fun ρ => (ρ 0, ρ 19, ρ 20)) ρ) KN ((fun ρ => (ρ 3, ρ 21)) ρ) h := by kernel_rfl
theorem B10_9 (Kp : List PanicEntry → PH → Prop) (KN : (Value × Value × Value × Value × Value × Value × Value × Value × Value) → (Value × Value) → PH → Prop) (XX : Exit → (Value × Value × Value × Value × Value × Value × Value × Value) → PH → Prop) (ρ : Env) (h : PH) :
    den Try.prog qf (ordOf o10) Kp (L10 Kp) (loopAt c10 1) (lq KN XX (fun ρ => (ρ 0, ρ 3, ρ 4, ρ 5, ρ 19, ρ 20, ρ 21, ρ 50, ρ 51)) (fun ρ => (ρ 6, ρ 52)) (fun ρ => (ρ 0, ρ 3, ρ 4, ρ 5, ρ 6, ρ 19, ρ 20, ρ 21))) ρ h = b10_9 Kp (XX (.exit 2)) ((fun ρ => (ρ 0, ρ 3, ρ 4, ρ 5, ρ 19, ρ 20, ρ 21, ρ 50, ρ 51)) ρ) KN ((fun ρ => (ρ 6, ρ 52)) ρ) h := by kernel_rfl
theorem l10 (R : AEnd → PH → Prop) : LoopsOK Try.prog qf (ordOf o10) (fun c h => R (.pan c) h) (L10 (fun c h => R (.pan c) h)) c10 :=
  LoopsOK.mk 2 (by kernel_rfl) fun i hi Q ρ h H => match i, hi with
    | 0, _ => loop_gen (F := Value × Value × Value) (S := Value × Value) (X := Value) (φ := (fun ρ => (ρ 0, ρ 19, ρ 20))) (π := (fun ρ => (ρ 3, ρ 21))) (ξ := (fun ρ => ρ 3)) (B := (fun (XX : Exit → (Value) → PH → Prop) => b10_5 (fun c h => R (.pan c) h) (XX (.exit 0)))) (B10_5 _) (of_den (by kernel_rfl) H)
    | 1, _ => loop_gen (F := Value × Value × Value × Value × Value × Value × Value × Value × Value) (S := Value × Value) (X := Value × Value × Value × Value × Value × Value × Value × Value) (φ := (fun ρ => (ρ 0, ρ 3, ρ 4, ρ 5, ρ 19, ρ 20, ρ 21, ρ 50, ρ 51))) (π := (fun ρ => (ρ 6, ρ 52))) (ξ := (fun ρ => (ρ 0, ρ 3, ρ 4, ρ 5, ρ 6, ρ 19, ρ 20, ρ 21))) (B := (fun (XX : Exit → (Value × Value × Value × Value × Value × Value × Value × Value) → PH → Prop) => b10_9 (fun c h => R (.pan c) h) (XX (.exit 2)))) (B10_9 _) (of_den (by kernel_rfl) H)
    | n + 2, hi => absurd hi (by omega)
theorem e10 (a0 : Value) (h : PH) (R : AEnd → PH → Prop) : denF Try.prog qf (ordOf o10) (L10 (fun c h => R (.pan c) h)) Try.f10.results.toList c10 #[a0] h R = sh10 a0 h R := by kernel_rfl
theorem k10 : codeOK Try.prog qf Try.f10.ntmps (ordOf o10) c10 = true := by kernel_rfl
theorem s10 : Try.f10.body = some c10 := by kernel_rfl
theorem call10 {a0 : Value} {h : PH} {R : AEnd → PH → Prop} (H : sh10 a0 h R) : ACalls Try.prog 10 #[a0] h R :=
  ACalls_of_den mixed Try.func10 s10 (by kernel_rfl) k10 (l10 R) (of_den (e10 a0 h R) H)

/- gavel/gavellaw06.done -/
noncomputable def c11 : Code := bodyOf Try.f11
def o11 : List (Nat × List (Nat × List Nat)) := []
def sh11 (a0 a1 : Value) (h : PH) (R : AEnd → PH → Prop) : Prop :=
  vNew (Value.cells a1) 24 h fun t3 h_1 =>
  vFA 0 t3 fun t5 =>
  vLoad none t5 h_1 fun t6 =>
  vCall Try.prog 27 #[t6, (.int .i64 11)] h_1 (fun t7 h_2 =>
  vBin Try.prog .eql 3 t7 (.int .i64 0) fun t9 =>
  dIf t9 (vFA 1 t3 fun t11 =>
  vLoad none t11 h_2 fun t12 =>
  vFA 4 t3 fun t13 =>
  vLoad none t13 h_2 fun t14 =>
  vCall Try.prog 28 #[a0, t12, t14] h_2 (fun t15 h_3 =>
  R (.ret t15) h_3)
  (fun c h => R (.pan c) h))
  (vBin Try.prog .eql 3 t7 (.int .i64 1) fun t17 =>
  dIf t17 (vFA 1 t3 fun t19 =>
  vLoad none t19 h_2 fun t20 =>
  vFA 4 t3 fun t21 =>
  vLoad none t21 h_2 fun t22 =>
  vCall Try.prog 29 #[a0, t20, t22] h_2 (fun t23 h_4 =>
  R (.ret t23) h_4)
  (fun c h => R (.pan c) h))
  (vBin Try.prog .eql 3 t7 (.int .i64 2) fun t25 =>
  dIf t25 (vFA 1 t3 fun t27 =>
  vLoad none t27 h_2 fun t28 =>
  vFA 3 t3 fun t29 =>
  vLoad none t29 h_2 fun t30 =>
  vFA 4 t3 fun t31 =>
  vLoad none t31 h_2 fun t32 =>
  vCall Try.prog 30 #[a0, t28, t30, t32] h_2 (fun t33 h_5 =>
  R (.ret t33) h_5)
  (fun c h => R (.pan c) h))
  (vBin Try.prog .eql 3 t7 (.int .i64 3) fun t35 =>
  dIf t35 (vFA 1 t3 fun t37 =>
  vLoad none t37 h_2 fun t38 =>
  vFA 3 t3 fun t39 =>
  vLoad none t39 h_2 fun t40 =>
  vFA 4 t3 fun t41 =>
  vLoad none t41 h_2 fun t42 =>
  vCall Try.prog 31 #[a0, t38, t40, t42] h_2 (fun t43 h_6 =>
  R (.ret t43) h_6)
  (fun c h => R (.pan c) h))
  (vBin Try.prog .eql 3 t7 (.int .i64 4) fun t45 =>
  dIf t45 (vFA 1 t3 fun t47 =>
  vLoad none t47 h_2 fun t48 =>
  vFA 4 t3 fun t49 =>
  vLoad none t49 h_2 fun t50 =>
  vCall Try.prog 32 #[a0, t48, t50] h_2 (fun t51 h_7 =>
  R (.ret t51) h_7)
  (fun c h => R (.pan c) h))
  (vBin Try.prog .eql 3 t7 (.int .i64 5) fun t53 =>
  dIf t53 (vFA 1 t3 fun t55 =>
  vLoad none t55 h_2 fun t56 =>
  vFA 4 t3 fun t57 =>
  vLoad none t57 h_2 fun t58 =>
  vCall Try.prog 33 #[a0, t56, t58] h_2 (fun t59 h_8 =>
  R (.ret t59) h_8)
  (fun c h => R (.pan c) h))
  (vBin Try.prog .eql 3 t7 (.int .i64 6) fun t61 =>
  dIf t61 (vFA 1 t3 fun t63 =>
  vLoad none t63 h_2 fun t64 =>
  vFA 3 t3 fun t65 =>
  vLoad none t65 h_2 fun t66 =>
  vFA 4 t3 fun t67 =>
  vLoad none t67 h_2 fun t68 =>
  vCall Try.prog 34 #[a0, t64, t66, t68] h_2 (fun t69 h_9 =>
  R (.ret t69) h_9)
  (fun c h => R (.pan c) h))
  (vBin Try.prog .eql 3 t7 (.int .i64 7) fun t71 =>
  dIf t71 (vFA 1 t3 fun t73 =>
  vLoad none t73 h_2 fun t74 =>
  vFA 3 t3 fun t75 =>
  vLoad none t75 h_2 fun t76 =>
  vFA 4 t3 fun t77 =>
  vLoad none t77 h_2 fun t78 =>
  vCall Try.prog 35 #[a0, t74, t76, t78] h_2 (fun t79 h_10 =>
  R (.ret t79) h_10)
  (fun c h => R (.pan c) h))
  (vBin Try.prog .eql 3 t7 (.int .i64 8) fun t81 =>
  dIf t81 (vFA 1 t3 fun t83 =>
  vLoad none t83 h_2 fun t84 =>
  vFA 2 t3 fun t85 =>
  vLoad none t85 h_2 fun t86 =>
  vFA 4 t3 fun t87 =>
  vLoad none t87 h_2 fun t88 =>
  vCall Try.prog 36 #[a0, t84, t86, t88] h_2 (fun t89 h_11 =>
  R (.ret t89) h_11)
  (fun c h => R (.pan c) h))
  (vBin Try.prog .eql 3 t7 (.int .i64 9) fun t91 =>
  dIf t91 (vFA 1 t3 fun t93 =>
  vLoad none t93 h_2 fun t94 =>
  vFA 2 t3 fun t95 =>
  vLoad none t95 h_2 fun t96 =>
  vFA 3 t3 fun t97 =>
  vLoad none t97 h_2 fun t98 =>
  vFA 4 t3 fun t99 =>
  vLoad none t99 h_2 fun t100 =>
  vCall Try.prog 37 #[a0, t94, t96, t98, t100] h_2 (fun t101 h_12 =>
  R (.ret t101) h_12)
  (fun c h => R (.pan c) h))
  (vFA 1 t3 fun t103 =>
  vLoad none t103 h_2 fun t104 =>
  vFA 4 t3 fun t105 =>
  vLoad none t105 h_2 fun t106 =>
  vFA 5 t3 fun t107 =>
  vLoad none t107 h_2 fun t108 =>
  vCall Try.prog 38 #[a0, t104, t106, t108] h_2 (fun t109 h_13 =>
  R (.ret t109) h_13)
  (fun c h => R (.pan c) h))))))))))))
  (fun c h => R (.pan c) h)
theorem l11 (R : AEnd → PH → Prop) : LoopsOK Try.prog qf (ordOf o11) (fun c h => R (.pan c) h) noLoops c11 := noLoops_ok (by kernel_rfl)
theorem e11 (a0 a1 : Value) (h : PH) (R : AEnd → PH → Prop) : denF Try.prog qf (ordOf o11) noLoops Try.f11.results.toList c11 #[a0, a1] h R = sh11 a0 a1 h R := by kernel_rfl
theorem k11 : codeOK Try.prog qf Try.f11.ntmps (ordOf o11) c11 = true := by kernel_rfl
theorem s11 : Try.f11.body = some c11 := by kernel_rfl
theorem call11 {a0 a1 : Value} {h : PH} {R : AEnd → PH → Prop} (H : sh11 a0 a1 h R) : ACalls Try.prog 11 #[a0, a1] h R :=
  ACalls_of_den mixed Try.func11 s11 (by kernel_rfl) k11 (l11 R) (of_den (e11 a0 a1 h R) H)

end Go.Pw

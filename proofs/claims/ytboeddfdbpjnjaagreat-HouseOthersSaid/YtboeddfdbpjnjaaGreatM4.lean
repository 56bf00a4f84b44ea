/- Texts of this claim, one behind the other. -/
import Derived.Test.YtboeddfdbpjnjaaGreatM2
import Derived.Test.YtboeddfdbpjnjaaGreatProg
import Derived.KernelRfl
/- The functions of the program, told as predicate transformers: printed by wip/tools/shprint.py; each is what the model makes of the function, by the kernel's reckoning. -/
set_option linter.unusedVariables false
set_option maxRecDepth 100000
namespace Go.Pw
open Go Go.Proofs
theorem mixed : Tryz.prog.follows .mixedOrders = true := by kernel_rfl
def qf : FuncId → Bool := memN [1000000]
end Go.Pw
/- The functions of the program, told as predicate transformers: printed by wip/tools/shprint.py; each is what the model makes of the function, by the kernel's reckoning. -/
set_option linter.unusedVariables false
set_option maxRecDepth 100000
namespace Go.Pw
open Go Go.Proofs
/- gosem.cut.init -/
/- gavel/gavellaw09.HouseOnce -/
/- gavel/gavellaw09.HouseOthers -/
noncomputable def c4 : Code := bodyOf Tryz.f4
def o4 : List (Nat × List (Nat × List Nat)) := [(8, [(0, []), (1, []), (2, []), (3, []), (4, []), (5, []), (6, [2, 4]), (7, [])]), (13, [(0, []), (1, []), (2, []), (3, []), (4, []), (5, []), (6, []), (7, []), (8, []), (9, []), (10, []), (11, []), (12, []), (13, []), (14, [])])]
def b4_11 (Kp : List PanicEntry → PH → Prop) (x0 : Value → PH → Prop) (xr : Value → PH → Prop) (f : Value × Value × Value) (kn : (Value × Value × Value) → (Value × Value) → PH → Prop) (s : Value × Value) (h : PH) : Prop :=
  vBin Tryz.prog .lss 3 s.2 (.int .i64 3) fun t42 =>
  dIf t42 (vFA 0 f.1 fun t46 =>
  vLoad none t46 h fun t47 =>
  vBin Tryz.prog .neq 3 s.2 t47 fun t48 =>
  gq (boolOf t48) true (fun K =>
  K f.2.1 h)
  (fun t50 h_1 =>
  gq (boolOf t48) true (fun K_1 =>
  K_1 s.2 h_1)
  (fun t51 h_2 =>
  gq (boolOf t48) true (fun K_2 =>
  vIxS 2 t50 t51 fun u =>
  K_2 u h_2)
  (fun t52 h_3 =>
  gq (boolOf t48) true (fun K_3 =>
  vLoad (some 2) t52 h_3 fun u_1 =>
  K_3 u_1 h_3)
  (fun t53 h_4 =>
  gq (boolOf t48) true (fun K_4 =>
  K_4 f.2.2 h_4)
  (fun t54 h_5 =>
  gq (boolOf t48) true (fun K_5 =>
  K_5 s.2 h_5)
  (fun t55 h_6 =>
  gq (boolOf t48) true (fun K_6 =>
  vIxS 2 t54 t55 fun u_2 =>
  K_6 u_2 h_6)
  (fun t56 h_7 =>
  gq (boolOf t48) true (fun K_7 =>
  vLoad (some 2) t56 h_7 fun u_3 =>
  K_7 u_3 h_7)
  (fun t57 h_8 =>
  gq (boolOf t48) true (fun K_8 =>
  vBin Tryz.prog .neq 42 t53 t57 fun u_4 =>
  K_8 u_4 h_8)
  (fun t58 h_9 =>
  vPick t48 t58 (.bool false) fun t59 =>
  dIf t59 (xr (.bool false) h_9)
  (vBin Tryz.prog .add 3 s.2 (.int .i64 1) fun t44 =>
  kn f (s.1, t44) h_9)) h_8) h_7) h_6) h_5) h_4) h_3) h_2) h_1) h)
  (x0 s.1 h)

def sh4 (a0 a1 : Value) (h : PH) (R : AEnd → PH → Prop) : Prop :=
  vNew (Value.cells a1) 27 h fun t3 h_1 =>
  vCall Tryz.prog 11 #[a0] h_1 (fun t12 h_2 =>
  vBin Tryz.prog .eql 28 t12 (.pointer none) fun t14 =>
  dIf t14 (R (.ret (.bool false)) h_2)
  (vLoad (some 10) t3 h_2 fun t16 =>
  vCall Tryz.prog 13 #[t16] h_2 (fun t17 h_3 =>
  vCall Tryz.prog 17 #[t17] h_3 (fun t18 h_4 =>
  vExt t18 0 fun t19 =>
  vExt t18 1 fun t20 =>
  vNew #[.int .i64 0, .int .i64 0, .int .i64 0, .int .i64 0, .int .i64 0, .float .f64 0] 25 h_4 fun t6 h_5 =>
  vStore 6 t6 t19 h_5 fun h_6 =>
  vBin Tryz.prog .eql 30 t20 (.int .i64 0) fun t22 =>
  gq (boolOf t22) true (fun K =>
  vFA 0 t6 fun u =>
  K u h_6)
  (fun t24 h_7 =>
  gq (boolOf t22) true (fun K_1 =>
  vLoad none t24 h_7 fun u_1 =>
  K_1 u_1 h_7)
  (fun t25 h_8 =>
  gq (boolOf t22) true (fun K_2 =>
  vBin Tryz.prog .eql 3 t25 (.int .i64 1) fun u_2 =>
  K_2 u_2 h_8)
  (fun t26 h_9 =>
  vPick t22 t26 (.bool false) fun t27 =>
  dIf t27 (vCall Tryz.prog 16 #[] h_9 (fun t28 h_10 =>
  R (.ret t28) h_10)
  (fun c h => R (.pan c) h))
  (vCall Tryz.prog 14 #[t12] h_9 (fun t30 h_11 =>
  vFA 0 t3 fun t32 =>
  vLoad none t32 h_11 fun t33 =>
  vFA 1 t3 fun t34 =>
  vLoad none t34 h_11 fun t35 =>
  vLoad (some 10) t3 h_11 fun t36 =>
  vCall Tryz.prog 13 #[t36] h_11 (fun t37 h_12 =>
  (vLoad none t32 h_12 fun u_3 =>
  t33 = u_3) ∧
  (vLoad none t34 h_12 fun u_4 =>
  t35 = u_4) ∧
  vCall Tryz.prog 12 #[t12, t33, t35, t37] h_12 (fun t38 h_13 =>
  vCall Tryz.prog 14 #[t12] h_13 (fun t40 h_14 =>
  lf (b4_11 (fun c h => R (.pan c) h) (fun v h => exq (fun ρ => ρ 4) v (fun r h_15 =>
  vCall Tryz.prog 16 #[] h_15 (fun t60 h_16 =>
  R (.ret t60) h_16)
  (fun c h => R (.pan c) h)) h) (fun v h => exq (fun ρ => ρ 4) v (fun r h_17 =>
  R (.ret (r 4)) h_17) h)) (t3, t30, t40) ((.bool false), (.int .i64 0)) h_14)
  (fun c h => R (.pan c) h))
  (fun c h => R (.pan c) h))
  (fun c h => R (.pan c) h))
  (fun c h => R (.pan c) h))) h_8) h_7) h_6)
  (fun c h => R (.pan c) h))
  (fun c h => R (.pan c) h)))
  (fun c h => R (.pan c) h)
def L4 (Kp : List PanicEntry → PH → Prop) : Loops := fun c Q ρ h =>
    sel (Nat.beq (loopId c) 11) (lf (b4_11 Kp (fun v h => exq (fun ρ => ρ 4) v (Q (.exit 0)) h) (fun v h => exq (fun ρ => ρ 4) v (Q .ret) h)) ((fun ρ => (ρ 3, ρ 8, ρ 9)) ρ) ((fun ρ => (ρ 4, ρ 10)) ρ) h)
    (False)
theorem B4_11 (Kp : List PanicEntry → PH → Prop) (KN : (Value × Value × Value) → (Value × Value) → PH → Prop) (XX : Exit → (Value) → PH → Prop) (ρ : Env) (h : PH) :
    den Tryz.prog qf (ordOf o4) Kp (L4 Kp) (loopAt c4 0) (lq KN XX (fun ρ => (ρ 3, ρ 8, ρ 9)) (fun ρ => (ρ 4, ρ 10)) (fun ρ => ρ 4)) ρ h = b4_11 Kp (XX (.exit 0)) (XX .ret) ((fun ρ => (ρ 3, ρ 8, ρ 9)) ρ) KN ((fun ρ => (ρ 4, ρ 10)) ρ) h := by kernel_rfl
theorem l4 (R : AEnd → PH → Prop) : LoopsOK Tryz.prog qf (ordOf o4) (fun c h => R (.pan c) h) (L4 (fun c h => R (.pan c) h)) c4 :=
  LoopsOK.mk 1 (by kernel_rfl) fun i hi Q ρ h H => match i, hi with
    | 0, _ => loop_gen (F := Value × Value × Value) (S := Value × Value) (X := Value) (φ := (fun ρ => (ρ 3, ρ 8, ρ 9))) (π := (fun ρ => (ρ 4, ρ 10))) (ξ := (fun ρ => ρ 4)) (B := (fun (XX : Exit → (Value) → PH → Prop) => b4_11 (fun c h => R (.pan c) h) (XX (.exit 0)) (XX .ret))) (B4_11 _) (of_den (by kernel_rfl) H)
    | n + 1, hi => absurd hi (by omega)
theorem e4 (a0 a1 : Value) (h : PH) (R : AEnd → PH → Prop) : denF Tryz.prog qf (ordOf o4) (L4 (fun c h => R (.pan c) h)) Tryz.f4.results.toList c4 #[a0, a1] h R = sh4 a0 a1 h R := by kernel_rfl
theorem k4 : codeOK Tryz.prog qf Tryz.f4.ntmps (ordOf o4) c4 = true := by kernel_rfl
theorem s4 : Tryz.f4.body = some c4 := by kernel_rfl
theorem call4 {a0 a1 : Value} {h : PH} {R : AEnd → PH → Prop} (H : sh4 a0 a1 h R) : ACalls Tryz.prog 4 #[a0, a1] h R :=
  ACalls_of_den mixed Tryz.func4 s4 (by kernel_rfl) k4 (l4 R) (of_den (e4 a0 a1 h R) H)

/- gavel/gavellaw09.HouseRefused -/
/- gavel/gavellaw09.HousePlays -/
/- gavel/gavellaw09.HouseNobody -/
/- gavel/gavellaw09.HouseBack -/
/- gavel/gavellaw09.HouseReads -/
/- gavel/gavellaw09.HouseTold -/
/- gavel/gavellaw09.begun -/
noncomputable def c11 : Code := bodyOf Tryz.f11
def o11 : List (Nat × List (Nat × List Nat)) := [(7, [(0, []), (1, []), (2, []), (3, []), (4, []), (5, []), (6, []), (7, []), (8, []), (9, []), (10, []), (11, []), (12, []), (13, []), (14, []), (15, [5, 10]), (16, [])])]
def b11_5 (Kp : List PanicEntry → PH → Prop) (x0 : Value → PH → Prop) (f : Value × Value) (kn : (Value × Value) → Value → PH → Prop) (s : Value) (h : PH) : Prop :=
  vLenS f.1 fun t14 =>
  vBin Tryz.prog .lss 3 s t14 fun t15 =>
  gq (boolOf t15) true (fun K =>
  K s h)
  (fun t17 h_1 =>
  gq (boolOf t15) true (fun K_1 =>
  vBin Tryz.prog .lss 3 t17 (.int .i64 60) fun u =>
  K_1 u h_1)
  (fun t18 h_2 =>
  vPick t15 t18 (.bool false) fun t19 =>
  dIf t19 (vIxS 10 f.1 s fun t25 =>
  vFA 0 t25 fun t26 =>
  vLoad none t26 h_2 fun t27 =>
  vIxS 10 f.1 s fun t30 =>
  vFA 1 t30 fun t31 =>
  vLoad none t31 h_2 fun t32 =>
  vIxS 10 f.1 s fun t35 =>
  vLoad (some 10) t35 h_2 fun t36 =>
  vCall Tryz.prog 13 #[t36] h_2 (fun t37 h_3 =>
  (vLoad none t26 h_3 fun u_1 =>
  t27 = u_1) ∧
  (vLoad none t31 h_3 fun u_2 =>
  t32 = u_2) ∧
  vCall Tryz.prog 12 #[f.2, t27, t32, t37] h_3 (fun t38 h_4 =>
  vBin Tryz.prog .add 3 s (.int .i64 1) fun t21 =>
  kn f t21 h_4)
  Kp)
  Kp)
  (x0 f.2 h_2)) h_1) h

def sh11 (a0 : Value) (h : PH) (R : AEnd → PH → Prop) : Prop :=
  vCall Tryz.prog 19 #[(.int .i64 3), (.int .i64 2)] h (fun t7 h_1 =>
  vExt t7 0 fun t8 =>
  vExt t7 1 fun t9 =>
  vBin Tryz.prog .eql 28 t8 (.pointer none) fun t11 =>
  dIf t11 (R (.ret (.pointer none)) h_1)
  (lf (b11_5 (fun c h => R (.pan c) h) (fun v h => exq (fun ρ => ρ 3) v (fun r h_2 =>
  R (.ret (r 3)) h_2) h)) (a0, t8) (.int .i64 0) h_1))
  (fun c h => R (.pan c) h)
def L11 (Kp : List PanicEntry → PH → Prop) : Loops := fun c Q ρ h =>
    sel (Nat.beq (loopId c) 5) (lf (b11_5 Kp (fun v h => exq (fun ρ => ρ 3) v (Q (.exit 0)) h)) ((fun ρ => (ρ 0, ρ 3)) ρ) ((fun ρ => ρ 5) ρ) h)
    (False)
theorem B11_5 (Kp : List PanicEntry → PH → Prop) (KN : (Value × Value) → (Value) → PH → Prop) (XX : Exit → (Value) → PH → Prop) (ρ : Env) (h : PH) :
    den Tryz.prog qf (ordOf o11) Kp (L11 Kp) (loopAt c11 0) (lq KN XX (fun ρ => (ρ 0, ρ 3)) (fun ρ => ρ 5) (fun ρ => ρ 3)) ρ h = b11_5 Kp (XX (.exit 0)) ((fun ρ => (ρ 0, ρ 3)) ρ) KN ((fun ρ => ρ 5) ρ) h := by kernel_rfl
theorem l11 (R : AEnd → PH → Prop) : LoopsOK Tryz.prog qf (ordOf o11) (fun c h => R (.pan c) h) (L11 (fun c h => R (.pan c) h)) c11 :=
  LoopsOK.mk 1 (by kernel_rfl) fun i hi Q ρ h H => match i, hi with
    | 0, _ => loop_gen (F := Value × Value) (S := Value) (X := Value) (φ := (fun ρ => (ρ 0, ρ 3))) (π := (fun ρ => ρ 5)) (ξ := (fun ρ => ρ 3)) (B := (fun (XX : Exit → (Value) → PH → Prop) => b11_5 (fun c h => R (.pan c) h) (XX (.exit 0)))) (B11_5 _) (of_den (by kernel_rfl) H)
    | n + 1, hi => absurd hi (by omega)
theorem e11 (a0 : Value) (h : PH) (R : AEnd → PH → Prop) : denF Tryz.prog qf (ordOf o11) (L11 (fun c h => R (.pan c) h)) Tryz.f11.results.toList c11 #[a0] h R = sh11 a0 h R := by kernel_rfl
theorem k11 : codeOK Tryz.prog qf Tryz.f11.ntmps (ordOf o11) c11 = true := by kernel_rfl
theorem s11 : Tryz.f11.body = some c11 := by kernel_rfl
theorem call11 {a0 : Value} {h : PH} {R : AEnd → PH → Prop} (H : sh11 a0 h R) : ACalls Tryz.prog 11 #[a0] h R :=
  ACalls_of_den mixed Tryz.func11 s11 (by kernel_rfl) k11 (l11 R) (of_den (e11 a0 h R) H)

/- (*gavel/house.House).Do -/
noncomputable def c12 : Code := bodyOf Tryz.f12
def o12 : List (Nat × List (Nat × List Nat)) := []
def sh12 (a0 a1 a2 a3 : Value) (h : PH) (R : AEnd → PH → Prop) : Prop :=
  vBin Tryz.prog .eql 28 a0 (.pointer none) fun t24 =>
  gq (boolOf t24) false (fun K =>
  K a0 h)
  (fun t26 h_1 =>
  gq (boolOf t24) false (fun K_1 =>
  vNil t26 fun u =>
  K_1 u h_1)
  (fun t27 h_2 =>
  gq (boolOf t24) false (fun K_2 =>
  vFA 0 t27 fun u_1 =>
  K_2 u_1 h_2)
  (fun t28 h_3 =>
  gq (boolOf t24) false (fun K_3 =>
  vLoad none t28 h_3 fun u_2 =>
  K_3 u_2 h_3)
  (fun t29 h_4 =>
  gq (boolOf t24) false (fun K_4 =>
  vBin Tryz.prog .eql 81 t29 (.pointer none) fun u_3 =>
  K_4 u_3 h_4)
  (fun t30 h_5 =>
  vPick t24 (.bool true) t30 fun t31 =>
  dIf t31 (R (.ret (.tuple #[(.string ⟨#[]⟩), (.int .i64 1)])) h_5)
  (vNil a0 fun t34 =>
  vFA 0 t34 fun t35 =>
  vLoad none t35 h_5 fun t36 =>
  vCall Tryz.prog 30 #[t36, a1] h_5 (fun t38 h_6 =>
  vExt t38 0 fun t39 =>
  vExt t38 1 fun t40 =>
  vNew #[.int .i64 0, .int .i64 0, .int .i64 0, .int .i64 0, .int .i64 0, .int .i64 0, .int .i64 0, .int .i64 0, .int .i64 0, .int .i64 0] 61 h_6 fun t10 h_7 =>
  vStore 10 t10 t39 h_7 fun h_8 =>
  vUn Tryz.prog .not t40 fun t42 =>
  dIf t42 (R (.ret (.tuple #[(.string ⟨#[]⟩), (.int .i64 60)])) h_8)
  (vNil a0 fun t45 =>
  vFA 0 t45 fun t46 =>
  vLoad none t46 h_8 fun t47 =>
  vCall Tryz.prog 31 #[t47, a1] h_8 (fun t49 h_9 =>
  vExt t49 0 fun t50 =>
  vExt t49 1 fun t51 =>
  vBin Tryz.prog .lss 3 a2 (.int .i64 1) fun t53 =>
  gq (boolOf t53) false (fun K_5 =>
  K_5 a2 h_9)
  (fun t55 h_10 =>
  gq (boolOf t53) false (fun K_6 =>
  vBin Tryz.prog .gtr 3 t55 (.int .i64 1099511627776) fun u_4 =>
  K_6 u_4 h_10)
  (fun t56 h_11 =>
  vPick t53 (.bool true) t56 fun t57 =>
  dIf t57 (R (.ret (.tuple #[(.string ⟨#[]⟩), (.int .i64 1)])) h_11)
  (vBin Tryz.prog .leq 3 a2 t50 fun t60 =>
  dIf t60 (R (.ret (.tuple #[(.string ⟨#[]⟩), (.int .i64 91)])) h_11)
  (vCall Tryz.prog 32 #[a3] h_11 (fun t63 h_12 =>
  vExt t63 0 fun t64 =>
  vExt t63 1 fun t65 =>
  vNew #[.int .i64 0, .int .i64 0, .int .i64 0, .int .i64 0, .int .i64 0, .float .f64 0] 25 h_12 fun t16 h_13 =>
  vStore 6 t16 t64 h_13 fun h_14 =>
  vBin Tryz.prog .eql 30 t65 (.int .i64 0) fun t67 =>
  dIf t67 (vFA 0 t16 fun t68 =>
  vLoad none t68 h_14 fun t69 =>
  vCall Tryz.prog 33 #[t69] h_14 (fun t70 h_15 =>
  vBin Tryz.prog .neq 87 t70 (.nilFunc) fun t72 =>
  dIf t72 (vLoad (some 6) t16 h_15 fun t77 =>
  vCallV Tryz.prog t70 #[a0, a1, t77] h_15 (fun t78 h_16 =>
  vExt t78 0 fun t79 =>
  vExt t78 1 fun t80 =>
  vCall Tryz.prog 34 #[t80] h_16 (fun t83 h_17 =>
  vExt t83 0 fun t84 =>
  vExt t83 1 fun t85 =>
  vCall Tryz.prog 34 #[t79] h_17 (fun t88 h_18 =>
  vExt t88 0 fun t89 =>
  vExt t88 1 fun t90 =>
  vNil a0 fun t92 =>
  vFA 0 t92 fun t93 =>
  vLoad none t93 h_18 fun t94 =>
  vBin Tryz.prog .add 9 t84 t89 fun t99 =>
  vCall Tryz.prog 35 #[t94, a1, a2, t99] h_18 (fun t100 h_19 =>
  vBin Tryz.prog .add 9 t84 t89 fun t103 =>
  R (.ret (.tuple #[t103, (.int .i64 0)])) h_19)
  (fun c h => R (.pan c) h))
  (fun c h => R (.pan c) h))
  (fun c h => R (.pan c) h))
  (fun c h => R (.pan c) h))
  (vCall Tryz.prog 34 #[(.int .i64 90)] h_15 (fun t83_1 h_20 =>
  vExt t83_1 0 fun t84_1 =>
  vExt t83_1 1 fun t85_1 =>
  vCall Tryz.prog 34 #[(.int .i64 0)] h_20 (fun t88_1 h_21 =>
  vExt t88_1 0 fun t89_1 =>
  vExt t88_1 1 fun t90_1 =>
  vNil a0 fun t92_1 =>
  vFA 0 t92_1 fun t93_1 =>
  vLoad none t93_1 h_21 fun t94_1 =>
  vBin Tryz.prog .add 9 t84_1 t89_1 fun t99_1 =>
  vCall Tryz.prog 35 #[t94_1, a1, a2, t99_1] h_21 (fun t100_1 h_22 =>
  vBin Tryz.prog .add 9 t84_1 t89_1 fun t103_1 =>
  R (.ret (.tuple #[t103_1, (.int .i64 0)])) h_22)
  (fun c h => R (.pan c) h))
  (fun c h => R (.pan c) h))
  (fun c h => R (.pan c) h)))
  (fun c h => R (.pan c) h))
  (vCall Tryz.prog 34 #[(.int .i64 90)] h_14 (fun t83_2 h_23 =>
  vExt t83_2 0 fun t84_2 =>
  vExt t83_2 1 fun t85_2 =>
  vCall Tryz.prog 34 #[(.int .i64 0)] h_23 (fun t88_2 h_24 =>
  vExt t88_2 0 fun t89_2 =>
  vExt t88_2 1 fun t90_2 =>
  vNil a0 fun t92_2 =>
  vFA 0 t92_2 fun t93_2 =>
  vLoad none t93_2 h_24 fun t94_2 =>
  vBin Tryz.prog .add 9 t84_2 t89_2 fun t99_2 =>
  vCall Tryz.prog 35 #[t94_2, a1, a2, t99_2] h_24 (fun t100_2 h_25 =>
  vBin Tryz.prog .add 9 t84_2 t89_2 fun t103_2 =>
  R (.ret (.tuple #[t103_2, (.int .i64 0)])) h_25)
  (fun c h => R (.pan c) h))
  (fun c h => R (.pan c) h))
  (fun c h => R (.pan c) h)))
  (fun c h => R (.pan c) h)))) h_10) h_9)
  (fun c h => R (.pan c) h)))
  (fun c h => R (.pan c) h))) h_4) h_3) h_2) h_1) h
theorem l12 (R : AEnd → PH → Prop) : LoopsOK Tryz.prog qf (ordOf o12) (fun c h => R (.pan c) h) noLoops c12 := noLoops_ok (by kernel_rfl)
theorem e12 (a0 a1 a2 a3 : Value) (h : PH) (R : AEnd → PH → Prop) : denF Tryz.prog qf (ordOf o12) noLoops Tryz.f12.results.toList c12 #[a0, a1, a2, a3] h R = sh12 a0 a1 a2 a3 h R := by kernel_rfl
theorem k12 : codeOK Tryz.prog qf Tryz.f12.ntmps (ordOf o12) c12 = true := by kernel_rfl
theorem s12 : Tryz.f12.body = some c12 := by kernel_rfl
theorem call12 {a0 a1 a2 a3 : Value} {h : PH} {R : AEnd → PH → Prop} (H : sh12 a0 a1 a2 a3 h R) : ACalls Tryz.prog 12 #[a0, a1, a2, a3] h R :=
  ACalls_of_den mixed Tryz.func12 s12 (by kernel_rfl) k12 (l12 R) (of_den (e12 a0 a1 a2 a3 h R) H)

/- gavel/gavellaw09.text -/
noncomputable def c13 : Code := bodyOf Tryz.f13
def o13 : List (Nat × List (Nat × List Nat)) := []
def sh13 (a0 : Value) (h : PH) (R : AEnd → PH → Prop) : Prop :=
  vNew (Value.cells a0) 27 h fun t1 h_1 =>
  vFA 8 t1 fun t5 =>
  vLoad none t5 h_1 fun t6 =>
  dIf t6 (vFA 9 t1 fun t7 =>
  vLoad none t7 h_1 fun t8 =>
  R (.ret t8) h_1)
  (vFA 2 t1 fun t10 =>
  vLoad (some 6) t10 h_1 fun t11 =>
  vCall Tryz.prog 36 #[t11] h_1 (fun t12 h_2 =>
  vExt t12 0 fun t13 =>
  vExt t12 1 fun t14 =>
  R (.ret t13) h_2)
  (fun c h => R (.pan c) h))
theorem l13 (R : AEnd → PH → Prop) : LoopsOK Tryz.prog qf (ordOf o13) (fun c h => R (.pan c) h) noLoops c13 := noLoops_ok (by kernel_rfl)
theorem e13 (a0 : Value) (h : PH) (R : AEnd → PH → Prop) : denF Tryz.prog qf (ordOf o13) noLoops Tryz.f13.results.toList c13 #[a0] h R = sh13 a0 h R := by kernel_rfl
theorem k13 : codeOK Tryz.prog qf Tryz.f13.ntmps (ordOf o13) c13 = true := by kernel_rfl
theorem s13 : Tryz.f13.body = some c13 := by kernel_rfl
theorem call13 {a0 : Value} {h : PH} {R : AEnd → PH → Prop} (H : sh13 a0 h R) : ACalls Tryz.prog 13 #[a0] h R :=
  ACalls_of_den mixed Tryz.func13 s13 (by kernel_rfl) k13 (l13 R) (of_den (e13 a0 h R) H)

end Go.Pw
/- The functions of the program, told as predicate transformers: printed by wip/tools/shprint.py; each is what the model makes of the function, by the kernel's reckoning. -/
set_option linter.unusedVariables false
set_option maxRecDepth 100000
namespace Go.Pw
open Go Go.Proofs
/- (*gavel/house.House).Records -/
noncomputable def c14 : Code := bodyOf Tryz.f14
def o14 : List (Nat × List (Nat × List Nat)) := [(14, [(0, []), (1, []), (3, []), (4, []), (5, []), (2, [5]), (6, []), (7, []), (8, []), (9, []), (10, []), (11, [])])]
def b14_5 (Kp : List PanicEntry → PH → Prop) (x0 : (Value × Value) → PH → Prop) (f : Value × Value × Value) (kn : (Value × Value × Value) → (Value × Value) → PH → Prop) (s : Value × Value) (h : PH) : Prop :=
  vBin Tryz.prog .lss 3 s.2 f.2.2 fun t32 =>
  dIf t32 (vIxS 1 f.2.1 s.2 fun t34 =>
  vLoad none t34 h fun t35 =>
  vCall Tryz.prog 38 #[(.string ⟨#[98, 111, 111, 107, 47]⟩), s.2] h (fun t38 h_1 =>
  vCall Tryz.prog 39 #[t35] h_1 (fun t40 h_2 =>
  vBuild [(0, 1), (1, 1)] #[.string ⟨#[]⟩, .string ⟨#[]⟩] [(0, t38), (1, t40)] fun t41 =>
  (1 * 2 ≤ 2 ^ 24) ∧ vBuildS 42 2 1 #[.string ⟨#[]⟩, .string ⟨#[]⟩] [(0, t41)] h_2 fun t42 h_3 =>
  (0 < 2) ∧ (0 < 32) ∧ (Array.size #[(.string ⟨#[]⟩ : Value), (.string ⟨#[]⟩ : Value)] = 2) ∧ vAppend false 42 2 32 s.1 t42 h_3 fun t43 h_4 =>
  vBin Tryz.prog .add 3 s.2 (.int .i64 1) fun t44 =>
  kn f (t43, t44) h_4)
  Kp)
  Kp)
  (x0 (f.1, s.1) h)

def b14_10 (Kp : List PanicEntry → PH → Prop) (x2 : (Value × Value) → PH → Prop) (f : Value × Value × Value) (kn : (Value × Value × Value) → (Value × Value) → PH → Prop) (s : Value × Value) (h : PH) : Prop :=
  vBin Tryz.prog .lss 3 s.2 f.2.2 fun t51 =>
  dIf t51 (vIxS 2 f.2.1 s.2 fun t53 =>
  vLoad (some 2) t53 h fun t54 =>
  vNew #[.pointer none, .int .i64 0] 98 h fun t7 h_1 =>
  vStore 2 t7 t54 h_1 fun h_2 =>
  vFA 0 t7 fun t55 =>
  vLoad none t55 h_2 fun t56 =>
  vBin Tryz.prog .neq 96 t56 (.pointer none) fun t57 =>
  dIf t57 (vFA 1 t7 fun t59 =>
  vLoad none t59 h_2 fun t60 =>
  vCall Tryz.prog 34 #[t60] h_2 (fun t61 h_3 =>
  vExt t61 0 fun t62 =>
  vExt t61 1 fun t63 =>
  vFA 0 t7 fun t68 =>
  vLoad none t68 h_3 fun t69 =>
  vCall Tryz.prog 38 #[(.string ⟨#[99, 108, 111, 99, 107, 47]⟩), s.2] h_3 (fun t66 h_4 =>
  (vLoad none t68 h_4 fun u =>
  t69 = u) ∧
  vCall Tryz.prog 40 #[t69] h_4 (fun t70 h_5 =>
  vBin Tryz.prog .add 9 t62 t70 fun t71 =>
  vBuild [(0, 1), (1, 1)] #[.string ⟨#[]⟩, .string ⟨#[]⟩] [(0, t66), (1, t71)] fun t72 =>
  (1 * 2 ≤ 2 ^ 24) ∧ vBuildS 42 2 1 #[.string ⟨#[]⟩, .string ⟨#[]⟩] [(0, t72)] h_5 fun t73 h_6 =>
  (0 < 2) ∧ (0 < 32) ∧ (Array.size #[(.string ⟨#[]⟩ : Value), (.string ⟨#[]⟩ : Value)] = 2) ∧ vAppend false 42 2 32 s.1 t73 h_6 fun t74 h_7 =>
  vBin Tryz.prog .add 3 s.2 (.int .i64 1) fun t75 =>
  kn f (t74, t75) h_7)
  Kp)
  Kp)
  Kp)
  (vBin Tryz.prog .add 3 s.2 (.int .i64 1) fun t75_1 =>
  kn f (s.1, t75_1) h_2))
  (x2 (f.1, s.1) h)

def sh14 (a0 : Value) (h : PH) (R : AEnd → PH → Prop) : Prop :=
  vBin Tryz.prog .eql 28 a0 (.pointer none) fun t13 =>
  gq (boolOf t13) false (fun K =>
  K a0 h)
  (fun t15 h_1 =>
  gq (boolOf t13) false (fun K_1 =>
  vNil t15 fun u =>
  K_1 u h_1)
  (fun t16 h_2 =>
  gq (boolOf t13) false (fun K_2 =>
  vFA 0 t16 fun u_1 =>
  K_2 u_1 h_2)
  (fun t17 h_3 =>
  gq (boolOf t13) false (fun K_3 =>
  vLoad none t17 h_3 fun u_2 =>
  K_3 u_2 h_3)
  (fun t18 h_4 =>
  gq (boolOf t13) false (fun K_4 =>
  vBin Tryz.prog .eql 81 t18 (.pointer none) fun u_3 =>
  K_4 u_3 h_4)
  (fun t19 h_5 =>
  vPick t13 (.bool true) t19 fun t20 =>
  dIf t20 (R (.ret (.slice none 0 0)) h_5)
  (vNil a0 fun t22 =>
  vFA 0 t22 fun t23 =>
  vLoad none t23 h_5 fun t24 =>
  vCall Tryz.prog 37 #[t24] h_5 (fun t25 h_6 =>
  vNil a0 fun t27 =>
  vFA 4 t27 fun t28 =>
  vLoad none t28 h_6 fun t29 =>
  vLenS t29 fun t30 =>
  lf (b14_5 (fun c h => R (.pan c) h) (fun v h => exq (fun ρ => (ρ 0, ρ 3)) v (fun r h_7 =>
  vNil (r 0) fun t46 =>
  vFA 5 t46 fun t47 =>
  vLoad none t47 h_7 fun t48 =>
  vLenS t48 fun t49 =>
  lf (b14_10 (fun c h => R (.pan c) h) (fun v h => exq (fun ρ => (ρ 0, ρ 3)) v (fun r_1 h_8 =>
  vNil (r_1 0) fun t78 =>
  vFA 3 t78 fun t79 =>
  vLoad none t79 h_8 fun t80 =>
  vCall Tryz.prog 34 #[t80] h_8 (fun t81 h_9 =>
  vExt t81 0 fun t82 =>
  vExt t81 1 fun t83 =>
  vBuild [(0, 1), (1, 1)] #[.string ⟨#[]⟩, .string ⟨#[]⟩] [(0, (.string ⟨#[110, 111, 119]⟩)), (1, t82)] fun t86 =>
  (1 * 2 ≤ 2 ^ 24) ∧ vBuildS 42 2 1 #[.string ⟨#[]⟩, .string ⟨#[]⟩] [(0, t86)] h_9 fun t87 h_10 =>
  (0 < 2) ∧ (0 < 32) ∧ (Array.size #[(.string ⟨#[]⟩ : Value), (.string ⟨#[]⟩ : Value)] = 2) ∧ vAppend false 42 2 32 (r_1 3) t87 h_10 fun t88 h_11 =>
  R (.ret t88) h_11)
  (fun c h => R (.pan c) h)) h)) ((r 0), t48, t49) ((r 3), (.int .i64 0)) h_7) h)) (a0, t29, t30) (t25, (.int .i64 0)) h_6)
  (fun c h => R (.pan c) h))) h_4) h_3) h_2) h_1) h
def L14 (Kp : List PanicEntry → PH → Prop) : Loops := fun c Q ρ h =>
    sel (Nat.beq (loopId c) 5) (lf (b14_5 Kp (fun v h => exq (fun ρ => (ρ 0, ρ 3)) v (Q (.exit 0)) h)) ((fun ρ => (ρ 0, ρ 29, ρ 30)) ρ) ((fun ρ => (ρ 3, ρ 31)) ρ) h)
    (sel (Nat.beq (loopId c) 10) (lf (b14_10 Kp (fun v h => exq (fun ρ => (ρ 0, ρ 3)) v (Q (.exit 2)) h)) ((fun ρ => (ρ 0, ρ 48, ρ 49)) ρ) ((fun ρ => (ρ 3, ρ 50)) ρ) h)
    (False))
theorem B14_5 (Kp : List PanicEntry → PH → Prop) (KN : (Value × Value × Value) → (Value × Value) → PH → Prop) (XX : Exit → (Value × Value) → PH → Prop) (ρ : Env) (h : PH) :
    den Tryz.prog qf (ordOf o14) Kp (L14 Kp) (loopAt c14 0) (lq KN XX (fun ρ => (ρ 0, ρ 29, ρ 30)) (fun ρ => (ρ 3, ρ 31)) (fun ρ => (ρ 0, ρ 3))) ρ h = b14_5 Kp (XX (.exit 0)) ((fun ρ => (ρ 0, ρ 29, ρ 30)) ρ) KN ((fun ρ => (ρ 3, ρ 31)) ρ) h := by kernel_rfl
theorem B14_10 (Kp : List PanicEntry → PH → Prop) (KN : (Value × Value × Value) → (Value × Value) → PH → Prop) (XX : Exit → (Value × Value) → PH → Prop) (ρ : Env) (h : PH) :
    den Tryz.prog qf (ordOf o14) Kp (L14 Kp) (loopAt c14 1) (lq KN XX (fun ρ => (ρ 0, ρ 48, ρ 49)) (fun ρ => (ρ 3, ρ 50)) (fun ρ => (ρ 0, ρ 3))) ρ h = b14_10 Kp (XX (.exit 2)) ((fun ρ => (ρ 0, ρ 48, ρ 49)) ρ) KN ((fun ρ => (ρ 3, ρ 50)) ρ) h := by kernel_rfl
theorem l14 (R : AEnd → PH → Prop) : LoopsOK Tryz.prog qf (ordOf o14) (fun c h => R (.pan c) h) (L14 (fun c h => R (.pan c) h)) c14 :=
  LoopsOK.mk 2 (by kernel_rfl) fun i hi Q ρ h H => match i, hi with
    | 0, _ => loop_gen (F := Value × Value × Value) (S := Value × Value) (X := Value × Value) (φ := (fun ρ => (ρ 0, ρ 29, ρ 30))) (π := (fun ρ => (ρ 3, ρ 31))) (ξ := (fun ρ => (ρ 0, ρ 3))) (B := (fun (XX : Exit → (Value × Value) → PH → Prop) => b14_5 (fun c h => R (.pan c) h) (XX (.exit 0)))) (B14_5 _) (of_den (by kernel_rfl) H)
    | 1, _ => loop_gen (F := Value × Value × Value) (S := Value × Value) (X := Value × Value) (φ := (fun ρ => (ρ 0, ρ 48, ρ 49))) (π := (fun ρ => (ρ 3, ρ 50))) (ξ := (fun ρ => (ρ 0, ρ 3))) (B := (fun (XX : Exit → (Value × Value) → PH → Prop) => b14_10 (fun c h => R (.pan c) h) (XX (.exit 2)))) (B14_10 _) (of_den (by kernel_rfl) H)
    | n + 2, hi => absurd hi (by omega)
theorem e14 (a0 : Value) (h : PH) (R : AEnd → PH → Prop) : denF Tryz.prog qf (ordOf o14) (L14 (fun c h => R (.pan c) h)) Tryz.f14.results.toList c14 #[a0] h R = sh14 a0 h R := by kernel_rfl
theorem k14 : codeOK Tryz.prog qf Tryz.f14.ntmps (ordOf o14) c14 = true := by kernel_rfl
theorem s14 : Tryz.f14.body = some c14 := by kernel_rfl
theorem call14 {a0 : Value} {h : PH} {R : AEnd → PH → Prop} (H : sh14 a0 h R) : ACalls Tryz.prog 14 #[a0] h R :=
  ACalls_of_den mixed Tryz.func14 s14 (by kernel_rfl) k14 (l14 R) (of_den (e14 a0 h R) H)

/- gavel/gavelref01.SameRecords -/
/- gavel/gavellaw09.awake -/
noncomputable def c16 : Code := bodyOf Tryz.f16
def o16 : List (Nat × List (Nat × List Nat)) := [(8, [(0, []), (1, []), (2, []), (3, []), (4, []), (5, []), (6, []), (7, []), (8, []), (9, []), (10, []), (11, []), (12, [5]), (13, []), (14, []), (15, []), (16, []), (17, []), (18, [])])]
def b16_6 (Kp : List PanicEntry → PH → Prop) (x0 : (Value × Value) → PH → Prop) (xr : (Value × Value) → PH → Prop) (f : Value × Value) (kn : (Value × Value) → (Value × Value) → PH → Prop) (s : Value × Value) (h : PH) : Prop :=
  vLenS f.2 fun t34 =>
  vBin Tryz.prog .lss 3 s.2 t34 fun t35 =>
  dIf t35 (vIxS 10 f.2 s.2 fun t42 =>
  vFA 0 t42 fun t43 =>
  vLoad none t43 h fun t44 =>
  vBin Tryz.prog .add 3 s.2 (.int .i64 1) fun t46 =>
  vIxS 10 f.2 s.2 fun t49 =>
  vLoad (some 10) t49 h fun t50 =>
  vCall Tryz.prog 13 #[t50] h (fun t51 h_1 =>
  (vLoad none t43 h_1 fun u =>
  t44 = u) ∧
  vCall Tryz.prog 12 #[f.1, t44, t46, t51] h_1 (fun t52 h_2 =>
  vExt t52 0 fun t53 =>
  vExt t52 1 fun t54 =>
  vBin Tryz.prog .neq 30 t54 (.int .i64 0) fun t56 =>
  gq (boolOf t56) false (fun K =>
  K t53 h_2)
  (fun t58 h_3 =>
  gq (boolOf t56) false (fun K_1 =>
  vLenStr t58 fun u_1 =>
  K_1 u_1 h_3)
  (fun t59 h_4 =>
  gq (boolOf t56) false (fun K_2 =>
  vBin Tryz.prog .neq 3 t59 (.int .i64 2) fun u_2 =>
  K_2 u_2 h_4)
  (fun t60 h_5 =>
  vPick t56 (.bool true) t60 fun t61 =>
  gq (boolOf t61) false (fun K_3 =>
  K_3 t53 h_5)
  (fun t63 h_6 =>
  gq (boolOf t61) false (fun K_4 =>
  vIxStr t63 (.int .i64 0) fun u_3 =>
  K_4 u_3 h_6)
  (fun t64 h_7 =>
  gq (boolOf t61) false (fun K_5 =>
  vBin Tryz.prog .neq 5 t64 (.int .u8 0) fun u_4 =>
  K_5 u_4 h_7)
  (fun t65 h_8 =>
  vPick t61 (.bool true) t65 fun t66 =>
  dIf t66 (xr ((.bool false), f.1) h_8)
  (vBin Tryz.prog .add 3 s.2 (.int .i64 1) fun t37 =>
  kn f (s.1, t37) h_8)) h_7) h_6) h_5) h_4) h_3) h_2)
  Kp)
  Kp)
  (x0 (s.1, f.1) h)

def sh16 (h : PH) (R : AEnd → PH → Prop) : Prop :=
  vCall Tryz.prog 19 #[(.int .i64 2), (.int .i64 1)] h (fun t12 h_1 =>
  vExt t12 0 fun t13 =>
  vExt t12 1 fun t14 =>
  vBin Tryz.prog .neq 30 t14 (.int .i64 0) fun t16 =>
  gq (boolOf t16) false (fun K =>
  K t13 h_1)
  (fun t18 h_2 =>
  gq (boolOf t16) false (fun K_1 =>
  vBin Tryz.prog .eql 28 t18 (.pointer none) fun u =>
  K_1 u h_2)
  (fun t19 h_3 =>
  vPick t16 (.bool true) t19 fun t20 =>
  dIf t20 (R (.ret (.bool false)) h_3)
  (vBuild [(0, 1), (1, 1), (2, 1), (3, 1), (4, 1), (5, 1)] #[.int .i64 0, .int .i64 0, .int .i64 0, .int .i64 0, .int .i64 0, .float .f64 0] [(0, (.int .i64 2)), (2, (.int .i64 6400))] fun t21 =>
  vBuild [(0, 1), (1, 1), (2, 6), (8, 1), (9, 1)] #[.int .i64 0, .int .i64 0, .int .i64 0, .int .i64 0, .int .i64 0, .int .i64 0, .int .i64 0, .float .f64 0, .bool false, .string ⟨#[]⟩] [(0, (.int .i64 0)), (2, t21)] fun t22 =>
  vBuild [(0, 1), (1, 1), (2, 1), (3, 1), (4, 1), (5, 1)] #[.int .i64 0, .int .i64 0, .int .i64 0, .int .i64 0, .int .i64 0, .float .f64 0] [(0, (.int .i64 4)), (2, (.int .i64 5))] fun t23 =>
  vBuild [(0, 1), (1, 1), (2, 6), (8, 1), (9, 1)] #[.int .i64 0, .int .i64 0, .int .i64 0, .int .i64 0, .int .i64 0, .int .i64 0, .int .i64 0, .float .f64 0, .bool false, .string ⟨#[]⟩] [(0, (.int .i64 1)), (2, t23)] fun t24 =>
  vBuild [(0, 1), (1, 1), (2, 1), (3, 1), (4, 1), (5, 1)] #[.int .i64 0, .int .i64 0, .int .i64 0, .int .i64 0, .int .i64 0, .float .f64 0] [(0, (.int .i64 8)), (2, (.int .i64 5)), (5, (.float .f64 4611686018427387904)), (4, (.int .i64 1))] fun t25 =>
  vBuild [(0, 1), (1, 1), (2, 6), (8, 1), (9, 1)] #[.int .i64 0, .int .i64 0, .int .i64 0, .int .i64 0, .int .i64 0, .int .i64 0, .int .i64 0, .float .f64 0, .bool false, .string ⟨#[]⟩] [(0, (.int .i64 0)), (2, t25)] fun t26 =>
  vBuild [(0, 1), (1, 1), (2, 1), (3, 1), (4, 1), (5, 1)] #[.int .i64 0, .int .i64 0, .int .i64 0, .int .i64 0, .int .i64 0, .float .f64 0] [(0, (.int .i64 8)), (2, (.int .i64 3)), (5, (.float .f64 4609434218613702656)), (3, (.int .i64 1)), (4, (.int .i64 1))] fun t27 =>
  vBuild [(0, 1), (1, 1), (2, 6), (8, 1), (9, 1)] #[.int .i64 0, .int .i64 0, .int .i64 0, .int .i64 0, .int .i64 0, .int .i64 0, .int .i64 0, .float .f64 0, .bool false, .string ⟨#[]⟩] [(0, (.int .i64 1)), (2, t27)] fun t28 =>
  vBuild [(0, 1), (1, 1), (2, 1), (3, 1), (4, 1), (5, 1)] #[.int .i64 0, .int .i64 0, .int .i64 0, .int .i64 0, .int .i64 0, .float .f64 0] [(0, (.int .i64 1))] fun t29 =>
  vBuild [(0, 1), (1, 1), (2, 6), (8, 1), (9, 1)] #[.int .i64 0, .int .i64 0, .int .i64 0, .int .i64 0, .int .i64 0, .int .i64 0, .int .i64 0, .float .f64 0, .bool false, .string ⟨#[]⟩] [(0, (.int .i64 0)), (2, t29)] fun t30 =>
  (5 * 10 ≤ 2 ^ 24) ∧ vBuildS 27 10 5 #[.int .i64 0, .int .i64 0, .int .i64 0, .int .i64 0, .int .i64 0, .int .i64 0, .int .i64 0, .float .f64 0, .bool false, .string ⟨#[]⟩] [(0, t22), (1, t24), (2, t26), (3, t28), (4, t30)] h_3 fun t31 h_4 =>
  lf (b16_6 (fun c h => R (.pan c) h) (fun v h => exq (fun ρ => (ρ 0, ρ 1)) v (fun r h_5 =>
  vCall Tryz.prog 23 #[(r 1), (.int .i64 0)] h_5 (fun t69 h_6 =>
  vExt t69 0 fun t70 =>
  vExt t69 1 fun t71 =>
  vNew #[.int .i64 0, .int .i64 0, .int .i64 0, .int .i64 0, .int .i64 0, .int .i64 0, .int .i64 0, .int .i64 0, .int .i64 0, .int .i64 0] 61 h_6 fun t7 h_7 =>
  vStore 10 t7 t70 h_7 fun h_8 =>
  vCall Tryz.prog 23 #[(r 1), (.int .i64 1)] h_8 (fun t74 h_9 =>
  vExt t74 0 fun t75 =>
  vExt t74 1 fun t76 =>
  vNew #[.int .i64 0, .int .i64 0, .int .i64 0, .int .i64 0, .int .i64 0, .int .i64 0, .int .i64 0, .int .i64 0, .int .i64 0, .int .i64 0] 61 h_9 fun t9 h_10 =>
  vStore 10 t9 t75 h_10 fun h_11 =>
  vCall Tryz.prog 26 #[(r 1)] h_11 (fun t78 h_12 =>
  vBin Tryz.prog .eql 3 t78 (.int .i64 1) fun t79 =>
  gq (boolOf t79) true (fun K_2 =>
  vFA 2 t7 fun u_1 =>
  K_2 u_1 h_12)
  (fun t81 h_13 =>
  gq (boolOf t79) true (fun K_3 =>
  vIxA 4 1 t81 (.int .i64 0) fun u_2 =>
  K_3 u_2 h_13)
  (fun t82 h_14 =>
  gq (boolOf t79) true (fun K_4 =>
  vLoad none t82 h_14 fun u_3 =>
  K_4 u_3 h_14)
  (fun t83 h_15 =>
  gq (boolOf t79) true (fun K_5 =>
  vBin Tryz.prog .eql 3 t83 (.int .i64 3) fun u_4 =>
  K_5 u_4 h_15)
  (fun t84 h_16 =>
  vPick t79 t84 (.bool false) fun t85 =>
  gq (boolOf t85) true (fun K_6 =>
  vFA 0 t7 fun u_5 =>
  K_6 u_5 h_16)
  (fun t87 h_17 =>
  gq (boolOf t85) true (fun K_7 =>
  vLoad none t87 h_17 fun u_6 =>
  K_7 u_6 h_17)
  (fun t88 h_18 =>
  gq (boolOf t85) true (fun K_8 =>
  vBin Tryz.prog .eql 3 t88 (.int .i64 6112) fun u_7 =>
  K_8 u_7 h_18)
  (fun t89 h_19 =>
  vPick t85 t89 (.bool false) fun t90 =>
  gq (boolOf t90) true (fun K_9 =>
  vFA 1 t7 fun u_8 =>
  K_9 u_8 h_19)
  (fun t92 h_20 =>
  gq (boolOf t90) true (fun K_10 =>
  vLoad none t92 h_20 fun u_9 =>
  K_10 u_9 h_20)
  (fun t93 h_21 =>
  gq (boolOf t90) true (fun K_11 =>
  vBin Tryz.prog .eql 3 t93 (.int .i64 256) fun u_10 =>
  K_11 u_10 h_21)
  (fun t94 h_22 =>
  vPick t90 t94 (.bool false) fun t95 =>
  gq (boolOf t95) true (fun K_12 =>
  vFA 0 t9 fun u_11 =>
  K_12 u_11 h_22)
  (fun t97 h_23 =>
  gq (boolOf t95) true (fun K_13 =>
  vLoad none t97 h_23 fun u_12 =>
  K_13 u_12 h_23)
  (fun t98 h_24 =>
  gq (boolOf t95) true (fun K_14 =>
  vBin Tryz.prog .eql 3 t98 (.int .i64 288) fun u_13 =>
  K_14 u_13 h_24)
  (fun t99 h_25 =>
  vPick t95 t99 (.bool false) fun t100 =>
  gq (boolOf t100) true (fun K_15 =>
  vFA 6 t9 fun u_14 =>
  K_15 u_14 h_25)
  (fun t102 h_26 =>
  gq (boolOf t100) true (fun K_16 =>
  vIxA 4 1 t102 (.int .i64 0) fun u_15 =>
  K_16 u_15 h_26)
  (fun t103 h_27 =>
  gq (boolOf t100) true (fun K_17 =>
  vLoad none t103 h_27 fun u_16 =>
  K_17 u_16 h_27)
  (fun t104 h_28 =>
  gq (boolOf t100) true (fun K_18 =>
  vBin Tryz.prog .eql 3 t104 (.int .i64 0) fun u_17 =>
  K_18 u_17 h_28)
  (fun t105 h_29 =>
  vPick t100 t105 (.bool false) fun t106 =>
  R (.ret t106) h_29) h_28) h_27) h_26) h_25) h_24) h_23) h_22) h_21) h_20) h_19) h_18) h_17) h_16) h_15) h_14) h_13) h_12)
  (fun c h => R (.pan c) h))
  (fun c h => R (.pan c) h))
  (fun c h => R (.pan c) h)) h) (fun v h => exq (fun ρ => (ρ 0, ρ 1)) v (fun r h_30 =>
  R (.ret (r 0)) h_30) h)) (t13, t31) ((.bool false), (.int .i64 0)) h_4)) h_2) h_1)
  (fun c h => R (.pan c) h)
def L16 (Kp : List PanicEntry → PH → Prop) : Loops := fun c Q ρ h =>
    sel (Nat.beq (loopId c) 6) (lf (b16_6 Kp (fun v h => exq (fun ρ => (ρ 0, ρ 1)) v (Q (.exit 0)) h) (fun v h => exq (fun ρ => (ρ 0, ρ 1)) v (Q .ret) h)) ((fun ρ => (ρ 1, ρ 3)) ρ) ((fun ρ => (ρ 0, ρ 4)) ρ) h)
    (False)
theorem B16_6 (Kp : List PanicEntry → PH → Prop) (KN : (Value × Value) → (Value × Value) → PH → Prop) (XX : Exit → (Value × Value) → PH → Prop) (ρ : Env) (h : PH) :
    den Tryz.prog qf (ordOf o16) Kp (L16 Kp) (loopAt c16 0) (lq KN XX (fun ρ => (ρ 1, ρ 3)) (fun ρ => (ρ 0, ρ 4)) (fun ρ => (ρ 0, ρ 1))) ρ h = b16_6 Kp (XX (.exit 0)) (XX .ret) ((fun ρ => (ρ 1, ρ 3)) ρ) KN ((fun ρ => (ρ 0, ρ 4)) ρ) h := by kernel_rfl
theorem l16 (R : AEnd → PH → Prop) : LoopsOK Tryz.prog qf (ordOf o16) (fun c h => R (.pan c) h) (L16 (fun c h => R (.pan c) h)) c16 :=
  LoopsOK.mk 1 (by kernel_rfl) fun i hi Q ρ h H => match i, hi with
    | 0, _ => loop_gen (F := Value × Value) (S := Value × Value) (X := Value × Value) (φ := (fun ρ => (ρ 1, ρ 3))) (π := (fun ρ => (ρ 0, ρ 4))) (ξ := (fun ρ => (ρ 0, ρ 1))) (B := (fun (XX : Exit → (Value × Value) → PH → Prop) => b16_6 (fun c h => R (.pan c) h) (XX (.exit 0)) (XX .ret))) (B16_6 _) (of_den (by kernel_rfl) H)
    | n + 1, hi => absurd hi (by omega)
theorem e16 (h : PH) (R : AEnd → PH → Prop) : denF Tryz.prog qf (ordOf o16) (L16 (fun c h => R (.pan c) h)) Tryz.f16.results.toList c16 #[] h R = sh16 h R := by kernel_rfl
theorem k16 : codeOK Tryz.prog qf Tryz.f16.ntmps (ordOf o16) c16 = true := by kernel_rfl
theorem s16 : Tryz.f16.body = some c16 := by kernel_rfl
theorem call16 {h : PH} {R : AEnd → PH → Prop} (H : sh16 h R) : ACalls Tryz.prog 16 #[] h R :=
  ACalls_of_den mixed Tryz.func16 s16 (by kernel_rfl) k16 (l16 R) (of_den (e16 h R) H)

/- gavel/gavelref01.OfOp -/
noncomputable def c17 : Code := bodyOf Tryz.f17
def o17 : List (Nat × List (Nat × List Nat)) := [(22, [(0, []), (1, []), (2, []), (3, []), (4, []), (5, []), (6, []), (7, []), (8, []), (9, []), (10, []), (11, [1, 3, 5, 7, 9]), (12, []), (13, []), (14, [])])]
def b17_6 (Kp : List PanicEntry → PH → Prop) (x0 : (Value × Value × Value × Value × Value) → PH → Prop) (xr : (Value × Value × Value × Value × Value) → PH → Prop) (f : Value × Value × Value) (kn : (Value × Value × Value) → (Value × Value × Value) → PH → Prop) (s : Value × Value × Value) (h : PH) : Prop :=
  vBin Tryz.prog .lss 3 s.2.2 (.int .i64 5) fun t17 =>
  dIf t17 (vCall Tryz.prog 41 #[f.1, s.2.1] h (fun t23 h_1 =>
  vExt t23 0 fun t24 =>
  vExt t23 1 fun t25 =>
  vExt t23 2 fun t26 =>
  vBin Tryz.prog .neq 30 t26 (.int .i64 0) fun t28 =>
  dIf t28 (vBuild [(0, 1), (1, 1), (2, 1), (3, 1), (4, 1), (5, 1)] #[.int .i64 0, .int .i64 0, .int .i64 0, .int .i64 0, .int .i64 0, .float .f64 0] [] fun t29 =>
  vStore 6 f.2.1 t29 h_1 fun h_2 =>
  xr (f.1, f.2.1, t26, f.2.2, s.2.1) h_2)
  (vIxA 5 1 f.2.2 s.2.2 fun t33 =>
  vStore 1 t33 t24 h_1 fun h_3 =>
  vBin Tryz.prog .add 3 s.2.2 (.int .i64 1) fun t19 =>
  kn f (s.1, t25, t19) h_3))
  Kp)
  (x0 (f.1, f.2.1, s.1, f.2.2, s.2.1) h)

def b17_19 (Kp : List PanicEntry → PH → Prop) (x2 : (Value × Value × Value) → PH → Prop) (f : Value × Value × Value × Value) (kn : (Value × Value × Value × Value) → (Value × Value) → PH → Prop) (s : Value × Value) (h : PH) : Prop :=
  vBin Tryz.prog .geq 3 s.2 (.int .i64 0) fun t48 =>
  dIf t48 (vBin Tryz.prog .mul 102 s.1 (.int .u64 256) fun t52 =>
  vBin Tryz.prog .add 3 f.2.2.2 s.2 fun t56 =>
  vIxStr f.1 t56 fun t57 =>
  vConvI .u64 t57 fun t58 =>
  vBin Tryz.prog .add 102 t52 t58 fun t59 =>
  vBin Tryz.prog .sub 3 s.2 (.int .i64 1) fun t50 =>
  kn f (t59, t50) h)
  (x2 (f.2.1, f.2.2.1, s.1) h)

def sh17 (a0 : Value) (h : PH) (R : AEnd → PH → Prop) : Prop :=
  vNew #[.int .i64 0, .int .i64 0, .int .i64 0, .int .i64 0, .int .i64 0, .float .f64 0] 25 h fun t2 h_1 =>
  vLenStr a0 fun t13 =>
  vBin Tryz.prog .gtr 3 t13 (.int .i64 256) fun t14 =>
  dIf t14 (vBuild [(0, 1), (1, 1), (2, 1), (3, 1), (4, 1), (5, 1)] #[.int .i64 0, .int .i64 0, .int .i64 0, .int .i64 0, .int .i64 0, .float .f64 0] [] fun t15 =>
  vStore 6 t2 t15 h_1 fun h_2 =>
  vLoad (some 6) t2 h_2 fun rv =>
  R (.ret (.tuple #[rv, (.int .i64 4)])) h_2)
  (vNew #[.int .i64 0, .int .i64 0, .int .i64 0, .int .i64 0, .int .i64 0] 99 h_1 fun t4 h_3 =>
  lf (b17_6 (fun c h => R (.pan c) h) (fun v h => exq (fun ρ => (ρ 0, ρ 2, ρ 3, ρ 4, ρ 5)) v (fun r h_4 =>
  vLenStr (r 0) fun t36 =>
  vBin Tryz.prog .sub 3 t36 (r 5) fun t38 =>
  vBin Tryz.prog .lss 3 t38 (.int .i64 8) fun t39 =>
  dIf t39 (vBuild [(0, 1), (1, 1), (2, 1), (3, 1), (4, 1), (5, 1)] #[.int .i64 0, .int .i64 0, .int .i64 0, .int .i64 0, .int .i64 0, .float .f64 0] [] fun t40 =>
  vStore 6 (r 2) t40 h_4 fun h_5 =>
  vLoad (some 6) (r 2) h_5 fun rv_1 =>
  R (.ret (.tuple #[rv_1, (.int .i64 10)])) h_5)
  (vLenStr (r 0) fun t42 =>
  vBin Tryz.prog .sub 3 t42 (r 5) fun t44 =>
  vBin Tryz.prog .gtr 3 t44 (.int .i64 8) fun t45 =>
  dIf t45 (vBuild [(0, 1), (1, 1), (2, 1), (3, 1), (4, 1), (5, 1)] #[.int .i64 0, .int .i64 0, .int .i64 0, .int .i64 0, .int .i64 0, .float .f64 0] [] fun t46 =>
  vStore 6 (r 2) t46 h_4 fun h_6 =>
  vLoad (some 6) (r 2) h_6 fun rv_2 =>
  R (.ret (.tuple #[rv_2, (.int .i64 12)])) h_6)
  (lf (b17_19 (fun c h => R (.pan c) h) (fun v h => exq (fun ρ => (ρ 2, ρ 4, ρ 10)) v (fun r_1 h_7 =>
  vIxA 5 1 (r_1 4) (.int .i64 0) fun t60 =>
  vLoad none t60 h_7 fun t61 =>
  vIxA 5 1 (r_1 4) (.int .i64 1) fun t62 =>
  vLoad none t62 h_7 fun t63 =>
  vIxA 5 1 (r_1 4) (.int .i64 2) fun t64 =>
  vLoad none t64 h_7 fun t65 =>
  vIxA 5 1 (r_1 4) (.int .i64 3) fun t66 =>
  vLoad none t66 h_7 fun t67 =>
  vIxA 5 1 (r_1 4) (.int .i64 4) fun t68 =>
  vLoad none t68 h_7 fun t69 =>
  vLib Tryz.prog 42 #[(r_1 10)] h_7 fun t71 h_8 =>
  (vLoad none t60 h_8 fun u =>
  t61 = u) ∧
  (vLoad none t62 h_8 fun u_1 =>
  t63 = u_1) ∧
  (vLoad none t64 h_8 fun u_2 =>
  t65 = u_2) ∧
  (vLoad none t66 h_8 fun u_3 =>
  t67 = u_3) ∧
  (vLoad none t68 h_8 fun u_4 =>
  t69 = u_4) ∧
  vBuild [(0, 1), (1, 1), (2, 1), (3, 1), (4, 1), (5, 1)] #[.int .i64 0, .int .i64 0, .int .i64 0, .int .i64 0, .int .i64 0, .float .f64 0] [(0, t61), (1, t63), (2, t65), (3, t67), (4, t69), (5, t71)] fun t72 =>
  vStore 6 (r_1 2) t72 h_8 fun h_9 =>
  vLoad (some 6) (r_1 2) h_9 fun rv_3 =>
  R (.ret (.tuple #[rv_3, (.int .i64 0)])) h_9) h)) ((r 0), (r 2), (r 4), (r 5)) ((.int .u64 0), (.int .i64 7)) h_4))) h) (fun v h => exq (fun ρ => (ρ 0, ρ 2, ρ 3, ρ 4, ρ 5)) v (fun r h_10 =>
  vLoad (some 6) (r 2) h_10 fun rv_4 =>
  R (.ret (.tuple #[rv_4, (r 3)])) h_10) h)) (a0, t2, t4) ((.int .i64 0), (.int .i64 0), (.int .i64 0)) h_3)
def L17 (Kp : List PanicEntry → PH → Prop) : Loops := fun c Q ρ h =>
    sel (Nat.beq (loopId c) 6) (lf (b17_6 Kp (fun v h => exq (fun ρ => (ρ 0, ρ 2, ρ 3, ρ 4, ρ 5)) v (Q (.exit 0)) h) (fun v h => exq (fun ρ => (ρ 0, ρ 2, ρ 3, ρ 4, ρ 5)) v (Q .ret) h)) ((fun ρ => (ρ 0, ρ 2, ρ 4)) ρ) ((fun ρ => (ρ 3, ρ 5, ρ 6)) ρ) h)
    (sel (Nat.beq (loopId c) 19) (lf (b17_19 Kp (fun v h => exq (fun ρ => (ρ 2, ρ 4, ρ 10)) v (Q (.exit 2)) h)) ((fun ρ => (ρ 0, ρ 2, ρ 4, ρ 5)) ρ) ((fun ρ => (ρ 10, ρ 11)) ρ) h)
    (False))
theorem B17_6 (Kp : List PanicEntry → PH → Prop) (KN : (Value × Value × Value) → (Value × Value × Value) → PH → Prop) (XX : Exit → (Value × Value × Value × Value × Value) → PH → Prop) (ρ : Env) (h : PH) :
    den Tryz.prog qf (ordOf o17) Kp (L17 Kp) (loopAt c17 0) (lq KN XX (fun ρ => (ρ 0, ρ 2, ρ 4)) (fun ρ => (ρ 3, ρ 5, ρ 6)) (fun ρ => (ρ 0, ρ 2, ρ 3, ρ 4, ρ 5))) ρ h = b17_6 Kp (XX (.exit 0)) (XX .ret) ((fun ρ => (ρ 0, ρ 2, ρ 4)) ρ) KN ((fun ρ => (ρ 3, ρ 5, ρ 6)) ρ) h := by kernel_rfl
theorem B17_19 (Kp : List PanicEntry → PH → Prop) (KN : (Value × Value × Value × Value) → (Value × Value) → PH → Prop) (XX : Exit → (Value × Value × Value) → PH → Prop) (ρ : Env) (h : PH) :
    den Tryz.prog qf (ordOf o17) Kp (L17 Kp) (loopAt c17 1) (lq KN XX (fun ρ => (ρ 0, ρ 2, ρ 4, ρ 5)) (fun ρ => (ρ 10, ρ 11)) (fun ρ => (ρ 2, ρ 4, ρ 10))) ρ h = b17_19 Kp (XX (.exit 2)) ((fun ρ => (ρ 0, ρ 2, ρ 4, ρ 5)) ρ) KN ((fun ρ => (ρ 10, ρ 11)) ρ) h := by kernel_rfl
theorem l17 (R : AEnd → PH → Prop) : LoopsOK Tryz.prog qf (ordOf o17) (fun c h => R (.pan c) h) (L17 (fun c h => R (.pan c) h)) c17 :=
  LoopsOK.mk 2 (by kernel_rfl) fun i hi Q ρ h H => match i, hi with
    | 0, _ => loop_gen (F := Value × Value × Value) (S := Value × Value × Value) (X := Value × Value × Value × Value × Value) (φ := (fun ρ => (ρ 0, ρ 2, ρ 4))) (π := (fun ρ => (ρ 3, ρ 5, ρ 6))) (ξ := (fun ρ => (ρ 0, ρ 2, ρ 3, ρ 4, ρ 5))) (B := (fun (XX : Exit → (Value × Value × Value × Value × Value) → PH → Prop) => b17_6 (fun c h => R (.pan c) h) (XX (.exit 0)) (XX .ret))) (B17_6 _) (of_den (by kernel_rfl) H)
    | 1, _ => loop_gen (F := Value × Value × Value × Value) (S := Value × Value) (X := Value × Value × Value) (φ := (fun ρ => (ρ 0, ρ 2, ρ 4, ρ 5))) (π := (fun ρ => (ρ 10, ρ 11))) (ξ := (fun ρ => (ρ 2, ρ 4, ρ 10))) (B := (fun (XX : Exit → (Value × Value × Value) → PH → Prop) => b17_19 (fun c h => R (.pan c) h) (XX (.exit 2)))) (B17_19 _) (of_den (by kernel_rfl) H)
    | n + 2, hi => absurd hi (by omega)
theorem e17 (a0 : Value) (h : PH) (R : AEnd → PH → Prop) : denF Tryz.prog qf (ordOf o17) (L17 (fun c h => R (.pan c) h)) Tryz.f17.results.toList c17 #[a0] h R = sh17 a0 h R := by kernel_rfl
theorem k17 : codeOK Tryz.prog qf Tryz.f17.ntmps (ordOf o17) c17 = true := by kernel_rfl
theorem s17 : Tryz.f17.body = some c17 := by kernel_rfl
theorem call17 {a0 : Value} {h : PH} {R : AEnd → PH → Prop} (H : sh17 a0 h R) : ACalls Tryz.prog 17 #[a0] h R :=
  ACalls_of_den mixed Tryz.func17 s17 (by kernel_rfl) k17 (l17 R) (of_den (e17 a0 h R) H)

/- (*gavel/house.House).Last -/
/- gavel/house.New -/
noncomputable def c19 : Code := bodyOf Tryz.f19
def o19 : List (Nat × List (Nat × List Nat)) := [(7, [(0, []), (1, []), (2, []), (3, []), (4, []), (5, [4]), (6, []), (7, []), (8, []), (9, []), (10, [])])]
def b19_6 (Kp : List PanicEntry → PH → Prop) (x0 : Value → PH → Prop) (f : Value × Value) (kn : (Value × Value) → Value → PH → Prop) (s : Value) (h : PH) : Prop :=
  vBin Tryz.prog .lss 3 s f.2 fun t27 =>
  dIf t27 (vNil f.1 fun t30 =>
  vFA 4 t30 fun t31 =>
  vLoad none t31 h fun t32 =>
  vCall Tryz.prog 44 #[] h (fun t33 h_1 =>
  (vLoad none t31 h_1 fun u =>
  t32 = u) ∧
  (1 * 1 ≤ 2 ^ 24) ∧ vBuildS 93 1 1 #[.pointer none] [(0, t33)] h_1 fun t34 h_2 =>
  (0 < 1) ∧ (0 < 8) ∧ (Array.size #[(.pointer none : Value)] = 1) ∧ vAppend false 93 1 8 t32 t34 h_2 fun t35 h_3 =>
  vNil f.1 fun t36 =>
  vFA 4 t36 fun t37 =>
  vStore 1 t37 t35 h_3 fun h_4 =>
  vBin Tryz.prog .add 3 s (.int .i64 1) fun t38 =>
  kn f t38 h_4)
  Kp)
  (x0 f.1 h)

def sh19 (a0 a1 : Value) (h : PH) (R : AEnd → PH → Prop) : Prop :=
  vCall Tryz.prog 43 #[a0, a1] h (fun t12 h_1 =>
  vExt t12 0 fun t13 =>
  vExt t12 1 fun t14 =>
  vBin Tryz.prog .neq 30 t14 (.int .i64 0) fun t16 =>
  dIf t16 (R (.ret (.tuple #[(.pointer none), t14])) h_1)
  (vMakeS 98 2 16 #[.pointer none, .int .i64 0] a1 a1 h_1 fun t22 h_2 =>
  vBuild [(0, 1), (1, 1), (2, 1), (3, 1), (4, 1), (5, 1)] #[.pointer none, .int .i64 0, .int .i64 0, .int .i64 0, .slice none 0 0, .slice none 0 0] [(0, t13), (1, a0), (2, a1), (5, t22)] fun t23 =>
  vNew (Value.cells t23) 85 h_2 fun t24 h_3 =>
  lf (b19_6 (fun c h => R (.pan c) h) (fun v h => exq (fun ρ => ρ 8) v (fun r h_4 =>
  R (.ret (.tuple #[(r 8), (.int .i64 0)])) h_4) h)) (t24, a1) (.int .i64 0) h_3))
  (fun c h => R (.pan c) h)
def L19 (Kp : List PanicEntry → PH → Prop) : Loops := fun c Q ρ h =>
    sel (Nat.beq (loopId c) 6) (lf (b19_6 Kp (fun v h => exq (fun ρ => ρ 8) v (Q (.exit 0)) h)) ((fun ρ => (ρ 8, ρ 25)) ρ) ((fun ρ => ρ 26) ρ) h)
    (False)
theorem B19_6 (Kp : List PanicEntry → PH → Prop) (KN : (Value × Value) → (Value) → PH → Prop) (XX : Exit → (Value) → PH → Prop) (ρ : Env) (h : PH) :
    den Tryz.prog qf (ordOf o19) Kp (L19 Kp) (loopAt c19 0) (lq KN XX (fun ρ => (ρ 8, ρ 25)) (fun ρ => ρ 26) (fun ρ => ρ 8)) ρ h = b19_6 Kp (XX (.exit 0)) ((fun ρ => (ρ 8, ρ 25)) ρ) KN ((fun ρ => ρ 26) ρ) h := by kernel_rfl
theorem l19 (R : AEnd → PH → Prop) : LoopsOK Tryz.prog qf (ordOf o19) (fun c h => R (.pan c) h) (L19 (fun c h => R (.pan c) h)) c19 :=
  LoopsOK.mk 1 (by kernel_rfl) fun i hi Q ρ h H => match i, hi with
    | 0, _ => loop_gen (F := Value × Value) (S := Value) (X := Value) (φ := (fun ρ => (ρ 8, ρ 25))) (π := (fun ρ => ρ 26)) (ξ := (fun ρ => ρ 8)) (B := (fun (XX : Exit → (Value) → PH → Prop) => b19_6 (fun c h => R (.pan c) h) (XX (.exit 0)))) (B19_6 _) (of_den (by kernel_rfl) H)
    | n + 1, hi => absurd hi (by omega)
theorem e19 (a0 a1 : Value) (h : PH) (R : AEnd → PH → Prop) : denF Tryz.prog qf (ordOf o19) (L19 (fun c h => R (.pan c) h)) Tryz.f19.results.toList c19 #[a0, a1] h R = sh19 a0 a1 h R := by kernel_rfl
theorem k19 : codeOK Tryz.prog qf Tryz.f19.ntmps (ordOf o19) c19 = true := by kernel_rfl
theorem s19 : Tryz.f19.body = some c19 := by kernel_rfl
theorem call19 {a0 a1 : Value} {h : PH} {R : AEnd → PH → Prop} (H : sh19 a0 a1 h R) : ACalls Tryz.prog 19 #[a0, a1] h R :=
  ACalls_of_den mixed Tryz.func19 s19 (by kernel_rfl) k19 (l19 R) (of_den (e19 a0 a1 h R) H)

/- gavel/gavelref09.New -/
/- gavel/gavelref09.Do -/
/- gavel/gavellaw09.like -/
/- (*gavel/house.House).Account -/
noncomputable def c23 : Code := bodyOf Tryz.f23
def o23 : List (Nat × List (Nat × List Nat)) := []
def sh23 (a0 a1 : Value) (h : PH) (R : AEnd → PH → Prop) : Prop :=
  vNew #[.int .i64 0, .int .i64 0, .int .i64 0, .int .i64 0, .int .i64 0, .int .i64 0, .int .i64 0, .int .i64 0, .int .i64 0, .int .i64 0] 61 h fun t4 h_1 =>
  vBin Tryz.prog .eql 28 a0 (.pointer none) fun t7 =>
  dIf t7 (vBuild [(0, 1), (1, 1), (2, 4), (6, 4)] #[.int .i64 0, .int .i64 0, .int .i64 0, .int .i64 0, .int .i64 0, .int .i64 0, .int .i64 0, .int .i64 0, .int .i64 0, .int .i64 0] [] fun t8 =>
  vStore 10 t4 t8 h_1 fun h_2 =>
  vLoad (some 10) t4 h_2 fun rv =>
  R (.ret (.tuple #[rv, (.bool false)])) h_2)
  (vNil a0 fun t10 =>
  vFA 0 t10 fun t11 =>
  vLoad none t11 h_1 fun t12 =>
  vCall Tryz.prog 30 #[t12, a1] h_1 (fun t14 h_3 =>
  vExt t14 0 fun t15 =>
  vExt t14 1 fun t16 =>
  vStore 10 t4 t15 h_3 fun h_4 =>
  vLoad (some 10) t4 h_4 fun rv_1 =>
  R (.ret (.tuple #[rv_1, t16])) h_4)
  (fun c h => R (.pan c) h))
theorem l23 (R : AEnd → PH → Prop) : LoopsOK Tryz.prog qf (ordOf o23) (fun c h => R (.pan c) h) noLoops c23 := noLoops_ok (by kernel_rfl)
theorem e23 (a0 a1 : Value) (h : PH) (R : AEnd → PH → Prop) : denF Tryz.prog qf (ordOf o23) noLoops Tryz.f23.results.toList c23 #[a0, a1] h R = sh23 a0 a1 h R := by kernel_rfl
theorem k23 : codeOK Tryz.prog qf Tryz.f23.ntmps (ordOf o23) c23 = true := by kernel_rfl
theorem s23 : Tryz.f23.body = some c23 := by kernel_rfl
theorem call23 {a0 a1 : Value} {h : PH} {R : AEnd → PH → Prop} (H : sh23 a0 a1 h R) : ACalls Tryz.prog 23 #[a0, a1] h R :=
  ACalls_of_den mixed Tryz.func23 s23 (by kernel_rfl) k23 (l23 R) (of_den (e23 a0 a1 h R) H)

/- (*gavel/house.House).Auction -/
/- (*gavel/house.House).Totals -/
end Go.Pw
/- The functions of the program, told as predicate transformers: printed by wip/tools/shprint.py; each is what the model makes of the function, by the kernel's reckoning. -/
set_option linter.unusedVariables false
set_option maxRecDepth 100000
namespace Go.Pw
open Go Go.Proofs
/- (*gavel/house.House).Now -/
noncomputable def c26 : Code := bodyOf Tryz.f26
def o26 : List (Nat × List (Nat × List Nat)) := []
def sh26 (a0 : Value) (h : PH) (R : AEnd → PH → Prop) : Prop :=
  vBin Tryz.prog .eql 28 a0 (.pointer none) fun t4 =>
  dIf t4 (R (.ret (.int .i64 0)) h)
  (vNil a0 fun t6 =>
  vFA 3 t6 fun t7 =>
  vLoad none t7 h fun t8 =>
  R (.ret t8) h)
theorem l26 (R : AEnd → PH → Prop) : LoopsOK Tryz.prog qf (ordOf o26) (fun c h => R (.pan c) h) noLoops c26 := noLoops_ok (by kernel_rfl)
theorem e26 (a0 : Value) (h : PH) (R : AEnd → PH → Prop) : denF Tryz.prog qf (ordOf o26) noLoops Tryz.f26.results.toList c26 #[a0] h R = sh26 a0 h R := by kernel_rfl
theorem k26 : codeOK Tryz.prog qf Tryz.f26.ntmps (ordOf o26) c26 = true := by kernel_rfl
theorem s26 : Tryz.f26.body = some c26 := by kernel_rfl
theorem call26 {a0 : Value} {h : PH} {R : AEnd → PH → Prop} (H : sh26 a0 h R) : ACalls Tryz.prog 26 #[a0] h R :=
  ACalls_of_den mixed Tryz.func26 s26 (by kernel_rfl) k26 (l26 R) (of_den (e26 a0 h R) H)

/- (*gavel/house.House).Market -/
/- gavel/house.Of -/
/- gavel/gavelref08.Same -/
/- (*gavel/ledger.Ledger).Account -/
noncomputable def c30 : Code := bodyOf Tryz.f30
def o30 : List (Nat × List (Nat × List Nat)) := []
def sh30 (a0 a1 : Value) (h : PH) (R : AEnd → PH → Prop) : Prop :=
  vNew #[.int .i64 0, .int .i64 0, .int .i64 0, .int .i64 0, .int .i64 0, .int .i64 0, .int .i64 0, .int .i64 0, .int .i64 0, .int .i64 0] 61 h fun t4 h_1 =>
  vCall Tryz.prog 57 #[a0, a1] h_1 (fun t11 h_2 =>
  vExt t11 0 fun t12 =>
  vExt t11 1 fun t13 =>
  vBin Tryz.prog .neq 30 t13 (.int .i64 0) fun t15 =>
  dIf t15 (vBuild [(0, 1), (1, 1), (2, 4), (6, 4)] #[.int .i64 0, .int .i64 0, .int .i64 0, .int .i64 0, .int .i64 0, .int .i64 0, .int .i64 0, .int .i64 0, .int .i64 0, .int .i64 0] [] fun t16 =>
  vStore 10 t4 t16 h_2 fun h_3 =>
  vLoad (some 10) t4 h_3 fun rv =>
  R (.ret (.tuple #[rv, (.bool false)])) h_3)
  (vNil t12 fun t18 =>
  vFA 0 t18 fun t19 =>
  vLoad (some 10) t19 h_2 fun t20 =>
  vStore 10 t4 t20 h_2 fun h_4 =>
  vLoad (some 10) t4 h_4 fun rv_1 =>
  R (.ret (.tuple #[rv_1, (.bool true)])) h_4))
  (fun c h => R (.pan c) h)
theorem l30 (R : AEnd → PH → Prop) : LoopsOK Tryz.prog qf (ordOf o30) (fun c h => R (.pan c) h) noLoops c30 := noLoops_ok (by kernel_rfl)
theorem e30 (a0 a1 : Value) (h : PH) (R : AEnd → PH → Prop) : denF Tryz.prog qf (ordOf o30) noLoops Tryz.f30.results.toList c30 #[a0, a1] h R = sh30 a0 a1 h R := by kernel_rfl
theorem k30 : codeOK Tryz.prog qf Tryz.f30.ntmps (ordOf o30) c30 = true := by kernel_rfl
theorem s30 : Tryz.f30.body = some c30 := by kernel_rfl
theorem call30 {a0 a1 : Value} {h : PH} {R : AEnd → PH → Prop} (H : sh30 a0 a1 h R) : ACalls Tryz.prog 30 #[a0, a1] h R :=
  ACalls_of_den mixed Tryz.func30 s30 (by kernel_rfl) k30 (l30 R) (of_den (e30 a0 a1 h R) H)

/- (*gavel/ledger.Ledger).Last -/
noncomputable def c31 : Code := bodyOf Tryz.f31
def o31 : List (Nat × List (Nat × List Nat)) := [(4, [(0, []), (1, []), (2, []), (3, []), (4, []), (5, []), (6, []), (7, []), (8, []), (9, [])])]
def sh31 (a0 a1 : Value) (h : PH) (R : AEnd → PH → Prop) : Prop :=
  vCall Tryz.prog 57 #[a0, a1] h (fun t11 h_1 =>
  vExt t11 0 fun t12 =>
  vExt t11 1 fun t13 =>
  vBin Tryz.prog .neq 30 t13 (.int .i64 0) fun t15 =>
  dIf t15 (R (.ret (.tuple #[(.int .i64 0), (.string ⟨#[]⟩)])) h_1)
  (vNil t12 fun t17 =>
  vFA 10 t17 fun t18 =>
  vLoad none t18 h_1 fun t19 =>
  vNil t12 fun t21 =>
  vFA 11 t21 fun t22 =>
  vLoad none t22 h_1 fun t23 =>
  R (.ret (.tuple #[t19, t23])) h_1))
  (fun c h => R (.pan c) h)
theorem l31 (R : AEnd → PH → Prop) : LoopsOK Tryz.prog qf (ordOf o31) (fun c h => R (.pan c) h) noLoops c31 := noLoops_ok (by kernel_rfl)
theorem e31 (a0 a1 : Value) (h : PH) (R : AEnd → PH → Prop) : denF Tryz.prog qf (ordOf o31) noLoops Tryz.f31.results.toList c31 #[a0, a1] h R = sh31 a0 a1 h R := by kernel_rfl
theorem k31 : codeOK Tryz.prog qf Tryz.f31.ntmps (ordOf o31) c31 = true := by kernel_rfl
theorem s31 : Tryz.f31.body = some c31 := by kernel_rfl
theorem call31 {a0 a1 : Value} {h : PH} {R : AEnd → PH → Prop} (H : sh31 a0 a1 h R) : ACalls Tryz.prog 31 #[a0, a1] h R :=
  ACalls_of_den mixed Tryz.func31 s31 (by kernel_rfl) k31 (l31 R) (of_den (e31 a0 a1 h R) H)

/- gavel/house.acts -/
noncomputable def c33 : Code := bodyOf Tryz.f33
def o33 : List (Nat × List (Nat × List Nat)) := []
def sh33 (a0 : Value) (h : PH) (R : AEnd → PH → Prop) : Prop :=
  vMapNew h fun t3 h_1 =>
  vMapIns (.int .i64) t3 (.int .i64 1) (.func (.func 63) #[] #[]) h_1 fun h_2 =>
  vMapIns (.int .i64) t3 (.int .i64 2) (.func (.func 64) #[] #[]) h_2 fun h_3 =>
  vMapIns (.int .i64) t3 (.int .i64 3) (.func (.func 66) #[] #[]) h_3 fun h_4 =>
  vMapIns (.int .i64) t3 (.int .i64 4) (.func (.func 68) #[] #[]) h_4 fun h_5 =>
  vMapIns (.int .i64) t3 (.int .i64 5) (.func (.func 70) #[] #[]) h_5 fun h_6 =>
  vMapIns (.int .i64) t3 (.int .i64 6) (.func (.func 72) #[] #[]) h_6 fun h_7 =>
  vMapIns (.int .i64) t3 (.int .i64 7) (.func (.func 73) #[] #[]) h_7 fun h_8 =>
  vMapIns (.int .i64) t3 (.int .i64 8) (.func (.func 74) #[] #[]) h_8 fun h_9 =>
  vMapIns (.int .i64) t3 (.int .i64 9) (.func (.func 75) #[] #[]) h_9 fun h_10 =>
  vMapIns (.int .i64) t3 (.int .i64 10) (.func (.func 76) #[] #[]) h_10 fun h_11 =>
  vMapGet (.int .i64) .nilFunc false t3 a0 h_11 fun t6 =>
  R (.ret t6) h_11
theorem l33 (R : AEnd → PH → Prop) : LoopsOK Tryz.prog qf (ordOf o33) (fun c h => R (.pan c) h) noLoops c33 := noLoops_ok (by kernel_rfl)
theorem e33 (a0 : Value) (h : PH) (R : AEnd → PH → Prop) : denF Tryz.prog qf (ordOf o33) noLoops Tryz.f33.results.toList c33 #[a0] h R = sh33 a0 h R := by kernel_rfl
theorem k33 : codeOK Tryz.prog qf Tryz.f33.ntmps (ordOf o33) c33 = true := by kernel_rfl
theorem s33 : Tryz.f33.body = some c33 := by kernel_rfl
theorem call33 {a0 : Value} {h : PH} {R : AEnd → PH → Prop} (H : sh33 a0 h R) : ACalls Tryz.prog 33 #[a0] h R :=
  ACalls_of_den mixed Tryz.func33 s33 (by kernel_rfl) k33 (l33 R) (of_den (e33 a0 h R) H)

/- gavel/wire.PutInt -/
noncomputable def c34 : Code := bodyOf Tryz.f34
def o34 : List (Nat × List (Nat × List Nat)) := []
def sh34 (a0 : Value) (h : PH) (R : AEnd → PH → Prop) : Prop :=
  vBin Tryz.prog .lss 3 a0 (.int .i64 0) fun t6 =>
  gq (boolOf t6) false (fun K =>
  K a0 h)
  (fun t8 h_1 =>
  gq (boolOf t6) false (fun K_1 =>
  vBin Tryz.prog .gtr 3 t8 (.int .i64 9007199254740992) fun u =>
  K_1 u h_1)
  (fun t9 h_2 =>
  vPick t6 (.bool true) t9 fun t10 =>
  dIf t10 (R (.ret (.tuple #[(.string ⟨#[]⟩), (.int .i64 1)])) h_2)
  (vNew #[.slice none 0 0] 142 h_2 fun t4 h_3 =>
  vCall Tryz.prog 77 #[t4, a0] h_3 (fun t12 h_4 =>
  vNil t12 fun t13 =>
  vFA 0 t13 fun t14 =>
  vLoad none t14 h_4 fun t15 =>
  vConvBS t15 h_4 fun t16 =>
  R (.ret (.tuple #[t16, (.int .i64 0)])) h_4)
  (fun c h => R (.pan c) h))) h_1) h
theorem l34 (R : AEnd → PH → Prop) : LoopsOK Tryz.prog qf (ordOf o34) (fun c h => R (.pan c) h) noLoops c34 := noLoops_ok (by kernel_rfl)
theorem e34 (a0 : Value) (h : PH) (R : AEnd → PH → Prop) : denF Tryz.prog qf (ordOf o34) noLoops Tryz.f34.results.toList c34 #[a0] h R = sh34 a0 h R := by kernel_rfl
theorem k34 : codeOK Tryz.prog qf Tryz.f34.ntmps (ordOf o34) c34 = true := by kernel_rfl
theorem s34 : Tryz.f34.body = some c34 := by kernel_rfl
theorem call34 {a0 : Value} {h : PH} {R : AEnd → PH → Prop} (H : sh34 a0 h R) : ACalls Tryz.prog 34 #[a0] h R :=
  ACalls_of_den mixed Tryz.func34 s34 (by kernel_rfl) k34 (l34 R) (of_den (e34 a0 h R) H)

/- (*gavel/ledger.Ledger).Mark -/
noncomputable def c35 : Code := bodyOf Tryz.f35
def o35 : List (Nat × List (Nat × List Nat)) := []
def sh35 (a0 a1 a2 a3 : Value) (h : PH) (R : AEnd → PH → Prop) : Prop :=
  vCall Tryz.prog 57 #[a0, a1] h (fun t14 h_1 =>
  vExt t14 0 fun t15 =>
  vExt t14 1 fun t16 =>
  vBin Tryz.prog .neq 30 t16 (.int .i64 0) fun t18 =>
  dIf t18 (R (.ret t16) h_1)
  (vBin Tryz.prog .lss 3 a2 (.int .i64 1) fun t21 =>
  gq (boolOf t21) false (fun K =>
  K a2 h_1)
  (fun t23 h_2 =>
  gq (boolOf t21) false (fun K_1 =>
  vBin Tryz.prog .gtr 3 t23 (.int .i64 1099511627776) fun u =>
  K_1 u h_2)
  (fun t24 h_3 =>
  vPick t21 (.bool true) t24 fun t25 =>
  gq (boolOf t25) false (fun K_2 =>
  K_2 a3 h_3)
  (fun t27 h_4 =>
  gq (boolOf t25) false (fun K_3 =>
  vLenStr t27 fun u_1 =>
  K_3 u_1 h_4)
  (fun t28 h_5 =>
  gq (boolOf t25) false (fun K_4 =>
  vBin Tryz.prog .gtr 3 t28 (.int .i64 256) fun u_2 =>
  K_4 u_2 h_5)
  (fun t29 h_6 =>
  vPick t25 (.bool true) t29 fun t30 =>
  dIf t30 (R (.ret (.int .i64 1)) h_6)
  (vNil t15 fun t33 =>
  vFA 10 t33 fun t34 =>
  vLoad none t34 h_6 fun t35 =>
  vBin Tryz.prog .leq 3 a2 t35 fun t36 =>
  dIf t36 (R (.ret (.int .i64 91)) h_6)
  (vNil t15 fun t41 =>
  vFA 10 t41 fun t42 =>
  vStore 1 t42 a2 h_6 fun h_7 =>
  vNil t15 fun t43 =>
  vFA 11 t43 fun t44 =>
  vStore 1 t44 a3 h_7 fun h_8 =>
  R (.ret (.int .i64 0)) h_8))) h_5) h_4) h_3) h_2) h_1))
  (fun c h => R (.pan c) h)
theorem l35 (R : AEnd → PH → Prop) : LoopsOK Tryz.prog qf (ordOf o35) (fun c h => R (.pan c) h) noLoops c35 := noLoops_ok (by kernel_rfl)
theorem e35 (a0 a1 a2 a3 : Value) (h : PH) (R : AEnd → PH → Prop) : denF Tryz.prog qf (ordOf o35) noLoops Tryz.f35.results.toList c35 #[a0, a1, a2, a3] h R = sh35 a0 a1 a2 a3 h R := by kernel_rfl
theorem k35 : codeOK Tryz.prog qf Tryz.f35.ntmps (ordOf o35) c35 = true := by kernel_rfl
theorem s35 : Tryz.f35.body = some c35 := by kernel_rfl
theorem call35 {a0 a1 a2 a3 : Value} {h : PH} {R : AEnd → PH → Prop} (H : sh35 a0 a1 a2 a3 h R) : ACalls Tryz.prog 35 #[a0, a1, a2, a3] h R :=
  ACalls_of_den mixed Tryz.func35 s35 (by kernel_rfl) k35 (l35 R) (of_den (e35 a0 a1 a2 a3 h R) H)

/- gavel/gavelref01.Op -/
noncomputable def c36 : Code := bodyOf Tryz.f36
def o36 : List (Nat × List (Nat × List Nat)) := []
def b36_4 (Kp : List PanicEntry → PH → Prop) (x0 : (Value × Value × Value × Value) → PH → Prop) (xr : (Value × Value × Value × Value) → PH → Prop) (f : Value × Value) (kn : (Value × Value) → (Value × Value × Value × Value) → PH → Prop) (s : Value × Value × Value × Value) (h : PH) : Prop :=
  vBin Tryz.prog .lss 3 s.2.2.2 (.int .i64 5) fun t22 =>
  dIf t22 (vIxS 1 f.2 s.2.2.2 fun t27 =>
  vLoad none t27 h fun t28 =>
  vBin Tryz.prog .lss 3 t28 (.int .i64 0) fun t29 =>
  gq (boolOf t29) false (fun K =>
  K f.2 h)
  (fun t31 h_1 =>
  gq (boolOf t29) false (fun K_1 =>
  K_1 s.2.2.2 h_1)
  (fun t32 h_2 =>
  gq (boolOf t29) false (fun K_2 =>
  vIxS 1 t31 t32 fun u =>
  K_2 u h_2)
  (fun t33 h_3 =>
  gq (boolOf t29) false (fun K_3 =>
  vLoad none t33 h_3 fun u_1 =>
  K_3 u_1 h_3)
  (fun t34 h_4 =>
  gq (boolOf t29) false (fun K_4 =>
  vBin Tryz.prog .gtr 3 t34 (.int .i64 9007199254740992) fun u_2 =>
  K_4 u_2 h_4)
  (fun t35 h_5 =>
  vPick t29 (.bool true) t35 fun t36 =>
  dIf t36 (xr (f.1, (.string ⟨#[]⟩), (.int .i64 14), s.2.2.1) h_5)
  (vIxS 1 f.2 s.2.2.2 fun t40 =>
  vLoad none t40 h_5 fun t41 =>
  vCall Tryz.prog 47 #[t41] h_5 (fun t42 h_6 =>
  vBin Tryz.prog .add 9 s.2.2.1 t42 fun t43 =>
  vBin Tryz.prog .add 3 s.2.2.2 (.int .i64 1) fun t24 =>
  kn f (s.1, s.2.1, t43, t24) h_6)
  Kp)) h_4) h_3) h_2) h_1) h)
  (x0 (f.1, s.1, s.2.1, s.2.2.1) h)

def b36_12 (Kp : List PanicEntry → PH → Prop) (x2 : (Value × Value) → PH → Prop) (f : Value) (kn : (Value) → (Value × Value × Value) → PH → Prop) (s : Value × Value × Value) (h : PH) : Prop :=
  vBin Tryz.prog .lss 3 s.2.2 (.int .i64 8) fun t48 =>
  dIf t48 (vBin Tryz.prog .rem 102 s.1 (.int .u64 256) fun t53 =>
  vConvI .u8 t53 fun t54 =>
  (1 * 1 ≤ 2 ^ 24) ∧ vBuildS 5 1 1 #[.int .u8 0] [(0, t54)] h fun t55 h_1 =>
  (0 < 1) ∧ (0 < 1) ∧ (Array.size #[(.int .u8 0 : Value)] = 1) ∧ vAppend false 5 1 1 s.2.1 t55 h_1 fun t56 h_2 =>
  vBin Tryz.prog .quo 102 s.1 (.int .u64 256) fun t58 =>
  vBin Tryz.prog .add 3 s.2.2 (.int .i64 1) fun t50 =>
  kn f (t58, t56, t50) h_2)
  (x2 (f, s.2.1) h)

def sh36 (a0 : Value) (h : PH) (R : AEnd → PH → Prop) : Prop :=
  vNew (Value.cells a0) 25 h fun t1 h_1 =>
  vFA 0 t1 fun t10 =>
  vLoad none t10 h_1 fun t11 =>
  vFA 1 t1 fun t12 =>
  vLoad none t12 h_1 fun t13 =>
  vFA 2 t1 fun t14 =>
  vLoad none t14 h_1 fun t15 =>
  vFA 3 t1 fun t16 =>
  vLoad none t16 h_1 fun t17 =>
  vFA 4 t1 fun t18 =>
  vLoad none t18 h_1 fun t19 =>
  (5 * 1 ≤ 2 ^ 24) ∧ vBuildS 3 1 5 #[.int .i64 0] [(0, t11), (1, t13), (2, t15), (3, t17), (4, t19)] h_1 fun t20 h_2 =>
  lf (b36_4 (fun c h => R (.pan c) h) (fun v h => exq (fun ρ => (ρ 1, ρ 2, ρ 3, ρ 5)) v (fun r h_3 =>
  vFA 5 (r 1) fun t44 =>
  vLoad none t44 h_3 fun t45 =>
  vLib Tryz.prog 78 #[t45] h_3 fun t46 h_4 =>
  lf (b36_12 (fun c h => R (.pan c) h) (fun v h => exq (fun ρ => (ρ 5, ρ 8)) v (fun r_1 h_5 =>
  vConvBS (r_1 8) h_5 fun t61 =>
  vBin Tryz.prog .add 9 (r_1 5) t61 fun t62 =>
  R (.ret (.tuple #[t62, (.int .i64 0)])) h_5) h)) (r 5) (t46, (.slice none 0 0), (.int .i64 0)) h_4) h) (fun v h => exq (fun ρ => (ρ 1, ρ 2, ρ 3, ρ 5)) v (fun r h_6 =>
  R (.ret (.tuple #[(r 2), (r 3)])) h_6) h)) (t1, t20) ((.string ⟨#[]⟩), (.int .i64 0), (.string ⟨#[]⟩), (.int .i64 0)) h_2
def L36 (Kp : List PanicEntry → PH → Prop) : Loops := fun c Q ρ h =>
    sel (Nat.beq (loopId c) 4) (lf (b36_4 Kp (fun v h => exq (fun ρ => (ρ 1, ρ 2, ρ 3, ρ 5)) v (Q (.exit 0)) h) (fun v h => exq (fun ρ => (ρ 1, ρ 2, ρ 3, ρ 5)) v (Q .ret) h)) ((fun ρ => (ρ 1, ρ 4)) ρ) ((fun ρ => (ρ 2, ρ 3, ρ 5, ρ 6)) ρ) h)
    (sel (Nat.beq (loopId c) 12) (lf (b36_12 Kp (fun v h => exq (fun ρ => (ρ 5, ρ 8)) v (Q (.exit 2)) h)) ((fun ρ => ρ 5) ρ) ((fun ρ => (ρ 7, ρ 8, ρ 9)) ρ) h)
    (False))
theorem B36_4 (Kp : List PanicEntry → PH → Prop) (KN : (Value × Value) → (Value × Value × Value × Value) → PH → Prop) (XX : Exit → (Value × Value × Value × Value) → PH → Prop) (ρ : Env) (h : PH) :
    den Tryz.prog qf (ordOf o36) Kp (L36 Kp) (loopAt c36 0) (lq KN XX (fun ρ => (ρ 1, ρ 4)) (fun ρ => (ρ 2, ρ 3, ρ 5, ρ 6)) (fun ρ => (ρ 1, ρ 2, ρ 3, ρ 5))) ρ h = b36_4 Kp (XX (.exit 0)) (XX .ret) ((fun ρ => (ρ 1, ρ 4)) ρ) KN ((fun ρ => (ρ 2, ρ 3, ρ 5, ρ 6)) ρ) h := by kernel_rfl
theorem B36_12 (Kp : List PanicEntry → PH → Prop) (KN : (Value) → (Value × Value × Value) → PH → Prop) (XX : Exit → (Value × Value) → PH → Prop) (ρ : Env) (h : PH) :
    den Tryz.prog qf (ordOf o36) Kp (L36 Kp) (loopAt c36 1) (lq KN XX (fun ρ => ρ 5) (fun ρ => (ρ 7, ρ 8, ρ 9)) (fun ρ => (ρ 5, ρ 8))) ρ h = b36_12 Kp (XX (.exit 2)) ((fun ρ => ρ 5) ρ) KN ((fun ρ => (ρ 7, ρ 8, ρ 9)) ρ) h := by kernel_rfl
theorem l36 (R : AEnd → PH → Prop) : LoopsOK Tryz.prog qf (ordOf o36) (fun c h => R (.pan c) h) (L36 (fun c h => R (.pan c) h)) c36 :=
  LoopsOK.mk 2 (by kernel_rfl) fun i hi Q ρ h H => match i, hi with
    | 0, _ => loop_gen (F := Value × Value) (S := Value × Value × Value × Value) (X := Value × Value × Value × Value) (φ := (fun ρ => (ρ 1, ρ 4))) (π := (fun ρ => (ρ 2, ρ 3, ρ 5, ρ 6))) (ξ := (fun ρ => (ρ 1, ρ 2, ρ 3, ρ 5))) (B := (fun (XX : Exit → (Value × Value × Value × Value) → PH → Prop) => b36_4 (fun c h => R (.pan c) h) (XX (.exit 0)) (XX .ret))) (B36_4 _) (of_den (by kernel_rfl) H)
    | 1, _ => loop_gen (F := Value) (S := Value × Value × Value) (X := Value × Value) (φ := (fun ρ => ρ 5)) (π := (fun ρ => (ρ 7, ρ 8, ρ 9))) (ξ := (fun ρ => (ρ 5, ρ 8))) (B := (fun (XX : Exit → (Value × Value) → PH → Prop) => b36_12 (fun c h => R (.pan c) h) (XX (.exit 2)))) (B36_12 _) (of_den (by kernel_rfl) H)
    | n + 2, hi => absurd hi (by omega)
theorem e36 (a0 : Value) (h : PH) (R : AEnd → PH → Prop) : denF Tryz.prog qf (ordOf o36) (L36 (fun c h => R (.pan c) h)) Tryz.f36.results.toList c36 #[a0] h R = sh36 a0 h R := by kernel_rfl
theorem k36 : codeOK Tryz.prog qf Tryz.f36.ntmps (ordOf o36) c36 = true := by kernel_rfl
theorem s36 : Tryz.f36.body = some c36 := by kernel_rfl
theorem call36 {a0 : Value} {h : PH} {R : AEnd → PH → Prop} (H : sh36 a0 h R) : ACalls Tryz.prog 36 #[a0] h R :=
  ACalls_of_den mixed Tryz.func36 s36 (by kernel_rfl) k36 (l36 R) (of_den (e36 a0 h R) H)

/- (*gavel/ledger.Ledger).Records -/
noncomputable def c37 : Code := bodyOf Tryz.f37
def o37 : List (Nat × List (Nat × List Nat)) := [(8, [(0, []), (1, []), (2, []), (3, []), (4, []), (5, []), (6, []), (7, []), (9, []), (10, []), (11, []), (12, []), (13, []), (14, []), (15, []), (17, []), (18, []), (19, []), (20, []), (21, []), (22, []), (23, []), (26, []), (8, []), (16, [22]), (24, []), (25, [])])]
def b37_9 (Kp : List PanicEntry → PH → Prop) (x2 : (Value × Value × Value × Value × Value × Value × Value × Value) → PH → Prop) (f : Value × Value × Value × Value × Value × Value × Value × Value × Value) (kn : (Value × Value × Value × Value × Value × Value × Value × Value × Value) → (Value × Value) → PH → Prop) (s : Value × Value) (h : PH) : Prop :=
  vBin Tryz.prog .lss 3 s.2 f.2.2.2.2.2.2.2.2 fun t53 =>
  dIf t53 (vIxS 1 f.2.2.2.2.2.2.2.1 s.2 fun t54 =>
  vLoad none t54 h fun t55 =>
  vCall Tryz.prog 34 #[t55] h (fun t58 h_1 =>
  vExt t58 0 fun t59 =>
  vExt t58 1 fun t60 =>
  vBin Tryz.prog .add 9 s.1 t59 fun t63 =>
  vBin Tryz.prog .add 3 s.2 (.int .i64 1) fun t64 =>
  kn f (t63, t64) h_1)
  Kp)
  (x2 (f.1, f.2.1, f.2.2.1, f.2.2.2.1, s.1, f.2.2.2.2.1, f.2.2.2.2.2.1, f.2.2.2.2.2.2.1) h)

def b37_5 (Kp : List PanicEntry → PH → Prop) (x0 : Value → PH → Prop) (f : Value × Value × Value) (kn : (Value × Value × Value) → (Value × Value) → PH → Prop) (s : Value × Value) (h : PH) : Prop :=
  vBin Tryz.prog .lss 3 s.2 f.2.2 fun t22 =>
  dIf t22 (vIxS 12 f.2.1 s.2 fun t24 =>
  vLoad (some 12) t24 h fun t25 =>
  vNew #[.int .i64 0, .int .i64 0, .int .i64 0, .int .i64 0, .int .i64 0, .int .i64 0, .int .i64 0, .int .i64 0, .int .i64 0, .int .i64 0, .int .i64 0, .string ⟨#[]⟩] 132 h fun t5 h_1 =>
  vStore 12 t5 t25 h_1 fun h_2 =>
  vFA 10 t5 fun t26 =>
  vLoad none t26 h_2 fun t27 =>
  vFA 0 t5 fun t28 =>
  vFA 0 t28 fun t29 =>
  vLoad none t29 h_2 fun t30 =>
  vFA 0 t5 fun t31 =>
  vFA 1 t31 fun t32 =>
  vLoad none t32 h_2 fun t33 =>
  vFA 0 t5 fun t35 =>
  vFA 2 t35 fun t36 =>
  vNil f.1 fun t38 =>
  vFA 0 t38 fun t39 =>
  vLoad none t39 h_2 fun t40 =>
  vSlA 4 1 none (some t40) t36 fun t41 =>
  vFA 0 t5 fun t43 =>
  vFA 6 t43 fun t44 =>
  vNil f.1 fun t46 =>
  vFA 0 t46 fun t47 =>
  vLoad none t47 h_2 fun t48 =>
  vSlA 4 1 none (some t48) t44 fun t49 =>
  (3 * 1 ≤ 2 ^ 24) ∧ vBuildS 3 1 3 #[.int .i64 0] [(0, t27), (1, t30), (2, t33)] h_2 fun t34 h_3 =>
  (0 < 1) ∧ (0 < 8) ∧ (Array.size #[(.int .i64 0 : Value)] = 1) ∧ vAppend false 3 1 8 t34 t41 h_3 fun t42 h_4 =>
  (vLoad none t47 h_4 fun u =>
  t48 = u) ∧
  (0 < 1) ∧ (0 < 8) ∧ (Array.size #[(.int .i64 0 : Value)] = 1) ∧ vAppend false 3 1 8 t42 t49 h_4 fun t50 h_5 =>
  vLenS t50 fun t51 =>
  lf (b37_9 Kp (fun v h => exq (fun ρ => (ρ 0, ρ 3, ρ 4, ρ 5, ρ 6, ρ 19, ρ 20, ρ 21)) v (fun r h_6 =>
  vFA 11 (r 5) fun t66 =>
  vLoad none t66 h_6 fun t67 =>
  vCall Tryz.prog 79 #[t67] h_6 (fun t68 h_7 =>
  vExt t68 0 fun t69 =>
  vExt t68 1 fun t70 =>
  vCall Tryz.prog 80 #[(r 4)] h_7 (fun t73 h_8 =>
  vBin Tryz.prog .add 9 (r 6) t69 fun t76 =>
  vBuild [(0, 1), (1, 1)] #[.string ⟨#[]⟩, .string ⟨#[]⟩] [(0, t73), (1, t76)] fun t77 =>
  (1 * 2 ≤ 2 ^ 24) ∧ vBuildS 42 2 1 #[.string ⟨#[]⟩, .string ⟨#[]⟩] [(0, t77)] h_8 fun t78 h_9 =>
  (0 < 2) ∧ (0 < 32) ∧ (Array.size #[(.string ⟨#[]⟩ : Value), (.string ⟨#[]⟩ : Value)] = 2) ∧ vAppend false 42 2 32 (r 3) t78 h_9 fun t79 h_10 =>
  vBin Tryz.prog .add 3 (r 21) (.int .i64 1) fun t80 =>
  kn ((r 0), (r 19), (r 20)) (t79, t80) h_10)
  Kp)
  Kp) h)) (f.1, s.1, s.2, t5, f.2.1, f.2.2, s.2, t50, t51) ((.string ⟨#[]⟩), (.int .i64 0)) h_5)
  (x0 s.1 h)

def sh37 (a0 : Value) (h : PH) (R : AEnd → PH → Prop) : Prop :=
  vBin Tryz.prog .eql 81 a0 (.pointer none) fun t14 =>
  dIf t14 (R (.ret (.slice none 0 0)) h)
  (vNil a0 fun t17 =>
  vFA 1 t17 fun t18 =>
  vLoad none t18 h fun t19 =>
  vLenS t19 fun t20 =>
  lf (b37_5 (fun c h => R (.pan c) h) (fun v h => exq (fun ρ => ρ 3) v (fun r h_1 =>
  R (.ret (r 3)) h_1) h)) (a0, t19, t20) ((.slice none 0 0), (.int .i64 0)) h)
def L37 (Kp : List PanicEntry → PH → Prop) : Loops := fun c Q ρ h =>
    sel (Nat.beq (loopId c) 5) (lf (b37_5 Kp (fun v h => exq (fun ρ => ρ 3) v (Q (.exit 0)) h)) ((fun ρ => (ρ 0, ρ 19, ρ 20)) ρ) ((fun ρ => (ρ 3, ρ 21)) ρ) h)
    (sel (Nat.beq (loopId c) 9) (lf (b37_9 Kp (fun v h => exq (fun ρ => (ρ 0, ρ 3, ρ 4, ρ 5, ρ 6, ρ 19, ρ 20, ρ 21)) v (Q (.exit 2)) h)) ((fun ρ => (ρ 0, ρ 3, ρ 4, ρ 5, ρ 19, ρ 20, ρ 21, ρ 50, ρ 51)) ρ) ((fun ρ => (ρ 6, ρ 52)) ρ) h)
    (False))
theorem B37_5 (Kp : List PanicEntry → PH → Prop) (KN : (Value × Value × Value) → (Value × Value) → PH → Prop) (XX : Exit → (Value) → PH → Prop) (ρ : Env) (h : PH) :
    den Tryz.prog qf (ordOf o37) Kp (L37 Kp) (loopAt c37 0) (lq KN XX (fun ρ => (ρ 0, ρ 19, ρ 20)) (fun ρ => (ρ 3, ρ 21)) (fun ρ => ρ 3)) ρ h = b37_5 Kp (XX (.exit 0)) ((fun ρ => (ρ 0, ρ 19, ρ 20)) ρ) KN ((fun ρ => (ρ 3, ρ 21)) ρ) h := by kernel_rfl
theorem B37_9 (Kp : List PanicEntry → PH → Prop) (KN : (Value × Value × Value × Value × Value × Value × Value × Value × Value) → (Value × Value) → PH → Prop) (XX : Exit → (Value × Value × Value × Value × Value × Value × Value × Value) → PH → Prop) (ρ : Env) (h : PH) :
    den Tryz.prog qf (ordOf o37) Kp (L37 Kp) (loopAt c37 1) (lq KN XX (fun ρ => (ρ 0, ρ 3, ρ 4, ρ 5, ρ 19, ρ 20, ρ 21, ρ 50, ρ 51)) (fun ρ => (ρ 6, ρ 52)) (fun ρ => (ρ 0, ρ 3, ρ 4, ρ 5, ρ 6, ρ 19, ρ 20, ρ 21))) ρ h = b37_9 Kp (XX (.exit 2)) ((fun ρ => (ρ 0, ρ 3, ρ 4, ρ 5, ρ 19, ρ 20, ρ 21, ρ 50, ρ 51)) ρ) KN ((fun ρ => (ρ 6, ρ 52)) ρ) h := by kernel_rfl
theorem l37 (R : AEnd → PH → Prop) : LoopsOK Tryz.prog qf (ordOf o37) (fun c h => R (.pan c) h) (L37 (fun c h => R (.pan c) h)) c37 :=
  LoopsOK.mk 2 (by kernel_rfl) fun i hi Q ρ h H => match i, hi with
    | 0, _ => loop_gen (F := Value × Value × Value) (S := Value × Value) (X := Value) (φ := (fun ρ => (ρ 0, ρ 19, ρ 20))) (π := (fun ρ => (ρ 3, ρ 21))) (ξ := (fun ρ => ρ 3)) (B := (fun (XX : Exit → (Value) → PH → Prop) => b37_5 (fun c h => R (.pan c) h) (XX (.exit 0)))) (B37_5 _) (of_den (by kernel_rfl) H)
    | 1, _ => loop_gen (F := Value × Value × Value × Value × Value × Value × Value × Value × Value) (S := Value × Value) (X := Value × Value × Value × Value × Value × Value × Value × Value) (φ := (fun ρ => (ρ 0, ρ 3, ρ 4, ρ 5, ρ 19, ρ 20, ρ 21, ρ 50, ρ 51))) (π := (fun ρ => (ρ 6, ρ 52))) (ξ := (fun ρ => (ρ 0, ρ 3, ρ 4, ρ 5, ρ 6, ρ 19, ρ 20, ρ 21))) (B := (fun (XX : Exit → (Value × Value × Value × Value × Value × Value × Value × Value) → PH → Prop) => b37_9 (fun c h => R (.pan c) h) (XX (.exit 2)))) (B37_9 _) (of_den (by kernel_rfl) H)
    | n + 2, hi => absurd hi (by omega)
theorem e37 (a0 : Value) (h : PH) (R : AEnd → PH → Prop) : denF Tryz.prog qf (ordOf o37) (L37 (fun c h => R (.pan c) h)) Tryz.f37.results.toList c37 #[a0] h R = sh37 a0 h R := by kernel_rfl
theorem k37 : codeOK Tryz.prog qf Tryz.f37.ntmps (ordOf o37) c37 = true := by kernel_rfl
theorem s37 : Tryz.f37.body = some c37 := by kernel_rfl
theorem call37 {a0 : Value} {h : PH} {R : AEnd → PH → Prop} (H : sh37 a0 h R) : ACalls Tryz.prog 37 #[a0] h R :=
  ACalls_of_den mixed Tryz.func37 s37 (by kernel_rfl) k37 (l37 R) (of_den (e37 a0 h R) H)

/- gavel/house.key -/
noncomputable def c38 : Code := bodyOf Tryz.f38
def o38 : List (Nat × List (Nat × List Nat)) := []
def sh38 (a0 a1 : Value) (h : PH) (R : AEnd → PH → Prop) : Prop :=
  vBin Tryz.prog .add 3 (.int .i64 48) a1 fun t7 =>
  vConvI .u8 t7 fun t8 =>
  (1 * 1 ≤ 2 ^ 24) ∧ vBuildS 5 1 1 #[.int .u8 0] [(0, t8)] h fun t9 h_1 =>
  vConvBS t9 h_1 fun t10 =>
  vBin Tryz.prog .add 9 a0 t10 fun t11 =>
  R (.ret t11) h_1
theorem l38 (R : AEnd → PH → Prop) : LoopsOK Tryz.prog qf (ordOf o38) (fun c h => R (.pan c) h) noLoops c38 := noLoops_ok (by kernel_rfl)
theorem e38 (a0 a1 : Value) (h : PH) (R : AEnd → PH → Prop) : denF Tryz.prog qf (ordOf o38) noLoops Tryz.f38.results.toList c38 #[a0, a1] h R = sh38 a0 a1 h R := by kernel_rfl
theorem k38 : codeOK Tryz.prog qf Tryz.f38.ntmps (ordOf o38) c38 = true := by kernel_rfl
theorem s38 : Tryz.f38.body = some c38 := by kernel_rfl
theorem call38 {a0 a1 : Value} {h : PH} {R : AEnd → PH → Prop} (H : sh38 a0 a1 h R) : ACalls Tryz.prog 38 #[a0, a1] h R :=
  ACalls_of_den mixed Tryz.func38 s38 (by kernel_rfl) k38 (l38 R) (of_den (e38 a0 a1 h R) H)

end Go.Pw
/- The functions of the program, told as predicate transformers: printed by wip/tools/shprint.py; each is what the model makes of the function, by the kernel's reckoning. -/
set_option linter.unusedVariables false
set_option maxRecDepth 100000
namespace Go.Pw
open Go Go.Proofs
/- (*gavel/call.Book).Bytes -/
noncomputable def c39 : Code := bodyOf Tryz.f39
def o39 : List (Nat × List (Nat × List Nat)) := [(3, [(0, []), (1, []), (2, []), (3, []), (4, []), (5, []), (6, []), (7, []), (8, []), (9, []), (10, [])])]
def b39_5 (Kp : List PanicEntry → PH → Prop) (x0 : Value → PH → Prop) (f : Value × Value) (kn : (Value × Value) → (Value × Value) → PH → Prop) (s : Value × Value) (h : PH) : Prop :=
  vBin Tryz.prog .lss 3 s.2 f.2 fun t30 =>
  dIf t30 (vIxS 6 f.1 s.2 fun t31 =>
  vLoad (some 6) t31 h fun t32 =>
  vNew #[.int .i64 0, .int .i64 0, .int .i64 0, .int .i64 0, .int .i64 0, .bool false] 78 h fun t5 h_1 =>
  vStore 6 t5 t32 h_1 fun h_2 =>
  vFA 5 t5 fun t33 =>
  vLoad none t33 h_2 fun t34 =>
  vUn Tryz.prog .not t34 fun t35 =>
  dIf t35 (vFA 0 t5 fun t37 =>
  vLoad none t37 h_2 fun t38 =>
  vFA 1 t5 fun t39 =>
  vLoad none t39 h_2 fun t40 =>
  vFA 2 t5 fun t42 =>
  vLoad none t42 h_2 fun t43 =>
  vFA 3 t5 fun t44 =>
  vLoad none t44 h_2 fun t45 =>
  vFA 4 t5 fun t46 =>
  vLoad none t46 h_2 fun t47 =>
  (6 * 1 ≤ 2 ^ 24) ∧ vBuildS 3 1 6 #[.int .i64 0] [(0, t38), (1, t40), (2, (.int .i64 1)), (3, t43), (4, t45), (5, t47)] h_2 fun t48 h_3 =>
  (0 < 1) ∧ (0 < 8) ∧ (Array.size #[(.int .i64 0 : Value)] = 1) ∧ vAppend false 3 1 8 s.1 t48 h_3 fun t49 h_4 =>
  vBin Tryz.prog .add 3 s.2 (.int .i64 1) fun t50 =>
  kn f (t49, t50) h_4)
  (vFA 0 t5 fun t37_1 =>
  vLoad none t37_1 h_2 fun t38_1 =>
  vFA 1 t5 fun t39_1 =>
  vLoad none t39_1 h_2 fun t40_1 =>
  vFA 2 t5 fun t42_1 =>
  vLoad none t42_1 h_2 fun t43_1 =>
  vFA 3 t5 fun t44_1 =>
  vLoad none t44_1 h_2 fun t45_1 =>
  vFA 4 t5 fun t46_1 =>
  vLoad none t46_1 h_2 fun t47_1 =>
  (6 * 1 ≤ 2 ^ 24) ∧ vBuildS 3 1 6 #[.int .i64 0] [(0, t38_1), (1, t40_1), (2, (.int .i64 0)), (3, t43_1), (4, t45_1), (5, t47_1)] h_2 fun t48_1 h_5 =>
  (0 < 1) ∧ (0 < 8) ∧ (Array.size #[(.int .i64 0 : Value)] = 1) ∧ vAppend false 3 1 8 s.1 t48_1 h_5 fun t49_1 h_6 =>
  vBin Tryz.prog .add 3 s.2 (.int .i64 1) fun t50_1 =>
  kn f (t49_1, t50_1) h_6))
  (x0 s.1 h)

def b39_14 (Kp : List PanicEntry → PH → Prop) (x2 : Value → PH → Prop) (f : Value × Value) (kn : (Value × Value) → (Value × Value) → PH → Prop) (s : Value × Value) (h : PH) : Prop :=
  vBin Tryz.prog .lss 3 s.2 f.2 fun t54 =>
  dIf t54 (vIxS 1 f.1 s.2 fun t55 =>
  vLoad none t55 h fun t56 =>
  vCall Tryz.prog 34 #[t56] h (fun t59 h_1 =>
  vExt t59 0 fun t60 =>
  vExt t59 1 fun t61 =>
  vBin Tryz.prog .add 9 s.1 t60 fun t64 =>
  vBin Tryz.prog .add 3 s.2 (.int .i64 1) fun t65 =>
  kn f (t64, t65) h_1)
  Kp)
  (x2 s.1 h)

def sh39 (a0 : Value) (h : PH) (R : AEnd → PH → Prop) : Prop :=
  vBin Tryz.prog .eql 93 a0 (.pointer none) fun t13 =>
  dIf t13 (R (.ret (.string ⟨#[]⟩)) h)
  (vNil a0 fun t15 =>
  vFA 1 t15 fun t16 =>
  vLoad none t16 h fun t17 =>
  vNil a0 fun t19 =>
  vFA 0 t19 fun t20 =>
  vLoad none t20 h fun t21 =>
  vLenS t21 fun t22 =>
  (2 * 1 ≤ 2 ^ 24) ∧ vBuildS 3 1 2 #[.int .i64 0] [(0, t17), (1, t22)] h fun t23 h_1 =>
  vNil a0 fun t25 =>
  vFA 0 t25 fun t26 =>
  vLoad none t26 h_1 fun t27 =>
  vLenS t27 fun t28 =>
  lf (b39_5 (fun c h => R (.pan c) h) (fun v h => exq (fun ρ => ρ 3) v (fun r h_2 =>
  vLenS (r 3) fun t52 =>
  lf (b39_14 (fun c h => R (.pan c) h) (fun v h => exq (fun ρ => ρ 7) v (fun r_1 h_3 =>
  R (.ret (r_1 7)) h_3) h)) ((r 3), t52) ((.string ⟨#[]⟩), (.int .i64 0)) h_2) h)) (t27, t28) (t23, (.int .i64 0)) h_1)
def L39 (Kp : List PanicEntry → PH → Prop) : Loops := fun c Q ρ h =>
    sel (Nat.beq (loopId c) 5) (lf (b39_5 Kp (fun v h => exq (fun ρ => ρ 3) v (Q (.exit 0)) h)) ((fun ρ => (ρ 27, ρ 28)) ρ) ((fun ρ => (ρ 3, ρ 29)) ρ) h)
    (sel (Nat.beq (loopId c) 14) (lf (b39_14 Kp (fun v h => exq (fun ρ => ρ 7) v (Q (.exit 2)) h)) ((fun ρ => (ρ 51, ρ 52)) ρ) ((fun ρ => (ρ 7, ρ 53)) ρ) h)
    (False))
theorem B39_5 (Kp : List PanicEntry → PH → Prop) (KN : (Value × Value) → (Value × Value) → PH → Prop) (XX : Exit → (Value) → PH → Prop) (ρ : Env) (h : PH) :
    den Tryz.prog qf (ordOf o39) Kp (L39 Kp) (loopAt c39 0) (lq KN XX (fun ρ => (ρ 27, ρ 28)) (fun ρ => (ρ 3, ρ 29)) (fun ρ => ρ 3)) ρ h = b39_5 Kp (XX (.exit 0)) ((fun ρ => (ρ 27, ρ 28)) ρ) KN ((fun ρ => (ρ 3, ρ 29)) ρ) h := by kernel_rfl
theorem B39_14 (Kp : List PanicEntry → PH → Prop) (KN : (Value × Value) → (Value × Value) → PH → Prop) (XX : Exit → (Value) → PH → Prop) (ρ : Env) (h : PH) :
    den Tryz.prog qf (ordOf o39) Kp (L39 Kp) (loopAt c39 1) (lq KN XX (fun ρ => (ρ 51, ρ 52)) (fun ρ => (ρ 7, ρ 53)) (fun ρ => ρ 7)) ρ h = b39_14 Kp (XX (.exit 2)) ((fun ρ => (ρ 51, ρ 52)) ρ) KN ((fun ρ => (ρ 7, ρ 53)) ρ) h := by kernel_rfl
theorem l39 (R : AEnd → PH → Prop) : LoopsOK Tryz.prog qf (ordOf o39) (fun c h => R (.pan c) h) (L39 (fun c h => R (.pan c) h)) c39 :=
  LoopsOK.mk 2 (by kernel_rfl) fun i hi Q ρ h H => match i, hi with
    | 0, _ => loop_gen (F := Value × Value) (S := Value × Value) (X := Value) (φ := (fun ρ => (ρ 27, ρ 28))) (π := (fun ρ => (ρ 3, ρ 29))) (ξ := (fun ρ => ρ 3)) (B := (fun (XX : Exit → (Value) → PH → Prop) => b39_5 (fun c h => R (.pan c) h) (XX (.exit 0)))) (B39_5 _) (of_den (by kernel_rfl) H)
    | 1, _ => loop_gen (F := Value × Value) (S := Value × Value) (X := Value) (φ := (fun ρ => (ρ 51, ρ 52))) (π := (fun ρ => (ρ 7, ρ 53))) (ξ := (fun ρ => ρ 7)) (B := (fun (XX : Exit → (Value) → PH → Prop) => b39_14 (fun c h => R (.pan c) h) (XX (.exit 2)))) (B39_14 _) (of_den (by kernel_rfl) H)
    | n + 2, hi => absurd hi (by omega)
theorem e39 (a0 : Value) (h : PH) (R : AEnd → PH → Prop) : denF Tryz.prog qf (ordOf o39) (L39 (fun c h => R (.pan c) h)) Tryz.f39.results.toList c39 #[a0] h R = sh39 a0 h R := by kernel_rfl
theorem k39 : codeOK Tryz.prog qf Tryz.f39.ntmps (ordOf o39) c39 = true := by kernel_rfl
theorem s39 : Tryz.f39.body = some c39 := by kernel_rfl
theorem call39 {a0 : Value} {h : PH} {R : AEnd → PH → Prop} (H : sh39 a0 h R) : ACalls Tryz.prog 39 #[a0] h R :=
  ACalls_of_den mixed Tryz.func39 s39 (by kernel_rfl) k39 (l39 R) (of_den (e39 a0 h R) H)

/- (*gavel/clock.Auction).Bytes -/
noncomputable def c40 : Code := bodyOf Tryz.f40
def o40 : List (Nat × List (Nat × List Nat)) := [(3, [(0, []), (1, []), (2, []), (3, []), (4, []), (5, []), (6, []), (7, []), (8, []), (9, []), (10, []), (11, []), (12, []), (13, []), (14, []), (15, []), (16, []), (17, []), (18, []), (19, []), (20, []), (21, []), (22, []), (23, []), (24, []), (25, []), (26, [])])]
def b40_5 (Kp : List PanicEntry → PH → Prop) (x0 : Value → PH → Prop) (f : Value × Value) (kn : (Value × Value) → (Value × Value) → PH → Prop) (s : Value × Value) (h : PH) : Prop :=
  vBin Tryz.prog .lss 3 s.2 f.2 fun t45 =>
  dIf t45 (vIxS 2 f.1 s.2 fun t46 =>
  vLoad (some 2) t46 h fun t47 =>
  vNew #[.int .i64 0, .int .i64 0] 157 h fun t5 h_1 =>
  vStore 2 t5 t47 h_1 fun h_2 =>
  vFA 0 t5 fun t49 =>
  vLoad none t49 h_2 fun t50 =>
  vFA 1 t5 fun t51 =>
  vLoad none t51 h_2 fun t52 =>
  (2 * 1 ≤ 2 ^ 24) ∧ vBuildS 3 1 2 #[.int .i64 0] [(0, t50), (1, t52)] h_2 fun t53 h_3 =>
  (0 < 1) ∧ (0 < 8) ∧ (Array.size #[(.int .i64 0 : Value)] = 1) ∧ vAppend false 3 1 8 s.1 t53 h_3 fun t54 h_4 =>
  vBin Tryz.prog .add 3 s.2 (.int .i64 1) fun t55 =>
  kn f (t54, t55) h_4)
  (x0 s.1 h)

def b40_11 (Kp : List PanicEntry → PH → Prop) (x2 : Value → PH → Prop) (f : Value × Value) (kn : (Value × Value) → (Value × Value) → PH → Prop) (s : Value × Value) (h : PH) : Prop :=
  vBin Tryz.prog .lss 3 s.2 f.2 fun t59 =>
  dIf t59 (vIxS 1 f.1 s.2 fun t60 =>
  vLoad none t60 h fun t61 =>
  vCall Tryz.prog 34 #[t61] h (fun t64 h_1 =>
  vExt t64 0 fun t65 =>
  vExt t64 1 fun t66 =>
  vBin Tryz.prog .add 9 s.1 t65 fun t69 =>
  vBin Tryz.prog .add 3 s.2 (.int .i64 1) fun t70 =>
  kn f (t69, t70) h_1)
  Kp)
  (x2 s.1 h)

def sh40 (a0 : Value) (h : PH) (R : AEnd → PH → Prop) : Prop :=
  vBin Tryz.prog .eql 96 a0 (.pointer none) fun t12 =>
  dIf t12 (R (.ret (.string ⟨#[]⟩)) h)
  (vNil a0 fun t14 =>
  vFA 0 t14 fun t15 =>
  vLoad none t15 h fun t16 =>
  vNil a0 fun t18 =>
  vFA 1 t18 fun t19 =>
  vLoad none t19 h fun t20 =>
  vNil a0 fun t22 =>
  vFA 2 t22 fun t23 =>
  vLoad none t23 h fun t24 =>
  vNil a0 fun t26 =>
  vFA 3 t26 fun t27 =>
  vLoad none t27 h fun t28 =>
  vNil a0 fun t30 =>
  vFA 4 t30 fun t31 =>
  vLoad none t31 h fun t32 =>
  vNil a0 fun t34 =>
  vFA 5 t34 fun t35 =>
  vLoad none t35 h fun t36 =>
  vLenS t36 fun t37 =>
  (6 * 1 ≤ 2 ^ 24) ∧ vBuildS 3 1 6 #[.int .i64 0] [(0, t16), (1, t20), (2, t24), (3, t28), (4, t32), (5, t37)] h fun t38 h_1 =>
  vNil a0 fun t40 =>
  vFA 5 t40 fun t41 =>
  vLoad none t41 h_1 fun t42 =>
  vLenS t42 fun t43 =>
  lf (b40_5 (fun c h => R (.pan c) h) (fun v h => exq (fun ρ => ρ 3) v (fun r h_2 =>
  vLenS (r 3) fun t57 =>
  lf (b40_11 (fun c h => R (.pan c) h) (fun v h => exq (fun ρ => ρ 6) v (fun r_1 h_3 =>
  R (.ret (r_1 6)) h_3) h)) ((r 3), t57) ((.string ⟨#[]⟩), (.int .i64 0)) h_2) h)) (t42, t43) (t38, (.int .i64 0)) h_1)
def L40 (Kp : List PanicEntry → PH → Prop) : Loops := fun c Q ρ h =>
    sel (Nat.beq (loopId c) 5) (lf (b40_5 Kp (fun v h => exq (fun ρ => ρ 3) v (Q (.exit 0)) h)) ((fun ρ => (ρ 42, ρ 43)) ρ) ((fun ρ => (ρ 3, ρ 44)) ρ) h)
    (sel (Nat.beq (loopId c) 11) (lf (b40_11 Kp (fun v h => exq (fun ρ => ρ 6) v (Q (.exit 2)) h)) ((fun ρ => (ρ 56, ρ 57)) ρ) ((fun ρ => (ρ 6, ρ 58)) ρ) h)
    (False))
theorem B40_5 (Kp : List PanicEntry → PH → Prop) (KN : (Value × Value) → (Value × Value) → PH → Prop) (XX : Exit → (Value) → PH → Prop) (ρ : Env) (h : PH) :
    den Tryz.prog qf (ordOf o40) Kp (L40 Kp) (loopAt c40 0) (lq KN XX (fun ρ => (ρ 42, ρ 43)) (fun ρ => (ρ 3, ρ 44)) (fun ρ => ρ 3)) ρ h = b40_5 Kp (XX (.exit 0)) ((fun ρ => (ρ 42, ρ 43)) ρ) KN ((fun ρ => (ρ 3, ρ 44)) ρ) h := by kernel_rfl
theorem B40_11 (Kp : List PanicEntry → PH → Prop) (KN : (Value × Value) → (Value × Value) → PH → Prop) (XX : Exit → (Value) → PH → Prop) (ρ : Env) (h : PH) :
    den Tryz.prog qf (ordOf o40) Kp (L40 Kp) (loopAt c40 1) (lq KN XX (fun ρ => (ρ 56, ρ 57)) (fun ρ => (ρ 6, ρ 58)) (fun ρ => ρ 6)) ρ h = b40_11 Kp (XX (.exit 2)) ((fun ρ => (ρ 56, ρ 57)) ρ) KN ((fun ρ => (ρ 6, ρ 58)) ρ) h := by kernel_rfl
theorem l40 (R : AEnd → PH → Prop) : LoopsOK Tryz.prog qf (ordOf o40) (fun c h => R (.pan c) h) (L40 (fun c h => R (.pan c) h)) c40 :=
  LoopsOK.mk 2 (by kernel_rfl) fun i hi Q ρ h H => match i, hi with
    | 0, _ => loop_gen (F := Value × Value) (S := Value × Value) (X := Value) (φ := (fun ρ => (ρ 42, ρ 43))) (π := (fun ρ => (ρ 3, ρ 44))) (ξ := (fun ρ => ρ 3)) (B := (fun (XX : Exit → (Value) → PH → Prop) => b40_5 (fun c h => R (.pan c) h) (XX (.exit 0)))) (B40_5 _) (of_den (by kernel_rfl) H)
    | 1, _ => loop_gen (F := Value × Value) (S := Value × Value) (X := Value) (φ := (fun ρ => (ρ 56, ρ 57))) (π := (fun ρ => (ρ 6, ρ 58))) (ξ := (fun ρ => ρ 6)) (B := (fun (XX : Exit → (Value) → PH → Prop) => b40_11 (fun c h => R (.pan c) h) (XX (.exit 2)))) (B40_11 _) (of_den (by kernel_rfl) H)
    | n + 2, hi => absurd hi (by omega)
theorem e40 (a0 : Value) (h : PH) (R : AEnd → PH → Prop) : denF Tryz.prog qf (ordOf o40) (L40 (fun c h => R (.pan c) h)) Tryz.f40.results.toList c40 #[a0] h R = sh40 a0 h R := by kernel_rfl
theorem k40 : codeOK Tryz.prog qf Tryz.f40.ntmps (ordOf o40) c40 = true := by kernel_rfl
theorem s40 : Tryz.f40.body = some c40 := by kernel_rfl
theorem call40 {a0 : Value} {h : PH} {R : AEnd → PH → Prop} (H : sh40 a0 h R) : ACalls Tryz.prog 40 #[a0] h R :=
  ACalls_of_den mixed Tryz.func40 s40 (by kernel_rfl) k40 (l40 R) (of_den (e40 a0 h R) H)

/- gavel/gavelref01.Int -/
noncomputable def c41 : Code := bodyOf Tryz.f41
def o41 : List (Nat × List (Nat × List Nat)) := []
def b41_3 (Kp : List PanicEntry → PH → Prop) (x0 : (Value × Value × Value) → PH → Prop) (xr : (Value × Value × Value) → PH → Prop) (f : Value × Value) (kn : (Value × Value) → (Value × Value × Value × Value × Value × Value) → PH → Prop) (s : Value × Value × Value × Value × Value × Value) (h : PH) : Prop :=
  vBin Tryz.prog .lss 3 s.2.2.2.2.2 (.int .i64 8) fun t12 =>
  dIf t12 (vBin Tryz.prog .add 3 f.2 s.2.2.2.2.2 fun t17 =>
  vLenStr f.1 fun t19 =>
  vBin Tryz.prog .geq 3 t17 t19 fun t20 =>
  dIf t20 (xr ((.int .i64 0), (.int .i64 0), (.int .i64 10)) h)
  (vBin Tryz.prog .add 3 f.2 s.2.2.2.2.2 fun t24 =>
  vIxStr f.1 t24 fun t25 =>
  vConvI .i64 t25 fun t26 =>
  vBin Tryz.prog .rem 3 t26 (.int .i64 128) fun t29 =>
  vBin Tryz.prog .mul 3 t29 s.2.2.2.2.1 fun t31 =>
  vBin Tryz.prog .add 3 s.2.2.2.1 t31 fun t32 =>
  vBin Tryz.prog .mul 3 s.2.2.2.2.1 (.int .i64 128) fun t34 =>
  vBin Tryz.prog .geq 3 t26 (.int .i64 128) fun t36 =>
  dIf t36 (vBin Tryz.prog .add 3 s.2.2.2.2.2 (.int .i64 1) fun t14 =>
  kn f (s.1, s.2.1, s.2.2.1, t32, t34, t14) h)
  (vBin Tryz.prog .eql 3 t26 (.int .i64 0) fun t38 =>
  gq (boolOf t38) true (fun K =>
  K s.2.2.2.2.2 h)
  (fun t40 h_1 =>
  gq (boolOf t38) true (fun K_1 =>
  vBin Tryz.prog .gtr 3 t40 (.int .i64 0) fun u =>
  K_1 u h_1)
  (fun t41 h_2 =>
  vPick t38 t41 (.bool false) fun t42 =>
  gq (boolOf t42) false (fun K_2 =>
  K_2 t32 h_2)
  (fun t44 h_3 =>
  gq (boolOf t42) false (fun K_3 =>
  vBin Tryz.prog .gtr 3 t44 (.int .i64 9007199254740992) fun u_1 =>
  K_3 u_1 h_3)
  (fun t45 h_4 =>
  vPick t42 (.bool true) t45 fun t46 =>
  dIf t46 (xr ((.int .i64 0), (.int .i64 0), (.int .i64 11)) h_4)
  (vBin Tryz.prog .add 3 f.2 s.2.2.2.2.2 fun t50 =>
  vBin Tryz.prog .add 3 t50 (.int .i64 1) fun t51 =>
  xr (t32, t51, (.int .i64 0)) h_4)) h_3) h_2) h_1) h)))
  (x0 (s.1, s.2.1, s.2.2.1) h)

def sh41 (a0 a1 : Value) (h : PH) (R : AEnd → PH → Prop) : Prop :=
  lf (b41_3 (fun c h => R (.pan c) h) (fun v h => exq (fun ρ => (ρ 4, ρ 5, ρ 6)) v (fun r h_1 =>
  R (.ret (.tuple #[(.int .i64 0), (.int .i64 0), (.int .i64 11)])) h_1) h) (fun v h => exq (fun ρ => (ρ 4, ρ 5, ρ 6)) v (fun r h_2 =>
  R (.ret (.tuple #[(r 4), (r 5), (r 6)])) h_2) h)) (a0, a1) ((.int .i64 0), (.int .i64 0), (.int .i64 0), (.int .i64 0), (.int .i64 1), (.int .i64 0)) h
def L41 (Kp : List PanicEntry → PH → Prop) : Loops := fun c Q ρ h =>
    sel (Nat.beq (loopId c) 3) (lf (b41_3 Kp (fun v h => exq (fun ρ => (ρ 4, ρ 5, ρ 6)) v (Q (.exit 0)) h) (fun v h => exq (fun ρ => (ρ 4, ρ 5, ρ 6)) v (Q .ret) h)) ((fun ρ => (ρ 0, ρ 1)) ρ) ((fun ρ => (ρ 4, ρ 5, ρ 6, ρ 7, ρ 8, ρ 9)) ρ) h)
    (False)
theorem B41_3 (Kp : List PanicEntry → PH → Prop) (KN : (Value × Value) → (Value × Value × Value × Value × Value × Value) → PH → Prop) (XX : Exit → (Value × Value × Value) → PH → Prop) (ρ : Env) (h : PH) :
    den Tryz.prog qf (ordOf o41) Kp (L41 Kp) (loopAt c41 0) (lq KN XX (fun ρ => (ρ 0, ρ 1)) (fun ρ => (ρ 4, ρ 5, ρ 6, ρ 7, ρ 8, ρ 9)) (fun ρ => (ρ 4, ρ 5, ρ 6))) ρ h = b41_3 Kp (XX (.exit 0)) (XX .ret) ((fun ρ => (ρ 0, ρ 1)) ρ) KN ((fun ρ => (ρ 4, ρ 5, ρ 6, ρ 7, ρ 8, ρ 9)) ρ) h := by kernel_rfl
theorem l41 (R : AEnd → PH → Prop) : LoopsOK Tryz.prog qf (ordOf o41) (fun c h => R (.pan c) h) (L41 (fun c h => R (.pan c) h)) c41 :=
  LoopsOK.mk 1 (by kernel_rfl) fun i hi Q ρ h H => match i, hi with
    | 0, _ => loop_gen (F := Value × Value) (S := Value × Value × Value × Value × Value × Value) (X := Value × Value × Value) (φ := (fun ρ => (ρ 0, ρ 1))) (π := (fun ρ => (ρ 4, ρ 5, ρ 6, ρ 7, ρ 8, ρ 9))) (ξ := (fun ρ => (ρ 4, ρ 5, ρ 6))) (B := (fun (XX : Exit → (Value × Value × Value) → PH → Prop) => b41_3 (fun c h => R (.pan c) h) (XX (.exit 0)) (XX .ret))) (B41_3 _) (of_den (by kernel_rfl) H)
    | n + 1, hi => absurd hi (by omega)
theorem e41 (a0 a1 : Value) (h : PH) (R : AEnd → PH → Prop) : denF Tryz.prog qf (ordOf o41) (L41 (fun c h => R (.pan c) h)) Tryz.f41.results.toList c41 #[a0, a1] h R = sh41 a0 a1 h R := by kernel_rfl
theorem k41 : codeOK Tryz.prog qf Tryz.f41.ntmps (ordOf o41) c41 = true := by kernel_rfl
theorem s41 : Tryz.f41.body = some c41 := by kernel_rfl
theorem call41 {a0 a1 : Value} {h : PH} {R : AEnd → PH → Prop} (H : sh41 a0 a1 h R) : ACalls Tryz.prog 41 #[a0, a1] h R :=
  ACalls_of_den mixed Tryz.func41 s41 (by kernel_rfl) k41 (l41 R) (of_den (e41 a0 a1 h R) H)

/- gavel/ledger.New -/
noncomputable def c43 : Code := bodyOf Tryz.f43
def o43 : List (Nat × List (Nat × List Nat)) := []
def sh43 (a0 a1 : Value) (h : PH) (R : AEnd → PH → Prop) : Prop :=
  vBin Tryz.prog .lss 3 a0 (.int .i64 1) fun t7 =>
  gq (boolOf t7) false (fun K =>
  K a0 h)
  (fun t9 h_1 =>
  gq (boolOf t7) false (fun K_1 =>
  vBin Tryz.prog .gtr 3 t9 (.int .i64 16) fun u =>
  K_1 u h_1)
  (fun t10 h_2 =>
  vPick t7 (.bool true) t10 fun t11 =>
  gq (boolOf t11) false (fun K_2 =>
  K_2 a1 h_2)
  (fun t13 h_3 =>
  gq (boolOf t11) false (fun K_3 =>
  vBin Tryz.prog .lss 3 t13 (.int .i64 1) fun u_1 =>
  K_3 u_1 h_3)
  (fun t14 h_4 =>
  vPick t11 (.bool true) t14 fun t15 =>
  gq (boolOf t15) false (fun K_4 =>
  K_4 a1 h_4)
  (fun t17 h_5 =>
  gq (boolOf t15) false (fun K_5 =>
  vBin Tryz.prog .gtr 3 t17 (.int .i64 4) fun u_2 =>
  K_5 u_2 h_5)
  (fun t18 h_6 =>
  vPick t15 (.bool true) t18 fun t19 =>
  dIf t19 (R (.ret (.tuple #[(.pointer none), (.int .i64 1)])) h_6)
  (vMakeS 132 12 104 #[.int .i64 0, .int .i64 0, .int .i64 0, .int .i64 0, .int .i64 0, .int .i64 0, .int .i64 0, .int .i64 0, .int .i64 0, .int .i64 0, .int .i64 0, .string ⟨#[]⟩] a0 a0 h_6 fun t22 h_7 =>
  vBuild [(0, 1), (1, 1)] #[.int .i64 0, .slice none 0 0] [(0, a1), (1, t22)] fun t23 =>
  vNew (Value.cells t23) 149 h_7 fun t24 h_8 =>
  R (.ret (.tuple #[t24, (.int .i64 0)])) h_8)) h_5) h_4) h_3) h_2) h_1) h
theorem l43 (R : AEnd → PH → Prop) : LoopsOK Tryz.prog qf (ordOf o43) (fun c h => R (.pan c) h) noLoops c43 := noLoops_ok (by kernel_rfl)
theorem e43 (a0 a1 : Value) (h : PH) (R : AEnd → PH → Prop) : denF Tryz.prog qf (ordOf o43) noLoops Tryz.f43.results.toList c43 #[a0, a1] h R = sh43 a0 a1 h R := by kernel_rfl
theorem k43 : codeOK Tryz.prog qf Tryz.f43.ntmps (ordOf o43) c43 = true := by kernel_rfl
theorem s43 : Tryz.f43.body = some c43 := by kernel_rfl
theorem call43 {a0 a1 : Value} {h : PH} {R : AEnd → PH → Prop} (H : sh43 a0 a1 h R) : ACalls Tryz.prog 43 #[a0, a1] h R :=
  ACalls_of_den mixed Tryz.func43 s43 (by kernel_rfl) k43 (l43 R) (of_den (e43 a0 a1 h R) H)

/- gavel/call.New -/
noncomputable def c44 : Code := bodyOf Tryz.f44
def o44 : List (Nat × List (Nat × List Nat)) := []
def sh44 (h : PH) (R : AEnd → PH → Prop) : Prop :=
  vBuild [(0, 1), (1, 1)] #[.slice none 0 0, .int .i64 0] [(1, (.int .i64 1))] fun t1 =>
  vNew (Value.cells t1) 152 h fun t2 h_1 =>
  R (.ret t2) h_1
theorem l44 (R : AEnd → PH → Prop) : LoopsOK Tryz.prog qf (ordOf o44) (fun c h => R (.pan c) h) noLoops c44 := noLoops_ok (by kernel_rfl)
theorem e44 (h : PH) (R : AEnd → PH → Prop) : denF Tryz.prog qf (ordOf o44) noLoops Tryz.f44.results.toList c44 #[] h R = sh44 h R := by kernel_rfl
theorem k44 : codeOK Tryz.prog qf Tryz.f44.ntmps (ordOf o44) c44 = true := by kernel_rfl
theorem s44 : Tryz.f44.body = some c44 := by kernel_rfl
theorem call44 {h : PH} {R : AEnd → PH → Prop} (H : sh44 h R) : ACalls Tryz.prog 44 #[] h R :=
  ACalls_of_den mixed Tryz.func44 s44 (by kernel_rfl) k44 (l44 R) (of_den (e44 h R) H)

/- gavel/gavelref09.act -/
/- gavel/gavelref09.Copy -/
/- gavel/gavelref01.Number -/
noncomputable def c47 : Code := bodyOf Tryz.f47
def o47 : List (Nat × List (Nat × List Nat)) := []
def b47_2 (Kp : List PanicEntry → PH → Prop) (x0 : (Value × Value) → PH → Prop) (f : Unit) (kn : (Unit) → (Value × Value) → PH → Prop) (s : Value × Value) (h : PH) : Prop :=
  vBin Tryz.prog .gtr 3 s.1 (.int .i64 127) fun t5 =>
  dIf t5 (vBin Tryz.prog .rem 3 s.1 (.int .i64 128) fun t8 =>
  vBin Tryz.prog .add 3 (.int .i64 128) t8 fun t9 =>
  vConvI .u8 t9 fun t10 =>
  (1 * 1 ≤ 2 ^ 24) ∧ vBuildS 5 1 1 #[.int .u8 0] [(0, t10)] h fun t11 h_1 =>
  (0 < 1) ∧ (0 < 1) ∧ (Array.size #[(.int .u8 0 : Value)] = 1) ∧ vAppend false 5 1 1 s.2 t11 h_1 fun t12 h_2 =>
  vBin Tryz.prog .quo 3 s.1 (.int .i64 128) fun t14 =>
  kn f (t14, t12) h_2)
  (x0 (s.1, s.2) h)

def sh47 (a0 : Value) (h : PH) (R : AEnd → PH → Prop) : Prop :=
  lf (b47_2 (fun c h => R (.pan c) h) (fun v h => exq (fun ρ => (ρ 0, ρ 3)) v (fun r h_1 =>
  vConvI .u8 (r 0) fun t17 =>
  (1 * 1 ≤ 2 ^ 24) ∧ vBuildS 5 1 1 #[.int .u8 0] [(0, t17)] h_1 fun t18 h_2 =>
  (0 < 1) ∧ (0 < 1) ∧ (Array.size #[(.int .u8 0 : Value)] = 1) ∧ vAppend false 5 1 1 (r 3) t18 h_2 fun t19 h_3 =>
  vConvBS t19 h_3 fun t20 =>
  R (.ret t20) h_3) h)) () (a0, (.slice none 0 0)) h
def L47 (Kp : List PanicEntry → PH → Prop) : Loops := fun c Q ρ h =>
    sel (Nat.beq (loopId c) 2) (lf (b47_2 Kp (fun v h => exq (fun ρ => (ρ 0, ρ 3)) v (Q (.exit 0)) h)) ((fun ρ => ()) ρ) ((fun ρ => (ρ 0, ρ 3)) ρ) h)
    (False)
theorem B47_2 (Kp : List PanicEntry → PH → Prop) (KN : (Unit) → (Value × Value) → PH → Prop) (XX : Exit → (Value × Value) → PH → Prop) (ρ : Env) (h : PH) :
    den Tryz.prog qf (ordOf o47) Kp (L47 Kp) (loopAt c47 0) (lq KN XX (fun ρ => ()) (fun ρ => (ρ 0, ρ 3)) (fun ρ => (ρ 0, ρ 3))) ρ h = b47_2 Kp (XX (.exit 0)) ((fun ρ => ()) ρ) KN ((fun ρ => (ρ 0, ρ 3)) ρ) h := by kernel_rfl
theorem l47 (R : AEnd → PH → Prop) : LoopsOK Tryz.prog qf (ordOf o47) (fun c h => R (.pan c) h) (L47 (fun c h => R (.pan c) h)) c47 :=
  LoopsOK.mk 1 (by kernel_rfl) fun i hi Q ρ h H => match i, hi with
    | 0, _ => loop_gen (F := Unit) (S := Value × Value) (X := Value × Value) (φ := (fun ρ => ())) (π := (fun ρ => (ρ 0, ρ 3))) (ξ := (fun ρ => (ρ 0, ρ 3))) (B := (fun (XX : Exit → (Value × Value) → PH → Prop) => b47_2 (fun c h => R (.pan c) h) (XX (.exit 0)))) (B47_2 _) (of_den (by kernel_rfl) H)
    | n + 1, hi => absurd hi (by omega)
theorem e47 (a0 : Value) (h : PH) (R : AEnd → PH → Prop) : denF Tryz.prog qf (ordOf o47) (L47 (fun c h => R (.pan c) h)) Tryz.f47.results.toList c47 #[a0] h R = sh47 a0 h R := by kernel_rfl
theorem k47 : codeOK Tryz.prog qf Tryz.f47.ntmps (ordOf o47) c47 = true := by kernel_rfl
theorem s47 : Tryz.f47.body = some c47 := by kernel_rfl
theorem call47 {a0 : Value} {h : PH} {R : AEnd → PH → Prop} (H : sh47 a0 h R) : ACalls Tryz.prog 47 #[a0] h R :=
  ACalls_of_den mixed Tryz.func47 s47 (by kernel_rfl) k47 (l47 R) (of_den (e47 a0 h R) H)

/- gavel/gavelref09.Account -/
/- (*gavel/ledger.Ledger).Totals -/
noncomputable def c50 : Code := bodyOf Tryz.f50
def o50 : List (Nat × List (Nat × List Nat)) := []
def b50_7 (Kp : List PanicEntry → PH → Prop) (x2 : (Value × Value × Value × Value × Value) → PH → Prop) (f : Value × Value × Value × Value × Value × Value) (kn : (Value × Value × Value × Value × Value × Value) → Value → PH → Prop) (s : Value) (h : PH) : Prop :=
  vBin Tryz.prog .lss 3 s (.int .i64 4) fun t28 =>
  dIf t28 (vIxAg none 4 1 f.2.2.2.2.2 s fun t30 =>
  vIxA 4 1 f.2.1 s fun t32 =>
  vLoad none t32 h fun t33 =>
  vBin Tryz.prog .add 3 t33 t30 fun t35 =>
  vIxA 4 1 f.2.1 s fun t36 =>
  vStore 1 t36 t35 h fun h_1 =>
  vBin Tryz.prog .add 3 s (.int .i64 1) fun t37 =>
  kn f t37 h_1)
  (x2 (f.1, f.2.1, f.2.2.1, f.2.2.2.1, f.2.2.2.2.1) h)

def b50_3 (Kp : List PanicEntry → PH → Prop) (x0 : (Value × Value) → PH → Prop) (f : Value × Value × Value) (kn : (Value × Value × Value) → (Value × Value) → PH → Prop) (s : Value × Value) (h : PH) : Prop :=
  vBin Tryz.prog .lss 3 s.2 f.2.2 fun t16 =>
  dIf t16 (vIxS 12 f.2.1 s.2 fun t17 =>
  vLoad (some 12) t17 h fun t18 =>
  vNew #[.int .i64 0, .int .i64 0, .int .i64 0, .int .i64 0, .int .i64 0, .int .i64 0, .int .i64 0, .int .i64 0, .int .i64 0, .int .i64 0, .int .i64 0, .string ⟨#[]⟩] 132 h fun t5 h_1 =>
  vStore 12 t5 t18 h_1 fun h_2 =>
  vFA 0 t5 fun t20 =>
  vFA 0 t20 fun t21 =>
  vLoad none t21 h_2 fun t22 =>
  vBin Tryz.prog .add 3 s.1 t22 fun t23 =>
  vFA 0 t5 fun t24 =>
  vFA 2 t24 fun t25 =>
  vLoad (some 4) t25 h_2 fun t26 =>
  lf (b50_7 Kp (fun v h => exq (fun ρ => (ρ 2, ρ 3, ρ 13, ρ 14, ρ 15)) v (fun r h_3 =>
  vBin Tryz.prog .add 3 (r 15) (.int .i64 1) fun t38 =>
  kn ((r 3), (r 13), (r 14)) ((r 2), t38) h_3) h)) (t23, f.1, f.2.1, f.2.2, s.2, t26) (.int .i64 0) h_2)
  (x0 (s.1, f.1) h)

def sh50 (a0 : Value) (h : PH) (R : AEnd → PH → Prop) : Prop :=
  vNew #[.int .i64 0, .int .i64 0, .int .i64 0, .int .i64 0] 59 h fun t3 h_1 =>
  vBin Tryz.prog .eql 81 a0 (.pointer none) fun t9 =>
  dIf t9 (vLoad (some 4) t3 h_1 fun rv =>
  R (.ret (.tuple #[(.int .i64 0), rv])) h_1)
  (vNil a0 fun t11 =>
  vFA 1 t11 fun t12 =>
  vLoad none t12 h_1 fun t13 =>
  vLenS t13 fun t14 =>
  lf (b50_3 (fun c h => R (.pan c) h) (fun v h => exq (fun ρ => (ρ 2, ρ 3)) v (fun r h_2 =>
  vLoad (some 4) (r 3) h_2 fun rv_1 =>
  R (.ret (.tuple #[(r 2), rv_1])) h_2) h)) (t3, t13, t14) ((.int .i64 0), (.int .i64 0)) h_1)
def L50 (Kp : List PanicEntry → PH → Prop) : Loops := fun c Q ρ h =>
    sel (Nat.beq (loopId c) 3) (lf (b50_3 Kp (fun v h => exq (fun ρ => (ρ 2, ρ 3)) v (Q (.exit 0)) h)) ((fun ρ => (ρ 3, ρ 13, ρ 14)) ρ) ((fun ρ => (ρ 2, ρ 15)) ρ) h)
    (sel (Nat.beq (loopId c) 7) (lf (b50_7 Kp (fun v h => exq (fun ρ => (ρ 2, ρ 3, ρ 13, ρ 14, ρ 15)) v (Q (.exit 2)) h)) ((fun ρ => (ρ 2, ρ 3, ρ 13, ρ 14, ρ 15, ρ 26)) ρ) ((fun ρ => ρ 27) ρ) h)
    (False))
theorem B50_3 (Kp : List PanicEntry → PH → Prop) (KN : (Value × Value × Value) → (Value × Value) → PH → Prop) (XX : Exit → (Value × Value) → PH → Prop) (ρ : Env) (h : PH) :
    den Tryz.prog qf (ordOf o50) Kp (L50 Kp) (loopAt c50 0) (lq KN XX (fun ρ => (ρ 3, ρ 13, ρ 14)) (fun ρ => (ρ 2, ρ 15)) (fun ρ => (ρ 2, ρ 3))) ρ h = b50_3 Kp (XX (.exit 0)) ((fun ρ => (ρ 3, ρ 13, ρ 14)) ρ) KN ((fun ρ => (ρ 2, ρ 15)) ρ) h := by kernel_rfl
theorem B50_7 (Kp : List PanicEntry → PH → Prop) (KN : (Value × Value × Value × Value × Value × Value) → (Value) → PH → Prop) (XX : Exit → (Value × Value × Value × Value × Value) → PH → Prop) (ρ : Env) (h : PH) :
    den Tryz.prog qf (ordOf o50) Kp (L50 Kp) (loopAt c50 1) (lq KN XX (fun ρ => (ρ 2, ρ 3, ρ 13, ρ 14, ρ 15, ρ 26)) (fun ρ => ρ 27) (fun ρ => (ρ 2, ρ 3, ρ 13, ρ 14, ρ 15))) ρ h = b50_7 Kp (XX (.exit 2)) ((fun ρ => (ρ 2, ρ 3, ρ 13, ρ 14, ρ 15, ρ 26)) ρ) KN ((fun ρ => ρ 27) ρ) h := by kernel_rfl
theorem l50 (R : AEnd → PH → Prop) : LoopsOK Tryz.prog qf (ordOf o50) (fun c h => R (.pan c) h) (L50 (fun c h => R (.pan c) h)) c50 :=
  LoopsOK.mk 2 (by kernel_rfl) fun i hi Q ρ h H => match i, hi with
    | 0, _ => loop_gen (F := Value × Value × Value) (S := Value × Value) (X := Value × Value) (φ := (fun ρ => (ρ 3, ρ 13, ρ 14))) (π := (fun ρ => (ρ 2, ρ 15))) (ξ := (fun ρ => (ρ 2, ρ 3))) (B := (fun (XX : Exit → (Value × Value) → PH → Prop) => b50_3 (fun c h => R (.pan c) h) (XX (.exit 0)))) (B50_3 _) (of_den (by kernel_rfl) H)
    | 1, _ => loop_gen (F := Value × Value × Value × Value × Value × Value) (S := Value) (X := Value × Value × Value × Value × Value) (φ := (fun ρ => (ρ 2, ρ 3, ρ 13, ρ 14, ρ 15, ρ 26))) (π := (fun ρ => ρ 27)) (ξ := (fun ρ => (ρ 2, ρ 3, ρ 13, ρ 14, ρ 15))) (B := (fun (XX : Exit → (Value × Value × Value × Value × Value) → PH → Prop) => b50_7 (fun c h => R (.pan c) h) (XX (.exit 2)))) (B50_7 _) (of_den (by kernel_rfl) H)
    | n + 2, hi => absurd hi (by omega)
theorem e50 (a0 : Value) (h : PH) (R : AEnd → PH → Prop) : denF Tryz.prog qf (ordOf o50) (L50 (fun c h => R (.pan c) h)) Tryz.f50.results.toList c50 #[a0] h R = sh50 a0 h R := by kernel_rfl
theorem k50 : codeOK Tryz.prog qf Tryz.f50.ntmps (ordOf o50) c50 = true := by kernel_rfl
theorem s50 : Tryz.f50.body = some c50 := by kernel_rfl
theorem call50 {a0 : Value} {h : PH} {R : AEnd → PH → Prop} (H : sh50 a0 h R) : ACalls Tryz.prog 50 #[a0] h R :=
  ACalls_of_den mixed Tryz.func50 s50 (by kernel_rfl) k50 (l50 R) (of_den (e50 a0 h R) H)

/- (*gavel/call.Book).Orders -/
noncomputable def c51 : Code := bodyOf Tryz.f51
def o51 : List (Nat × List (Nat × List Nat)) := []
def sh51 (a0 : Value) (h : PH) (R : AEnd → PH → Prop) : Prop :=
  vBin Tryz.prog .eql 93 a0 (.pointer none) fun t4 =>
  dIf t4 (R (.ret (.slice none 0 0)) h)
  (vNil a0 fun t6 =>
  vFA 0 t6 fun t7 =>
  vLoad none t7 h fun t8 =>
  vCall Tryz.prog 91 #[t8] h (fun t9 h_1 =>
  R (.ret t9) h_1)
  (fun c h => R (.pan c) h))
theorem l51 (R : AEnd → PH → Prop) : LoopsOK Tryz.prog qf (ordOf o51) (fun c h => R (.pan c) h) noLoops c51 := noLoops_ok (by kernel_rfl)
theorem e51 (a0 : Value) (h : PH) (R : AEnd → PH → Prop) : denF Tryz.prog qf (ordOf o51) noLoops Tryz.f51.results.toList c51 #[a0] h R = sh51 a0 h R := by kernel_rfl
theorem k51 : codeOK Tryz.prog qf Tryz.f51.ntmps (ordOf o51) c51 = true := by kernel_rfl
theorem s51 : Tryz.f51.body = some c51 := by kernel_rfl
theorem call51 {a0 : Value} {h : PH} {R : AEnd → PH → Prop} (H : sh51 a0 h R) : ACalls Tryz.prog 51 #[a0] h R :=
  ACalls_of_den mixed Tryz.func51 s51 (by kernel_rfl) k51 (l51 R) (of_den (e51 a0 h R) H)

/- gavel/ledger.Of -/
end Go.Pw
/- The functions of the program, told as predicate transformers: printed by wip/tools/shprint.py; each is what the model makes of the function, by the kernel's reckoning. -/
set_option linter.unusedVariables false
set_option maxRecDepth 100000
namespace Go.Pw
open Go Go.Proofs
/- gavel/call.Of -/
/- gavel/clock.Of -/
/- (*gavel/house.House).sound -/
/- (*gavel/ledger.Ledger).find -/
noncomputable def c57 : Code := bodyOf Tryz.f57
def o57 : List (Nat × List (Nat × List Nat)) := []
def sh57 (a0 a1 : Value) (h : PH) (R : AEnd → PH → Prop) : Prop :=
  vBin Tryz.prog .eql 81 a0 (.pointer none) fun t7 =>
  dIf t7 (R (.ret (.tuple #[(.pointer none), (.int .i64 1)])) h)
  (vBin Tryz.prog .lss 3 a1 (.int .i64 0) fun t9 =>
  gq (boolOf t9) false (fun K =>
  K a1 h)
  (fun t11 h_1 =>
  gq (boolOf t9) false (fun K_1 =>
  K_1 a0 h_1)
  (fun t12 h_2 =>
  gq (boolOf t9) false (fun K_2 =>
  vNil t12 fun u =>
  K_2 u h_2)
  (fun t13 h_3 =>
  gq (boolOf t9) false (fun K_3 =>
  vFA 1 t13 fun u_1 =>
  K_3 u_1 h_3)
  (fun t14 h_4 =>
  gq (boolOf t9) false (fun K_4 =>
  vLoad none t14 h_4 fun u_2 =>
  K_4 u_2 h_4)
  (fun t15 h_5 =>
  gq (boolOf t9) false (fun K_5 =>
  vLenS t15 fun u_3 =>
  K_5 u_3 h_5)
  (fun t16 h_6 =>
  gq (boolOf t9) false (fun K_6 =>
  vBin Tryz.prog .geq 3 t11 t16 fun u_4 =>
  K_6 u_4 h_6)
  (fun t17 h_7 =>
  vPick t9 (.bool true) t17 fun t18 =>
  dIf t18 (R (.ret (.tuple #[(.pointer none), (.int .i64 60)])) h_7)
  (vNil a0 fun t20 =>
  vFA 1 t20 fun t21 =>
  vLoad none t21 h_7 fun t22 =>
  vIxS 12 t22 a1 fun t24 =>
  R (.ret (.tuple #[t24, (.int .i64 0)])) h_7)) h_6) h_5) h_4) h_3) h_2) h_1) h)
theorem l57 (R : AEnd → PH → Prop) : LoopsOK Tryz.prog qf (ordOf o57) (fun c h => R (.pan c) h) noLoops c57 := noLoops_ok (by kernel_rfl)
theorem e57 (a0 a1 : Value) (h : PH) (R : AEnd → PH → Prop) : denF Tryz.prog qf (ordOf o57) noLoops Tryz.f57.results.toList c57 #[a0, a1] h R = sh57 a0 a1 h R := by kernel_rfl
theorem k57 : codeOK Tryz.prog qf Tryz.f57.ntmps (ordOf o57) c57 = true := by kernel_rfl
theorem s57 : Tryz.f57.body = some c57 := by kernel_rfl
theorem call57 {a0 a1 : Value} {h : PH} {R : AEnd → PH → Prop} (H : sh57 a0 a1 h R) : ACalls Tryz.prog 57 #[a0, a1] h R :=
  ACalls_of_den mixed Tryz.func57 s57 (by kernel_rfl) k57 (l57 R) (of_den (e57 a0 a1 h R) H)

/- gavel/wire.caught -/
noncomputable def c59 : Code := bodyOf Tryz.f59
def o59 : List (Nat × List (Nat × List Nat)) := []
def sh59 (a0 : Value) (h : PH) (R : AEnd → PH → Prop) : Prop :=
  vAssert Tryz.prog 20 178 a0 fun t7 =>
  vExt t7 0 fun t8 =>
  vExt t7 1 fun t9 =>
  dIf t9 (R (.ret t8) h)
  (R (.ret (.int .i64 11)) h)
theorem l59 (R : AEnd → PH → Prop) : LoopsOK Tryz.prog qf (ordOf o59) (fun c h => R (.pan c) h) noLoops c59 := noLoops_ok (by kernel_rfl)
theorem e59 (a0 : Value) (h : PH) (R : AEnd → PH → Prop) : denF Tryz.prog qf (ordOf o59) noLoops Tryz.f59.results.toList c59 #[a0] h R = sh59 a0 h R := by kernel_rfl
theorem k59 : codeOK Tryz.prog qf Tryz.f59.ntmps (ordOf o59) c59 = true := by kernel_rfl
theorem s59 : Tryz.f59.body = some c59 := by kernel_rfl
theorem call59 {a0 : Value} {h : PH} {R : AEnd → PH → Prop} (H : sh59 a0 h R) : ACalls Tryz.prog 59 #[a0] h R :=
  ACalls_of_den mixed Tryz.func59 s59 (by kernel_rfl) k59 (l59 R) (of_den (e59 a0 h R) H)

/- (*gavel/wire.reader).number -/
noncomputable def c60 : Code := bodyOf Tryz.f60
def o60 : List (Nat × List (Nat × List Nat)) := [(4, [(0, []), (1, []), (2, []), (3, []), (4, []), (5, []), (6, []), (7, []), (8, []), (9, [])]), (6, [(0, []), (1, []), (2, []), (3, []), (4, []), (5, []), (6, []), (7, []), (8, []), (9, []), (10, [])])]
def b60_4 (Kp : List PanicEntry → PH → Prop) (xr : Value → PH → Prop) (f : Value) (kn : (Value) → (Value × Value × Value) → PH → Prop) (s : Value × Value × Value) (h : PH) : Prop :=
  vNil f fun t9 =>
  vFA 1 t9 fun t10 =>
  vLoad none t10 h fun t11 =>
  vNil f fun t13 =>
  vFA 0 t13 fun t14 =>
  vLoad none t14 h fun t15 =>
  vLenStr t15 fun t16 =>
  vBin Tryz.prog .geq 3 t11 t16 fun t17 =>
  dIf t17 (vIface 178 (.int .i64 10) fun t18 =>
  vPanic t18 h Kp)
  (vNil f fun t20 =>
  vFA 0 t20 fun t21 =>
  vLoad none t21 h fun t22 =>
  vNil f fun t24 =>
  vFA 1 t24 fun t25 =>
  vLoad none t25 h fun t26 =>
  vIxStr t22 t26 fun t27 =>
  vConvI .i64 t27 fun t28 =>
  vNil f fun t30 =>
  vFA 1 t30 fun t31 =>
  vLoad none t31 h fun t32 =>
  vBin Tryz.prog .add 3 t32 (.int .i64 1) fun t33 =>
  vNil f fun t34 =>
  vFA 1 t34 fun t35 =>
  vStore 1 t35 t33 h fun h_1 =>
  vBin Tryz.prog .and 3 t28 (.int .i64 127) fun t38 =>
  vBin Tryz.prog .mul 3 (.int .i64 7) s.2.2 fun t40 =>
  vBin Tryz.prog .shl 3 t38 t40 fun t41 =>
  vBin Tryz.prog .or 3 s.2.1 t41 fun t42 =>
  vBin Tryz.prog .geq 3 t28 (.int .i64 128) fun t44 =>
  dIf t44 (vBin Tryz.prog .eql 3 s.2.2 (.int .i64 7) fun t46 =>
  dIf t46 (vIface 178 (.int .i64 11) fun t47 =>
  vPanic t47 h_1 Kp)
  (vBin Tryz.prog .add 3 s.2.2 (.int .i64 1) fun t7 =>
  kn f (s.1, t42, t7) h_1))
  (vBin Tryz.prog .eql 3 t28 (.int .i64 0) fun t49 =>
  gq (boolOf t49) true (fun K =>
  K s.2.2 h_1)
  (fun t51 h_2 =>
  gq (boolOf t49) true (fun K_1 =>
  vBin Tryz.prog .gtr 3 t51 (.int .i64 0) fun u =>
  K_1 u h_2)
  (fun t52 h_3 =>
  vPick t49 t52 (.bool false) fun t53 =>
  gq (boolOf t53) false (fun K_2 =>
  K_2 t42 h_3)
  (fun t55 h_4 =>
  gq (boolOf t53) false (fun K_3 =>
  vBin Tryz.prog .gtr 3 t55 (.int .i64 9007199254740992) fun u_1 =>
  K_3 u_1 h_4)
  (fun t56 h_5 =>
  vPick t53 (.bool true) t56 fun t57 =>
  dIf t57 (vIface 178 (.int .i64 11) fun t58 =>
  vPanic t58 h_5 Kp)
  (xr t42 h_5)) h_4) h_3) h_2) h_1))

def sh60 (a0 : Value) (h : PH) (R : AEnd → PH → Prop) : Prop :=
  lf (b60_4 (fun c h => R (.pan c) h) (fun v h => exq (fun ρ => ρ 2) v (fun r h_1 =>
  R (.ret (r 2)) h_1) h)) a0 ((.int .i64 0), (.int .i64 0), (.int .i64 0)) h
def L60 (Kp : List PanicEntry → PH → Prop) : Loops := fun c Q ρ h =>
    sel (Nat.beq (loopId c) 4) (lf (b60_4 Kp  (fun v h => exq (fun ρ => ρ 2) v (Q .ret) h)) ((fun ρ => ρ 0) ρ) ((fun ρ => (ρ 2, ρ 3, ρ 4)) ρ) h)
    (False)
theorem B60_4 (Kp : List PanicEntry → PH → Prop) (KN : (Value) → (Value × Value × Value) → PH → Prop) (XX : Exit → (Value) → PH → Prop) (ρ : Env) (h : PH) :
    den Tryz.prog qf (ordOf o60) Kp (L60 Kp) (loopAt c60 0) (lq KN XX (fun ρ => ρ 0) (fun ρ => (ρ 2, ρ 3, ρ 4)) (fun ρ => ρ 2)) ρ h = b60_4 Kp (XX .ret) ((fun ρ => ρ 0) ρ) KN ((fun ρ => (ρ 2, ρ 3, ρ 4)) ρ) h := by kernel_rfl
theorem l60 (R : AEnd → PH → Prop) : LoopsOK Tryz.prog qf (ordOf o60) (fun c h => R (.pan c) h) (L60 (fun c h => R (.pan c) h)) c60 :=
  LoopsOK.mk 1 (by kernel_rfl) fun i hi Q ρ h H => match i, hi with
    | 0, _ => loop_gen (F := Value) (S := Value × Value × Value) (X := Value) (φ := (fun ρ => ρ 0)) (π := (fun ρ => (ρ 2, ρ 3, ρ 4))) (ξ := (fun ρ => ρ 2)) (B := (fun (XX : Exit → (Value) → PH → Prop) => b60_4 (fun c h => R (.pan c) h) (XX .ret))) (B60_4 _) (of_den (by kernel_rfl) H)
    | n + 1, hi => absurd hi (by omega)
theorem e60 (a0 : Value) (h : PH) (R : AEnd → PH → Prop) : denF Tryz.prog qf (ordOf o60) (L60 (fun c h => R (.pan c) h)) Tryz.f60.results.toList c60 #[a0] h R = sh60 a0 h R := by kernel_rfl
theorem k60 : codeOK Tryz.prog qf Tryz.f60.ntmps (ordOf o60) c60 = true := by kernel_rfl
theorem s60 : Tryz.f60.body = some c60 := by kernel_rfl
theorem call60 {a0 : Value} {h : PH} {R : AEnd → PH → Prop} (H : sh60 a0 h R) : ACalls Tryz.prog 60 #[a0] h R :=
  ACalls_of_den mixed Tryz.func60 s60 (by kernel_rfl) k60 (l60 R) (of_den (e60 a0 h R) H)

/- (*gavel/wire.reader).bytes -/
noncomputable def c61 : Code := bodyOf Tryz.f61
def o61 : List (Nat × List (Nat × List Nat)) := [(1, [(0, []), (1, []), (2, []), (3, []), (4, []), (5, []), (6, []), (7, []), (8, []), (9, []), (10, []), (11, [])]), (4, [(0, []), (1, []), (2, []), (3, []), (4, []), (5, []), (6, []), (7, []), (8, []), (9, []), (10, []), (11, []), (12, []), (13, []), (14, []), (15, [])])]
def sh61 (a0 a1 : Value) (h : PH) (R : AEnd → PH → Prop) : Prop :=
  vNil a0 fun t7 =>
  vFA 0 t7 fun t8 =>
  vLoad none t8 h fun t9 =>
  vLenStr t9 fun t10 =>
  vNil a0 fun t12 =>
  vFA 1 t12 fun t13 =>
  vLoad none t13 h fun t14 =>
  vBin Tryz.prog .sub 3 t10 t14 fun t15 =>
  vBin Tryz.prog .gtr 3 a1 t15 fun t16 =>
  dIf t16 (vIface 178 (.int .i64 10) fun t17 =>
  vPanic t17 h (fun c h => R (.pan c) h))
  (vNil a0 fun t19 =>
  vFA 1 t19 fun t20 =>
  vLoad none t20 h fun t21 =>
  vBin Tryz.prog .add 3 t21 a1 fun t23 =>
  vNil a0 fun t24 =>
  vFA 1 t24 fun t25 =>
  vStore 1 t25 t23 h fun h_1 =>
  vNil a0 fun t27 =>
  vFA 0 t27 fun t28 =>
  vLoad none t28 h_1 fun t29 =>
  vNil a0 fun t31 =>
  vFA 1 t31 fun t32 =>
  vLoad none t32 h_1 fun t33 =>
  vBin Tryz.prog .sub 3 t33 a1 fun t35 =>
  vNil a0 fun t37 =>
  vFA 1 t37 fun t38 =>
  vLoad none t38 h_1 fun t39 =>
  vSlStr (some t35) (some t39) t29 fun t40 =>
  R (.ret t40) h_1)
theorem l61 (R : AEnd → PH → Prop) : LoopsOK Tryz.prog qf (ordOf o61) (fun c h => R (.pan c) h) noLoops c61 := noLoops_ok (by kernel_rfl)
theorem e61 (a0 a1 : Value) (h : PH) (R : AEnd → PH → Prop) : denF Tryz.prog qf (ordOf o61) noLoops Tryz.f61.results.toList c61 #[a0, a1] h R = sh61 a0 a1 h R := by kernel_rfl
theorem k61 : codeOK Tryz.prog qf Tryz.f61.ntmps (ordOf o61) c61 = true := by kernel_rfl
theorem s61 : Tryz.f61.body = some c61 := by kernel_rfl
theorem call61 {a0 a1 : Value} {h : PH} {R : AEnd → PH → Prop} (H : sh61 a0 a1 h R) : ACalls Tryz.prog 61 #[a0, a1] h R :=
  ACalls_of_den mixed Tryz.func61 s61 (by kernel_rfl) k61 (l61 R) (of_den (e61 a0 a1 h R) H)

/- (*gavel/wire.reader).end -/
noncomputable def c62 : Code := bodyOf Tryz.f62
def o62 : List (Nat × List (Nat × List Nat)) := [(0, [(0, []), (1, []), (2, []), (3, []), (4, []), (5, []), (6, []), (7, []), (8, []), (9, [])])]
def sh62 (a0 : Value) (h : PH) (R : AEnd → PH → Prop) : Prop :=
  vNil a0 fun t3 =>
  vFA 1 t3 fun t4 =>
  vLoad none t4 h fun t5 =>
  vNil a0 fun t7 =>
  vFA 0 t7 fun t8 =>
  vLoad none t8 h fun t9 =>
  vLenStr t9 fun t10 =>
  vBin Tryz.prog .lss 3 t5 t10 fun t11 =>
  dIf t11 (vIface 178 (.int .i64 12) fun t12 =>
  vPanic t12 h (fun c h => R (.pan c) h))
  (R (.ret (.tuple #[])) h)
theorem l62 (R : AEnd → PH → Prop) : LoopsOK Tryz.prog qf (ordOf o62) (fun c h => R (.pan c) h) noLoops c62 := noLoops_ok (by kernel_rfl)
theorem e62 (a0 : Value) (h : PH) (R : AEnd → PH → Prop) : denF Tryz.prog qf (ordOf o62) noLoops Tryz.f62.results.toList c62 #[a0] h R = sh62 a0 h R := by kernel_rfl
theorem k62 : codeOK Tryz.prog qf Tryz.f62.ntmps (ordOf o62) c62 = true := by kernel_rfl
theorem s62 : Tryz.f62.body = some c62 := by kernel_rfl
theorem call62 {a0 : Value} {h : PH} {R : AEnd → PH → Prop} (H : sh62 a0 h R) : ACalls Tryz.prog 62 #[a0] h R :=
  ACalls_of_den mixed Tryz.func62 s62 (by kernel_rfl) k62 (l62 R) (of_den (e62 a0 h R) H)

/- (*gavel/house.House).tick -/
noncomputable def c63 : Code := bodyOf Tryz.f63
def o63 : List (Nat × List (Nat × List Nat)) := []
def b63_5 (Kp : List PanicEntry → PH → Prop) (x0 : Value → PH → Prop) (f : Value × Value) (kn : (Value × Value) → Value → PH → Prop) (s : Value) (h : PH) : Prop :=
  vBin Tryz.prog .lss 3 s f.2 fun t26 =>
  dIf t26 (vCall Tryz.prog 103 #[f.1, s] h (fun t30 h_1 =>
  vCall Tryz.prog 104 #[f.1, s] h_1 (fun t33 h_2 =>
  vBin Tryz.prog .add 3 s (.int .i64 1) fun t34 =>
  kn f t34 h_2)
  Kp)
  Kp)
  (x0 f.1 h)

def sh63 (a0 a1 a2 : Value) (h : PH) (R : AEnd → PH → Prop) : Prop :=
  vNew (Value.cells a2) 25 h fun t5 h_1 =>
  vNil a0 fun t10 =>
  vFA 3 t10 fun t11 =>
  vLoad none t11 h_1 fun t12 =>
  vBin Tryz.prog .eql 3 t12 (.int .i64 9007199254740992) fun t13 =>
  dIf t13 (R (.ret (.tuple #[(.int .i64 0), (.int .i64 2)])) h_1)
  (vNil a0 fun t15 =>
  vFA 3 t15 fun t16 =>
  vLoad none t16 h_1 fun t17 =>
  vBin Tryz.prog .add 3 t17 (.int .i64 1) fun t18 =>
  vNil a0 fun t19 =>
  vFA 3 t19 fun t20 =>
  vStore 1 t20 t18 h_1 fun h_2 =>
  vNil a0 fun t22 =>
  vFA 2 t22 fun t23 =>
  vLoad none t23 h_2 fun t24 =>
  lf (b63_5 (fun c h => R (.pan c) h) (fun v h => exq (fun ρ => ρ 0) v (fun r h_3 =>
  vNil (r 0) fun t36 =>
  vFA 3 t36 fun t37 =>
  vLoad none t37 h_3 fun t38 =>
  R (.ret (.tuple #[t38, (.int .i64 0)])) h_3) h)) (a0, t24) (.int .i64 0) h_2)
def L63 (Kp : List PanicEntry → PH → Prop) : Loops := fun c Q ρ h =>
    sel (Nat.beq (loopId c) 5) (lf (b63_5 Kp (fun v h => exq (fun ρ => ρ 0) v (Q (.exit 0)) h)) ((fun ρ => (ρ 0, ρ 24)) ρ) ((fun ρ => ρ 25) ρ) h)
    (False)
theorem B63_5 (Kp : List PanicEntry → PH → Prop) (KN : (Value × Value) → (Value) → PH → Prop) (XX : Exit → (Value) → PH → Prop) (ρ : Env) (h : PH) :
    den Tryz.prog qf (ordOf o63) Kp (L63 Kp) (loopAt c63 0) (lq KN XX (fun ρ => (ρ 0, ρ 24)) (fun ρ => ρ 25) (fun ρ => ρ 0)) ρ h = b63_5 Kp (XX (.exit 0)) ((fun ρ => (ρ 0, ρ 24)) ρ) KN ((fun ρ => ρ 25) ρ) h := by kernel_rfl
theorem l63 (R : AEnd → PH → Prop) : LoopsOK Tryz.prog qf (ordOf o63) (fun c h => R (.pan c) h) (L63 (fun c h => R (.pan c) h)) c63 :=
  LoopsOK.mk 1 (by kernel_rfl) fun i hi Q ρ h H => match i, hi with
    | 0, _ => loop_gen (F := Value × Value) (S := Value) (X := Value) (φ := (fun ρ => (ρ 0, ρ 24))) (π := (fun ρ => ρ 25)) (ξ := (fun ρ => ρ 0)) (B := (fun (XX : Exit → (Value) → PH → Prop) => b63_5 (fun c h => R (.pan c) h) (XX (.exit 0)))) (B63_5 _) (of_den (by kernel_rfl) H)
    | n + 1, hi => absurd hi (by omega)
theorem e63 (a0 a1 a2 : Value) (h : PH) (R : AEnd → PH → Prop) : denF Tryz.prog qf (ordOf o63) (L63 (fun c h => R (.pan c) h)) Tryz.f63.results.toList c63 #[a0, a1, a2] h R = sh63 a0 a1 a2 h R := by kernel_rfl
theorem k63 : codeOK Tryz.prog qf Tryz.f63.ntmps (ordOf o63) c63 = true := by kernel_rfl
theorem s63 : Tryz.f63.body = some c63 := by kernel_rfl
theorem call63 {a0 a1 a2 : Value} {h : PH} {R : AEnd → PH → Prop} (H : sh63 a0 a1 a2 h R) : ACalls Tryz.prog 63 #[a0, a1, a2] h R :=
  ACalls_of_den mixed Tryz.func63 s63 (by kernel_rfl) k63 (l63 R) (of_den (e63 a0 a1 a2 h R) H)

/- gavel/house.acts$1 -/
noncomputable def c64 : Code := bodyOf Tryz.f64
def o64 : List (Nat × List (Nat × List Nat)) := [(1, [(0, []), (1, []), (2, []), (3, []), (4, []), (5, []), (6, []), (7, []), (8, []), (9, [])])]
def sh64 (a0 a1 a2 : Value) (h : PH) (R : AEnd → PH → Prop) : Prop :=
  vNew (Value.cells a2) 25 h fun t5 h_1 =>
  vNil a0 fun t9 =>
  vFA 0 t9 fun t10 =>
  vLoad none t10 h_1 fun t11 =>
  vFA 2 t5 fun t13 =>
  vLoad none t13 h_1 fun t14 =>
  vCall Tryz.prog 65 #[t11, a1, t14] h_1 (fun t15 h_2 =>
  R (.ret (.tuple #[(.int .i64 0), t15])) h_2)
  (fun c h => R (.pan c) h)
theorem l64 (R : AEnd → PH → Prop) : LoopsOK Tryz.prog qf (ordOf o64) (fun c h => R (.pan c) h) noLoops c64 := noLoops_ok (by kernel_rfl)
theorem e64 (a0 a1 a2 : Value) (h : PH) (R : AEnd → PH → Prop) : denF Tryz.prog qf (ordOf o64) noLoops Tryz.f64.results.toList c64 #[a0, a1, a2] h R = sh64 a0 a1 a2 h R := by kernel_rfl
theorem k64 : codeOK Tryz.prog qf Tryz.f64.ntmps (ordOf o64) c64 = true := by kernel_rfl
theorem s64 : Tryz.f64.body = some c64 := by kernel_rfl
theorem call64 {a0 a1 a2 : Value} {h : PH} {R : AEnd → PH → Prop} (H : sh64 a0 a1 a2 h R) : ACalls Tryz.prog 64 #[a0, a1, a2] h R :=
  ACalls_of_den mixed Tryz.func64 s64 (by kernel_rfl) k64 (l64 R) (of_den (e64 a0 a1 a2 h R) H)

/- (*gavel/ledger.Ledger).Pay -/
noncomputable def c65 : Code := bodyOf Tryz.f65
def o65 : List (Nat × List (Nat × List Nat)) := []
def sh65 (a0 a1 a2 : Value) (h : PH) (R : AEnd → PH → Prop) : Prop :=
  vCall Tryz.prog 105 #[a0, a1, (.int .i64 0), a2] h (fun t15 h_1 =>
  vExt t15 0 fun t16 =>
  vExt t15 1 fun t17 =>
  vBin Tryz.prog .neq 30 t17 (.int .i64 0) fun t19 =>
  dIf t19 (R (.ret t17) h_1)
  (vCall Tryz.prog 50 #[a0] h_1 (fun t23 h_2 =>
  vExt t23 0 fun t24 =>
  vExt t23 1 fun t25 =>
  vNew #[.int .i64 0, .int .i64 0, .int .i64 0, .int .i64 0] 59 h_2 fun t10 h_3 =>
  vStore 4 t10 t25 h_3 fun h_4 =>
  vBin Tryz.prog .add 3 t24 a2 fun t28 =>
  vBin Tryz.prog .gtr 3 t28 (.int .i64 1099511627776) fun t29 =>
  dIf t29 (R (.ret (.int .i64 62)) h_4)
  (vNil t16 fun t31 =>
  vFA 0 t31 fun t32 =>
  vFA 0 t32 fun t33 =>
  vLoad none t33 h_4 fun t34 =>
  vBin Tryz.prog .add 3 t34 a2 fun t36 =>
  vNil t16 fun t37 =>
  vFA 0 t37 fun t38 =>
  vFA 0 t38 fun t39 =>
  vStore 1 t39 t36 h_4 fun h_5 =>
  R (.ret (.int .i64 0)) h_5))
  (fun c h => R (.pan c) h)))
  (fun c h => R (.pan c) h)
theorem l65 (R : AEnd → PH → Prop) : LoopsOK Tryz.prog qf (ordOf o65) (fun c h => R (.pan c) h) noLoops c65 := noLoops_ok (by kernel_rfl)
theorem e65 (a0 a1 a2 : Value) (h : PH) (R : AEnd → PH → Prop) : denF Tryz.prog qf (ordOf o65) noLoops Tryz.f65.results.toList c65 #[a0, a1, a2] h R = sh65 a0 a1 a2 h R := by kernel_rfl
theorem k65 : codeOK Tryz.prog qf Tryz.f65.ntmps (ordOf o65) c65 = true := by kernel_rfl
theorem s65 : Tryz.f65.body = some c65 := by kernel_rfl
theorem call65 {a0 a1 a2 : Value} {h : PH} {R : AEnd → PH → Prop} (H : sh65 a0 a1 a2 h R) : ACalls Tryz.prog 65 #[a0, a1, a2] h R :=
  ACalls_of_den mixed Tryz.func65 s65 (by kernel_rfl) k65 (l65 R) (of_den (e65 a0 a1 a2 h R) H)

/- gavel/house.acts$2 -/
noncomputable def c66 : Code := bodyOf Tryz.f66
def o66 : List (Nat × List (Nat × List Nat)) := [(1, [(0, []), (1, []), (2, []), (3, []), (4, []), (5, []), (6, []), (7, []), (8, []), (9, [])])]
def sh66 (a0 a1 a2 : Value) (h : PH) (R : AEnd → PH → Prop) : Prop :=
  vNew (Value.cells a2) 25 h fun t5 h_1 =>
  vNil a0 fun t9 =>
  vFA 0 t9 fun t10 =>
  vLoad none t10 h_1 fun t11 =>
  vFA 2 t5 fun t13 =>
  vLoad none t13 h_1 fun t14 =>
  vCall Tryz.prog 67 #[t11, a1, t14] h_1 (fun t15 h_2 =>
  R (.ret (.tuple #[(.int .i64 0), t15])) h_2)
  (fun c h => R (.pan c) h)
theorem l66 (R : AEnd → PH → Prop) : LoopsOK Tryz.prog qf (ordOf o66) (fun c h => R (.pan c) h) noLoops c66 := noLoops_ok (by kernel_rfl)
theorem e66 (a0 a1 a2 : Value) (h : PH) (R : AEnd → PH → Prop) : denF Tryz.prog qf (ordOf o66) noLoops Tryz.f66.results.toList c66 #[a0, a1, a2] h R = sh66 a0 a1 a2 h R := by kernel_rfl
theorem k66 : codeOK Tryz.prog qf Tryz.f66.ntmps (ordOf o66) c66 = true := by kernel_rfl
theorem s66 : Tryz.f66.body = some c66 := by kernel_rfl
theorem call66 {a0 a1 a2 : Value} {h : PH} {R : AEnd → PH → Prop} (H : sh66 a0 a1 a2 h R) : ACalls Tryz.prog 66 #[a0, a1, a2] h R :=
  ACalls_of_den mixed Tryz.func66 s66 (by kernel_rfl) k66 (l66 R) (of_den (e66 a0 a1 a2 h R) H)

end Go.Pw
/- The functions of the program, told as predicate transformers: printed by wip/tools/shprint.py; each is what the model makes of the function, by the kernel's reckoning. -/
set_option linter.unusedVariables false
set_option maxRecDepth 100000
namespace Go.Pw
open Go Go.Proofs
/- (*gavel/ledger.Ledger).Take -/
noncomputable def c67 : Code := bodyOf Tryz.f67
def o67 : List (Nat × List (Nat × List Nat)) := [(4, [(0, []), (1, []), (2, []), (3, []), (4, []), (5, []), (6, []), (7, []), (8, []), (9, []), (10, []), (11, []), (12, [])])]
def sh67 (a0 a1 a2 : Value) (h : PH) (R : AEnd → PH → Prop) : Prop :=
  vCall Tryz.prog 105 #[a0, a1, (.int .i64 0), a2] h (fun t13 h_1 =>
  vExt t13 0 fun t14 =>
  vExt t13 1 fun t15 =>
  vBin Tryz.prog .neq 30 t15 (.int .i64 0) fun t17 =>
  dIf t17 (R (.ret t15) h_1)
  (vNil t14 fun t20 =>
  vFA 0 t20 fun t21 =>
  vFA 0 t21 fun t22 =>
  vLoad none t22 h_1 fun t23 =>
  vNil t14 fun t25 =>
  vFA 0 t25 fun t26 =>
  vFA 1 t26 fun t27 =>
  vLoad none t27 h_1 fun t28 =>
  vBin Tryz.prog .sub 3 t23 t28 fun t29 =>
  vBin Tryz.prog .lss 3 t29 a2 fun t31 =>
  dIf t31 (R (.ret (.int .i64 61)) h_1)
  (vNil t14 fun t33 =>
  vFA 0 t33 fun t34 =>
  vFA 0 t34 fun t35 =>
  vLoad none t35 h_1 fun t36 =>
  vBin Tryz.prog .sub 3 t36 a2 fun t38 =>
  vNil t14 fun t39 =>
  vFA 0 t39 fun t40 =>
  vFA 0 t40 fun t41 =>
  vStore 1 t41 t38 h_1 fun h_2 =>
  R (.ret (.int .i64 0)) h_2)))
  (fun c h => R (.pan c) h)
theorem l67 (R : AEnd → PH → Prop) : LoopsOK Tryz.prog qf (ordOf o67) (fun c h => R (.pan c) h) noLoops c67 := noLoops_ok (by kernel_rfl)
theorem e67 (a0 a1 a2 : Value) (h : PH) (R : AEnd → PH → Prop) : denF Tryz.prog qf (ordOf o67) noLoops Tryz.f67.results.toList c67 #[a0, a1, a2] h R = sh67 a0 a1 a2 h R := by kernel_rfl
theorem k67 : codeOK Tryz.prog qf Tryz.f67.ntmps (ordOf o67) c67 = true := by kernel_rfl
theorem s67 : Tryz.f67.body = some c67 := by kernel_rfl
theorem call67 {a0 a1 a2 : Value} {h : PH} {R : AEnd → PH → Prop} (H : sh67 a0 a1 a2 h R) : ACalls Tryz.prog 67 #[a0, a1, a2] h R :=
  ACalls_of_den mixed Tryz.func67 s67 (by kernel_rfl) k67 (l67 R) (of_den (e67 a0 a1 a2 h R) H)

/- gavel/house.acts$3 -/
noncomputable def c68 : Code := bodyOf Tryz.f68
def o68 : List (Nat × List (Nat × List Nat)) := [(1, [(0, []), (1, []), (2, []), (3, []), (4, []), (5, []), (6, []), (7, []), (8, []), (9, []), (10, []), (11, [])])]
def sh68 (a0 a1 a2 : Value) (h : PH) (R : AEnd → PH → Prop) : Prop :=
  vNew (Value.cells a2) 25 h fun t5 h_1 =>
  vNil a0 fun t9 =>
  vFA 0 t9 fun t10 =>
  vLoad none t10 h_1 fun t11 =>
  vFA 1 t5 fun t13 =>
  vLoad none t13 h_1 fun t14 =>
  vFA 2 t5 fun t15 =>
  vLoad none t15 h_1 fun t16 =>
  vCall Tryz.prog 69 #[t11, a1, t14, t16] h_1 (fun t17 h_2 =>
  R (.ret (.tuple #[(.int .i64 0), t17])) h_2)
  (fun c h => R (.pan c) h)
theorem l68 (R : AEnd → PH → Prop) : LoopsOK Tryz.prog qf (ordOf o68) (fun c h => R (.pan c) h) noLoops c68 := noLoops_ok (by kernel_rfl)
theorem e68 (a0 a1 a2 : Value) (h : PH) (R : AEnd → PH → Prop) : denF Tryz.prog qf (ordOf o68) noLoops Tryz.f68.results.toList c68 #[a0, a1, a2] h R = sh68 a0 a1 a2 h R := by kernel_rfl
theorem k68 : codeOK Tryz.prog qf Tryz.f68.ntmps (ordOf o68) c68 = true := by kernel_rfl
theorem s68 : Tryz.f68.body = some c68 := by kernel_rfl
theorem call68 {a0 a1 a2 : Value} {h : PH} {R : AEnd → PH → Prop} (H : sh68 a0 a1 a2 h R) : ACalls Tryz.prog 68 #[a0, a1, a2] h R :=
  ACalls_of_den mixed Tryz.func68 s68 (by kernel_rfl) k68 (l68 R) (of_den (e68 a0 a1 a2 h R) H)

/- (*gavel/ledger.Ledger).Store -/
noncomputable def c69 : Code := bodyOf Tryz.f69
def o69 : List (Nat × List (Nat × List Nat)) := [(7, [(0, []), (1, []), (2, []), (3, []), (4, []), (5, []), (6, []), (7, []), (8, []), (9, []), (10, []), (11, []), (12, []), (13, [])])]
def sh69 (a0 a1 a2 a3 : Value) (h : PH) (R : AEnd → PH → Prop) : Prop :=
  vCall Tryz.prog 105 #[a0, a1, a2, a3] h (fun t18 h_1 =>
  vExt t18 0 fun t19 =>
  vExt t18 1 fun t20 =>
  vBin Tryz.prog .neq 30 t20 (.int .i64 0) fun t22 =>
  dIf t22 (R (.ret t20) h_1)
  (vCall Tryz.prog 50 #[a0] h_1 (fun t26 h_2 =>
  vExt t26 0 fun t27 =>
  vExt t26 1 fun t28 =>
  vNew #[.int .i64 0, .int .i64 0, .int .i64 0, .int .i64 0] 59 h_2 fun t12 h_3 =>
  vStore 4 t12 t28 h_3 fun h_4 =>
  vIxA 4 1 t12 a2 fun t30 =>
  vLoad none t30 h_4 fun t31 =>
  vBin Tryz.prog .add 3 t31 a3 fun t33 =>
  vBin Tryz.prog .gtr 3 t33 (.int .i64 1099511627776) fun t34 =>
  dIf t34 (R (.ret (.int .i64 62)) h_4)
  (vNil t19 fun t37 =>
  vFA 0 t37 fun t38 =>
  vFA 2 t38 fun t39 =>
  vIxA 4 1 t39 a2 fun t40 =>
  vLoad none t40 h_4 fun t41 =>
  vBin Tryz.prog .add 3 t41 a3 fun t43 =>
  vNil t19 fun t44 =>
  vFA 0 t44 fun t45 =>
  vFA 2 t45 fun t46 =>
  vIxA 4 1 t46 a2 fun t47 =>
  vStore 1 t47 t43 h_4 fun h_5 =>
  R (.ret (.int .i64 0)) h_5))
  (fun c h => R (.pan c) h)))
  (fun c h => R (.pan c) h)
theorem l69 (R : AEnd → PH → Prop) : LoopsOK Tryz.prog qf (ordOf o69) (fun c h => R (.pan c) h) noLoops c69 := noLoops_ok (by kernel_rfl)
theorem e69 (a0 a1 a2 a3 : Value) (h : PH) (R : AEnd → PH → Prop) : denF Tryz.prog qf (ordOf o69) noLoops Tryz.f69.results.toList c69 #[a0, a1, a2, a3] h R = sh69 a0 a1 a2 a3 h R := by kernel_rfl
theorem k69 : codeOK Tryz.prog qf Tryz.f69.ntmps (ordOf o69) c69 = true := by kernel_rfl
theorem s69 : Tryz.f69.body = some c69 := by kernel_rfl
theorem call69 {a0 a1 a2 a3 : Value} {h : PH} {R : AEnd → PH → Prop} (H : sh69 a0 a1 a2 a3 h R) : ACalls Tryz.prog 69 #[a0, a1, a2, a3] h R :=
  ACalls_of_den mixed Tryz.func69 s69 (by kernel_rfl) k69 (l69 R) (of_den (e69 a0 a1 a2 a3 h R) H)

/- gavel/house.acts$4 -/
noncomputable def c70 : Code := bodyOf Tryz.f70
def o70 : List (Nat × List (Nat × List Nat)) := [(1, [(0, []), (1, []), (2, []), (3, []), (4, []), (5, []), (6, []), (7, []), (8, []), (9, []), (10, []), (11, [])])]
def sh70 (a0 a1 a2 : Value) (h : PH) (R : AEnd → PH → Prop) : Prop :=
  vNew (Value.cells a2) 25 h fun t5 h_1 =>
  vNil a0 fun t9 =>
  vFA 0 t9 fun t10 =>
  vLoad none t10 h_1 fun t11 =>
  vFA 1 t5 fun t13 =>
  vLoad none t13 h_1 fun t14 =>
  vFA 2 t5 fun t15 =>
  vLoad none t15 h_1 fun t16 =>
  vCall Tryz.prog 71 #[t11, a1, t14, t16] h_1 (fun t17 h_2 =>
  R (.ret (.tuple #[(.int .i64 0), t17])) h_2)
  (fun c h => R (.pan c) h)
theorem l70 (R : AEnd → PH → Prop) : LoopsOK Tryz.prog qf (ordOf o70) (fun c h => R (.pan c) h) noLoops c70 := noLoops_ok (by kernel_rfl)
theorem e70 (a0 a1 a2 : Value) (h : PH) (R : AEnd → PH → Prop) : denF Tryz.prog qf (ordOf o70) noLoops Tryz.f70.results.toList c70 #[a0, a1, a2] h R = sh70 a0 a1 a2 h R := by kernel_rfl
theorem k70 : codeOK Tryz.prog qf Tryz.f70.ntmps (ordOf o70) c70 = true := by kernel_rfl
theorem s70 : Tryz.f70.body = some c70 := by kernel_rfl
theorem call70 {a0 a1 a2 : Value} {h : PH} {R : AEnd → PH → Prop} (H : sh70 a0 a1 a2 h R) : ACalls Tryz.prog 70 #[a0, a1, a2] h R :=
  ACalls_of_den mixed Tryz.func70 s70 (by kernel_rfl) k70 (l70 R) (of_den (e70 a0 a1 a2 h R) H)

/- (*gavel/ledger.Ledger).Fetch -/
noncomputable def c71 : Code := bodyOf Tryz.f71
def o71 : List (Nat × List (Nat × List Nat)) := [(4, [(0, []), (1, []), (2, []), (3, []), (4, []), (5, []), (6, []), (7, []), (8, []), (9, []), (10, []), (11, []), (12, []), (13, []), (14, []), (15, []), (16, [])]), (6, [(0, []), (1, []), (2, []), (3, []), (4, []), (5, []), (6, []), (7, []), (8, []), (9, []), (10, []), (11, []), (12, []), (13, [])])]
def sh71 (a0 a1 a2 a3 : Value) (h : PH) (R : AEnd → PH → Prop) : Prop :=
  vCall Tryz.prog 105 #[a0, a1, a2, a3] h (fun t16 h_1 =>
  vExt t16 0 fun t17 =>
  vExt t16 1 fun t18 =>
  vBin Tryz.prog .neq 30 t18 (.int .i64 0) fun t20 =>
  dIf t20 (R (.ret t18) h_1)
  (vNil t17 fun t24 =>
  vFA 0 t24 fun t25 =>
  vFA 2 t25 fun t26 =>
  vIxA 4 1 t26 a2 fun t27 =>
  vLoad none t27 h_1 fun t28 =>
  vNil t17 fun t31 =>
  vFA 0 t31 fun t32 =>
  vFA 6 t32 fun t33 =>
  vIxA 4 1 t33 a2 fun t34 =>
  vLoad none t34 h_1 fun t35 =>
  vBin Tryz.prog .sub 3 t28 t35 fun t36 =>
  vBin Tryz.prog .lss 3 t36 a3 fun t38 =>
  dIf t38 (R (.ret (.int .i64 61)) h_1)
  (vNil t17 fun t41 =>
  vFA 0 t41 fun t42 =>
  vFA 2 t42 fun t43 =>
  vIxA 4 1 t43 a2 fun t44 =>
  vLoad none t44 h_1 fun t45 =>
  vBin Tryz.prog .sub 3 t45 a3 fun t47 =>
  vNil t17 fun t48 =>
  vFA 0 t48 fun t49 =>
  vFA 2 t49 fun t50 =>
  vIxA 4 1 t50 a2 fun t51 =>
  vStore 1 t51 t47 h_1 fun h_2 =>
  R (.ret (.int .i64 0)) h_2)))
  (fun c h => R (.pan c) h)
theorem l71 (R : AEnd → PH → Prop) : LoopsOK Tryz.prog qf (ordOf o71) (fun c h => R (.pan c) h) noLoops c71 := noLoops_ok (by kernel_rfl)
theorem e71 (a0 a1 a2 a3 : Value) (h : PH) (R : AEnd → PH → Prop) : denF Tryz.prog qf (ordOf o71) noLoops Tryz.f71.results.toList c71 #[a0, a1, a2, a3] h R = sh71 a0 a1 a2 a3 h R := by kernel_rfl
theorem k71 : codeOK Tryz.prog qf Tryz.f71.ntmps (ordOf o71) c71 = true := by kernel_rfl
theorem s71 : Tryz.f71.body = some c71 := by kernel_rfl
theorem call71 {a0 a1 a2 a3 : Value} {h : PH} {R : AEnd → PH → Prop} (H : sh71 a0 a1 a2 a3 h R) : ACalls Tryz.prog 71 #[a0, a1, a2, a3] h R :=
  ACalls_of_den mixed Tryz.func71 s71 (by kernel_rfl) k71 (l71 R) (of_den (e71 a0 a1 a2 a3 h R) H)

/- (*gavel/house.House).offer -/
noncomputable def c72 : Code := bodyOf Tryz.f72
def o72 : List (Nat × List (Nat × List Nat)) := [(1, [(0, []), (1, []), (2, []), (3, []), (4, []), (5, []), (6, [])]), (6, [(0, []), (1, []), (2, []), (3, []), (4, []), (5, []), (6, []), (7, []), (8, []), (9, []), (10, []), (11, []), (12, []), (13, []), (14, [])]), (9, [(0, []), (1, []), (2, []), (3, []), (4, []), (5, []), (6, []), (7, []), (8, []), (9, [])]), (11, [(0, []), (1, []), (2, []), (3, []), (4, []), (5, []), (6, []), (7, []), (8, []), (9, []), (10, [])]), (14, [(0, []), (1, []), (2, []), (3, []), (4, []), (5, []), (6, []), (7, []), (8, []), (9, []), (10, [])])]
def sh72 (a0 a1 a2 : Value) (h : PH) (R : AEnd → PH → Prop) : Prop :=
  vNew (Value.cells a2) 25 h fun t5 h_1 =>
  vFA 1 t5 fun t12 =>
  vLoad none t12 h_1 fun t13 =>
  vNil a0 fun t15 =>
  vFA 2 t15 fun t16 =>
  vLoad none t16 h_1 fun t17 =>
  vBin Tryz.prog .geq 3 t13 t17 fun t18 =>
  dIf t18 (R (.ret (.tuple #[(.int .i64 0), (.int .i64 1)])) h_1)
  (vFA 5 t5 fun t20 =>
  vLoad none t20 h_1 fun t21 =>
  vCall Tryz.prog 106 #[t21, (.int .i64 6)] h_1 (fun t22 h_2 =>
  vExt t22 0 fun t23 =>
  vExt t22 1 fun t24 =>
  vBin Tryz.prog .neq 30 t24 (.int .i64 0) fun t26 =>
  dIf t26 (R (.ret (.tuple #[(.int .i64 0), t24])) h_2)
  (vFA 2 t5 fun t29 =>
  vLoad none t29 h_2 fun t30 =>
  vFA 3 t5 fun t32 =>
  vLoad none t32 h_2 fun t33 =>
  vNil a0 fun t35 =>
  vFA 1 t35 fun t36 =>
  vLoad none t36 h_2 fun t37 =>
  vCall Tryz.prog 96 #[t30, t23, t33, t37] h_2 (fun t38 h_3 =>
  vExt t38 0 fun t39 =>
  vExt t38 1 fun t40 =>
  vBin Tryz.prog .neq 30 t40 (.int .i64 0) fun t42 =>
  dIf t42 (R (.ret (.tuple #[(.int .i64 0), t40])) h_3)
  (vNil a0 fun t45 =>
  vFA 5 t45 fun t46 =>
  vLoad none t46 h_3 fun t47 =>
  vFA 1 t5 fun t48 =>
  vLoad none t48 h_3 fun t49 =>
  vIxS 2 t47 t49 fun t50 =>
  vFA 0 t50 fun t51 =>
  vLoad none t51 h_3 fun t52 =>
  vBin Tryz.prog .neq 96 t52 (.pointer none) fun t53 =>
  dIf t53 (R (.ret (.tuple #[(.int .i64 0), (.int .i64 63)])) h_3)
  (vNil a0 fun t55 =>
  vFA 0 t55 fun t56 =>
  vLoad none t56 h_3 fun t57 =>
  vFA 1 t5 fun t59 =>
  vLoad none t59 h_3 fun t60 =>
  vFA 2 t5 fun t61 =>
  vLoad none t61 h_3 fun t62 =>
  vCall Tryz.prog 107 #[t57, a1, t60, t62] h_3 (fun t63 h_4 =>
  vBin Tryz.prog .neq 30 t63 (.int .i64 0) fun t65 =>
  dIf t65 (R (.ret (.tuple #[(.int .i64 0), t63])) h_4)
  (vNil a0 fun t68 =>
  vFA 5 t68 fun t69 =>
  vLoad none t69 h_4 fun t70 =>
  vFA 1 t5 fun t71 =>
  vLoad none t71 h_4 fun t72 =>
  vBuild [(0, 1), (1, 1)] #[.pointer none, .int .i64 0] [(0, t39), (1, a1)] fun t75 =>
  vIxS 2 t70 t72 fun t76 =>
  vStore 2 t76 t75 h_4 fun h_5 =>
  R (.ret (.tuple #[(.int .i64 0), (.int .i64 0)])) h_5))
  (fun c h => R (.pan c) h))))
  (fun c h => R (.pan c) h)))
  (fun c h => R (.pan c) h))
theorem l72 (R : AEnd → PH → Prop) : LoopsOK Tryz.prog qf (ordOf o72) (fun c h => R (.pan c) h) noLoops c72 := noLoops_ok (by kernel_rfl)
theorem e72 (a0 a1 a2 : Value) (h : PH) (R : AEnd → PH → Prop) : denF Tryz.prog qf (ordOf o72) noLoops Tryz.f72.results.toList c72 #[a0, a1, a2] h R = sh72 a0 a1 a2 h R := by kernel_rfl
theorem k72 : codeOK Tryz.prog qf Tryz.f72.ntmps (ordOf o72) c72 = true := by kernel_rfl
theorem s72 : Tryz.f72.body = some c72 := by kernel_rfl
theorem call72 {a0 a1 a2 : Value} {h : PH} {R : AEnd → PH → Prop} (H : sh72 a0 a1 a2 h R) : ACalls Tryz.prog 72 #[a0, a1, a2] h R :=
  ACalls_of_den mixed Tryz.func72 s72 (by kernel_rfl) k72 (l72 R) (of_den (e72 a0 a1 a2 h R) H)

/- (*gavel/house.House).want -/
noncomputable def c73 : Code := bodyOf Tryz.f73
def o73 : List (Nat × List (Nat × List Nat)) := [(1, [(0, []), (1, []), (2, []), (3, []), (4, []), (5, []), (6, []), (7, []), (8, []), (9, []), (10, []), (11, [])]), (3, [(0, []), (1, []), (2, []), (3, []), (4, []), (5, []), (6, []), (7, []), (8, []), (9, [])]), (10, [(0, []), (1, []), (2, []), (5, []), (6, []), (7, []), (8, []), (12, []), (3, [6, 8]), (4, []), (9, [6]), (10, []), (11, []), (13, []), (14, [])])]
def sh73 (a0 a1 a2 : Value) (h : PH) (R : AEnd → PH → Prop) : Prop :=
  vNew (Value.cells a2) 25 h fun t5 h_1 =>
  vFA 1 t5 fun t13 =>
  vLoad none t13 h_1 fun t14 =>
  vNil a0 fun t16 =>
  vFA 2 t16 fun t17 =>
  vLoad none t17 h_1 fun t18 =>
  vBin Tryz.prog .geq 3 t14 t18 fun t19 =>
  gq (boolOf t19) false (fun K =>
  vFA 2 t5 fun u =>
  K u h_1)
  (fun t21 h_2 =>
  gq (boolOf t19) false (fun K_1 =>
  vLoad none t21 h_2 fun u_1 =>
  K_1 u_1 h_2)
  (fun t22 h_3 =>
  gq (boolOf t19) false (fun K_2 =>
  vBin Tryz.prog .gtr 3 t22 (.int .i64 1048576) fun u_2 =>
  K_2 u_2 h_3)
  (fun t23 h_4 =>
  vPick t19 (.bool true) t23 fun t24 =>
  dIf t24 (R (.ret (.tuple #[(.int .i64 0), (.int .i64 1)])) h_4)
  (vNil a0 fun t26 =>
  vFA 5 t26 fun t27 =>
  vLoad none t27 h_4 fun t28 =>
  vFA 1 t5 fun t29 =>
  vLoad none t29 h_4 fun t30 =>
  vIxS 2 t28 t30 fun t31 =>
  vLoad (some 2) t31 h_4 fun t32 =>
  vNew #[.pointer none, .int .i64 0] 98 h_4 fun t8 h_5 =>
  vStore 2 t8 t32 h_5 fun h_6 =>
  vFA 0 t8 fun t33 =>
  vLoad none t33 h_6 fun t34 =>
  vBin Tryz.prog .eql 96 t34 (.pointer none) fun t35 =>
  dIf t35 (R (.ret (.tuple #[(.int .i64 0), (.int .i64 3)])) h_6)
  (vFA 1 t8 fun t36 =>
  vLoad none t36 h_6 fun t37 =>
  vBin Tryz.prog .eql 3 t37 a1 fun t39 =>
  dIf t39 (R (.ret (.tuple #[(.int .i64 0), (.int .i64 80)])) h_6)
  (vFA 0 t8 fun t41 =>
  vLoad none t41 h_6 fun t42 =>
  vCall Tryz.prog 98 #[t42, a1] h_6 (fun t44 h_7 =>
  vExt t44 0 fun t45 =>
  vExt t44 1 fun t46 =>
  vLoad (some 2) t8 h_7 fun t47 =>
  vCall Tryz.prog 102 #[t47, a1] h_7 (fun t49 h_8 =>
  vFA 0 t8 fun t51 =>
  vLoad none t51 h_8 fun t52 =>
  vFA 2 t5 fun t55 =>
  vLoad none t55 h_8 fun t56 =>
  vFA 0 t8 fun t57 =>
  vLoad none t57 h_8 fun t58 =>
  vCall Tryz.prog 108 #[t52] h_8 (fun t53 h_9 =>
  (vLoad none t55 h_9 fun u_3 =>
  t56 = u_3) ∧
  (vLoad none t57 h_9 fun u_4 =>
  t58 = u_4) ∧
  vBin Tryz.prog .mul 3 t45 t53 fun t54 =>
  vCall Tryz.prog 109 #[t58] h_9 (fun t59 h_10 =>
  (vLoad none t55 h_10 fun u_5 =>
  t56 = u_5) ∧
  vBin Tryz.prog .mul 3 t56 t59 fun t60 =>
  vMinMax true t54 t60 fun t61 =>
  vBin Tryz.prog .sub 3 t61 t49 fun t63 =>
  vFA 0 t8 fun t64 =>
  vLoad none t64 h_10 fun t65 =>
  vCall Tryz.prog 110 #[t65] h_10 (fun t66 h_11 =>
  vBin Tryz.prog .gtr 3 t66 (.int .i64 1) fun t67 =>
  gq (boolOf t67) true (fun K_3 =>
  vFA 2 t5 fun u_6 =>
  K_3 u_6 h_11)
  (fun t69 h_12 =>
  gq (boolOf t67) true (fun K_4 =>
  vLoad none t69 h_12 fun u_7 =>
  K_4 u_7 h_12)
  (fun t70 h_13 =>
  gq (boolOf t67) true (fun K_5 =>
  K_5 t45 h_13)
  (fun t71 h_14 =>
  gq (boolOf t67) true (fun K_6 =>
  vBin Tryz.prog .gtr 3 t70 t71 fun u_8 =>
  K_6 u_8 h_14)
  (fun t72 h_15 =>
  vPick t67 t72 (.bool false) fun t73 =>
  dIf t73 (R (.ret (.tuple #[(.int .i64 0), (.int .i64 71)])) h_15)
  (vCall Tryz.prog 111 #[a0, a1] h_15 (fun t77 h_16 =>
  vBin Tryz.prog .gtr 3 t63 t77 fun t78 =>
  dIf t78 (R (.ret (.tuple #[(.int .i64 0), (.int .i64 61)])) h_16)
  (vFA 0 t8 fun t79 =>
  vLoad none t79 h_16 fun t80 =>
  vFA 2 t5 fun t82 =>
  vLoad none t82 h_16 fun t83 =>
  vCall Tryz.prog 112 #[t80, a1, t83] h_16 (fun t84 h_17 =>
  vCall Tryz.prog 113 #[a0, a1, t63] h_17 (fun t88 h_18 =>
  R (.ret (.tuple #[(.int .i64 0), (.int .i64 0)])) h_18)
  (fun c h => R (.pan c) h))
  (fun c h => R (.pan c) h)))
  (fun c h => R (.pan c) h))) h_14) h_13) h_12) h_11)
  (fun c h => R (.pan c) h))
  (fun c h => R (.pan c) h))
  (fun c h => R (.pan c) h))
  (fun c h => R (.pan c) h))
  (fun c h => R (.pan c) h))))) h_3) h_2) h_1
theorem l73 (R : AEnd → PH → Prop) : LoopsOK Tryz.prog qf (ordOf o73) (fun c h => R (.pan c) h) noLoops c73 := noLoops_ok (by kernel_rfl)
theorem e73 (a0 a1 a2 : Value) (h : PH) (R : AEnd → PH → Prop) : denF Tryz.prog qf (ordOf o73) noLoops Tryz.f73.results.toList c73 #[a0, a1, a2] h R = sh73 a0 a1 a2 h R := by kernel_rfl
theorem k73 : codeOK Tryz.prog qf Tryz.f73.ntmps (ordOf o73) c73 = true := by kernel_rfl
theorem s73 : Tryz.f73.body = some c73 := by kernel_rfl
theorem call73 {a0 a1 a2 : Value} {h : PH} {R : AEnd → PH → Prop} (H : sh73 a0 a1 a2 h R) : ACalls Tryz.prog 73 #[a0, a1, a2] h R :=
  ACalls_of_den mixed Tryz.func73 s73 (by kernel_rfl) k73 (l73 R) (of_den (e73 a0 a1 a2 h R) H)

/- (*gavel/house.House).put -/
noncomputable def c74 : Code := bodyOf Tryz.f74
def o74 : List (Nat × List (Nat × List Nat)) := [(7, [(0, []), (1, []), (2, []), (3, []), (4, []), (5, []), (6, []), (7, []), (8, []), (9, []), (10, []), (11, []), (12, []), (13, []), (14, []), (15, []), (16, []), (17, []), (18, [])])]
def sh74 (a0 a1 a2 : Value) (h : PH) (R : AEnd → PH → Prop) : Prop :=
  vNew (Value.cells a2) 25 h fun t5 h_1 =>
  vLoad (some 6) t5 h_1 fun t17 =>
  vCall Tryz.prog 114 #[a0, a1, t17] h_1 (fun t18 h_2 =>
  vExt t18 0 fun t19 =>
  vExt t18 1 fun t20 =>
  vExt t18 2 fun t21 =>
  vBin Tryz.prog .neq 30 t21 (.int .i64 0) fun t23 =>
  dIf t23 (R (.ret (.tuple #[(.int .i64 0), t21])) h_2)
  (vFA 1 t5 fun t28 =>
  vLoad none t28 h_2 fun t29 =>
  vFA 3 t5 fun t30 =>
  vLoad none t30 h_2 fun t31 =>
  vBin Tryz.prog .eql 3 t31 (.int .i64 0) fun t32 =>
  vFA 2 t5 fun t34 =>
  vLoad none t34 h_2 fun t35 =>
  vCall Tryz.prog 115 #[a0, a1, t29, t32, t19, t35] h_2 (fun t36 h_3 =>
  vExt t36 0 fun t37 =>
  vExt t36 1 fun t38 =>
  vExt t36 2 fun t39 =>
  vBin Tryz.prog .neq 30 t39 (.int .i64 0) fun t41 =>
  dIf t41 (R (.ret (.tuple #[(.int .i64 0), t39])) h_3)
  (vNil a0 fun t44 =>
  vFA 4 t44 fun t45 =>
  vLoad none t45 h_3 fun t46 =>
  vFA 1 t5 fun t47 =>
  vLoad none t47 h_3 fun t48 =>
  vIxS 1 t46 t48 fun t49 =>
  vLoad none t49 h_3 fun t50 =>
  vFA 2 t5 fun t54 =>
  vLoad none t54 h_3 fun t55 =>
  vFA 3 t5 fun t56 =>
  vLoad none t56 h_3 fun t57 =>
  vBin Tryz.prog .eql 3 t57 (.int .i64 0) fun t58 =>
  vBuild [(0, 1), (1, 1), (2, 1), (3, 1), (4, 1), (5, 1)] #[.int .i64 0, .int .i64 0, .int .i64 0, .int .i64 0, .int .i64 0, .bool false] [(0, t20), (1, a1), (2, t19), (3, t55), (5, t58)] fun t59 =>
  vCall Tryz.prog 116 #[t50, t59] h_3 (fun t60 h_4 =>
  vBin Tryz.prog .neq 30 t60 (.int .i64 0) fun t62 =>
  dIf t62 (R (.ret (.tuple #[(.int .i64 0), t60])) h_4)
  (vCall Tryz.prog 113 #[a0, a1, t37] h_4 (fun t67 h_5 =>
  vFA 1 t5 fun t70 =>
  vLoad none t70 h_5 fun t71 =>
  vCall Tryz.prog 117 #[a0, a1, t71, t38] h_5 (fun t73 h_6 =>
  R (.ret (.tuple #[(.int .i64 0), (.int .i64 0)])) h_6)
  (fun c h => R (.pan c) h))
  (fun c h => R (.pan c) h)))
  (fun c h => R (.pan c) h)))
  (fun c h => R (.pan c) h)))
  (fun c h => R (.pan c) h)
theorem l74 (R : AEnd → PH → Prop) : LoopsOK Tryz.prog qf (ordOf o74) (fun c h => R (.pan c) h) noLoops c74 := noLoops_ok (by kernel_rfl)
theorem e74 (a0 a1 a2 : Value) (h : PH) (R : AEnd → PH → Prop) : denF Tryz.prog qf (ordOf o74) noLoops Tryz.f74.results.toList c74 #[a0, a1, a2] h R = sh74 a0 a1 a2 h R := by kernel_rfl
theorem k74 : codeOK Tryz.prog qf Tryz.f74.ntmps (ordOf o74) c74 = true := by kernel_rfl
theorem s74 : Tryz.f74.body = some c74 := by kernel_rfl
theorem call74 {a0 a1 a2 : Value} {h : PH} {R : AEnd → PH → Prop} (H : sh74 a0 a1 a2 h R) : ACalls Tryz.prog 74 #[a0, a1, a2] h R :=
  ACalls_of_den mixed Tryz.func74 s74 (by kernel_rfl) k74 (l74 R) (of_den (e74 a0 a1 a2 h R) H)

/- (*gavel/house.House).amend -/
noncomputable def c75 : Code := bodyOf Tryz.f75
def o75 : List (Nat × List (Nat × List Nat)) := [(4, [(0, []), (1, []), (2, []), (3, []), (4, []), (5, []), (6, []), (7, []), (8, []), (9, []), (10, []), (11, []), (12, []), (13, []), (14, []), (15, [])]), (8, [(0, []), (1, []), (2, []), (3, []), (4, []), (5, []), (6, []), (7, []), (8, []), (9, []), (10, []), (11, []), (12, []), (13, []), (14, []), (15, []), (16, [])]), (12, [(0, []), (1, []), (2, []), (3, []), (4, []), (5, []), (6, []), (7, []), (8, []), (9, []), (10, []), (11, []), (12, []), (13, []), (14, []), (15, []), (16, []), (17, []), (18, []), (19, []), (20, []), (21, [])]), (14, [(0, []), (1, []), (2, []), (3, []), (4, []), (5, []), (6, []), (7, []), (8, []), (9, []), (10, []), (11, []), (12, []), (13, []), (14, [])])]
def sh75 (a0 a1 a2 : Value) (h : PH) (R : AEnd → PH → Prop) : Prop :=
  vNew (Value.cells a2) 25 h fun t5 h_1 =>
  vLoad (some 6) t5 h_1 fun t21 =>
  vCall Tryz.prog 114 #[a0, a1, t21] h_1 (fun t22 h_2 =>
  vExt t22 0 fun t23 =>
  vExt t22 1 fun t24 =>
  vExt t22 2 fun t25 =>
  vBin Tryz.prog .neq 30 t25 (.int .i64 0) fun t27 =>
  dIf t27 (R (.ret (.tuple #[(.int .i64 0), t25])) h_2)
  (vNil a0 fun t31 =>
  vFA 4 t31 fun t32 =>
  vLoad none t32 h_2 fun t33 =>
  vFA 1 t5 fun t34 =>
  vLoad none t34 h_2 fun t35 =>
  vIxS 1 t33 t35 fun t36 =>
  vLoad none t36 h_2 fun t37 =>
  vCall Tryz.prog 118 #[t37, t24] h_2 (fun t39 h_3 =>
  vExt t39 0 fun t40 =>
  vExt t39 1 fun t41 =>
  vNew #[.int .i64 0, .int .i64 0, .int .i64 0, .int .i64 0, .int .i64 0, .bool false] 78 h_3 fun t11 h_4 =>
  vStore 6 t11 t40 h_4 fun h_5 =>
  vUn Tryz.prog .not t41 fun t43 =>
  dIf t43 (R (.ret (.tuple #[(.int .i64 0), (.int .i64 3)])) h_5)
  (vNil a0 fun t46 =>
  vFA 0 t46 fun t47 =>
  vLoad none t47 h_5 fun t48 =>
  vCall Tryz.prog 30 #[t48, a1] h_5 (fun t50 h_6 =>
  vExt t50 0 fun t51 =>
  vExt t50 1 fun t52 =>
  vNew #[.int .i64 0, .int .i64 0, .int .i64 0, .int .i64 0, .int .i64 0, .int .i64 0, .int .i64 0, .int .i64 0, .int .i64 0, .int .i64 0] 61 h_6 fun t13 h_7 =>
  vStore 10 t13 t51 h_7 fun h_8 =>
  vFA 2 t5 fun t54 =>
  vLoad none t54 h_8 fun t55 =>
  vBin Tryz.prog .mul 3 t23 t55 fun t56 =>
  vFA 2 t11 fun t57 =>
  vLoad none t57 h_8 fun t58 =>
  vFA 3 t11 fun t59 =>
  vLoad none t59 h_8 fun t60 =>
  vBin Tryz.prog .mul 3 t58 t60 fun t61 =>
  vBin Tryz.prog .sub 3 t56 t61 fun t62 =>
  vFA 2 t5 fun t63 =>
  vLoad none t63 h_8 fun t64 =>
  vFA 3 t11 fun t65 =>
  vLoad none t65 h_8 fun t66 =>
  vBin Tryz.prog .sub 3 t64 t66 fun t67 =>
  vFA 5 t11 fun t68 =>
  vLoad none t68 h_8 fun t69 =>
  dIf t69 (vFA 0 t13 fun t71 =>
  vLoad none t71 h_8 fun t72 =>
  vFA 1 t13 fun t73 =>
  vLoad none t73 h_8 fun t74 =>
  vBin Tryz.prog .sub 3 t72 t74 fun t75 =>
  vBin Tryz.prog .gtr 3 t62 t75 fun t76 =>
  gq (boolOf t76) false (fun K =>
  K (.int .i64 0) h_8)
  (fun t78 h_9 =>
  gq (boolOf t76) false (fun K_1 =>
  vFA 1 t5 fun u =>
  K_1 u h_9)
  (fun t79 h_10 =>
  gq (boolOf t76) false (fun K_2 =>
  vLoad none t79 h_10 fun u_1 =>
  K_2 u_1 h_10)
  (fun t80 h_11 =>
  gq (boolOf t76) false (fun K_3 =>
  vFA 2 t13 fun u_2 =>
  K_3 u_2 h_11)
  (fun t81 h_12 =>
  gq (boolOf t76) false (fun K_4 =>
  vIxA 4 1 t81 t80 fun u_3 =>
  K_4 u_3 h_12)
  (fun t82 h_13 =>
  gq (boolOf t76) false (fun K_5 =>
  vLoad none t82 h_13 fun u_4 =>
  K_5 u_4 h_13)
  (fun t83 h_14 =>
  gq (boolOf t76) false (fun K_6 =>
  vFA 1 t5 fun u_5 =>
  K_6 u_5 h_14)
  (fun t84 h_15 =>
  gq (boolOf t76) false (fun K_7 =>
  vLoad none t84 h_15 fun u_6 =>
  K_7 u_6 h_15)
  (fun t85 h_16 =>
  gq (boolOf t76) false (fun K_8 =>
  vFA 6 t13 fun u_7 =>
  K_8 u_7 h_16)
  (fun t86 h_17 =>
  gq (boolOf t76) false (fun K_9 =>
  vIxA 4 1 t86 t85 fun u_8 =>
  K_9 u_8 h_17)
  (fun t87 h_18 =>
  gq (boolOf t76) false (fun K_10 =>
  vLoad none t87 h_18 fun u_9 =>
  K_10 u_9 h_18)
  (fun t88 h_19 =>
  gq (boolOf t76) false (fun K_11 =>
  vBin Tryz.prog .sub 3 t83 t88 fun u_10 =>
  K_11 u_10 h_19)
  (fun t89 h_20 =>
  gq (boolOf t76) false (fun K_12 =>
  vBin Tryz.prog .gtr 3 t78 t89 fun u_11 =>
  K_12 u_11 h_20)
  (fun t90 h_21 =>
  vPick t76 (.bool true) t90 fun t91 =>
  dIf t91 (R (.ret (.tuple #[(.int .i64 0), (.int .i64 61)])) h_21)
  (vNil a0 fun t93 =>
  vFA 4 t93 fun t94 =>
  vLoad none t94 h_21 fun t95 =>
  vFA 1 t5 fun t96 =>
  vLoad none t96 h_21 fun t97 =>
  vIxS 1 t95 t97 fun t98 =>
  vLoad none t98 h_21 fun t99 =>
  vFA 2 t5 fun t103 =>
  vLoad none t103 h_21 fun t104 =>
  vCall Tryz.prog 119 #[t99, t24, a1, t23, t104] h_21 (fun t105 h_22 =>
  vBin Tryz.prog .neq 30 t105 (.int .i64 0) fun t107 =>
  dIf t107 (R (.ret (.tuple #[(.int .i64 0), t105])) h_22)
  (vCall Tryz.prog 113 #[a0, a1, t62] h_22 (fun t112 h_23 =>
  vFA 1 t5 fun t115 =>
  vLoad none t115 h_23 fun t116 =>
  vCall Tryz.prog 117 #[a0, a1, t116, (.int .i64 0)] h_23 (fun t118 h_24 =>
  R (.ret (.tuple #[(.int .i64 0), (.int .i64 0)])) h_24)
  (fun c h => R (.pan c) h))
  (fun c h => R (.pan c) h)))
  (fun c h => R (.pan c) h))) h_20) h_19) h_18) h_17) h_16) h_15) h_14) h_13) h_12) h_11) h_10) h_9) h_8)
  (vFA 0 t13 fun t71_1 =>
  vLoad none t71_1 h_8 fun t72_1 =>
  vFA 1 t13 fun t73_1 =>
  vLoad none t73_1 h_8 fun t74_1 =>
  vBin Tryz.prog .sub 3 t72_1 t74_1 fun t75_1 =>
  vBin Tryz.prog .gtr 3 (.int .i64 0) t75_1 fun t76_1 =>
  gq (boolOf t76_1) false (fun K_13 =>
  K_13 t67 h_8)
  (fun t78_1 h_25 =>
  gq (boolOf t76_1) false (fun K_14 =>
  vFA 1 t5 fun u_12 =>
  K_14 u_12 h_25)
  (fun t79_1 h_26 =>
  gq (boolOf t76_1) false (fun K_15 =>
  vLoad none t79_1 h_26 fun u_13 =>
  K_15 u_13 h_26)
  (fun t80_1 h_27 =>
  gq (boolOf t76_1) false (fun K_16 =>
  vFA 2 t13 fun u_14 =>
  K_16 u_14 h_27)
  (fun t81_1 h_28 =>
  gq (boolOf t76_1) false (fun K_17 =>
  vIxA 4 1 t81_1 t80_1 fun u_15 =>
  K_17 u_15 h_28)
  (fun t82_1 h_29 =>
  gq (boolOf t76_1) false (fun K_18 =>
  vLoad none t82_1 h_29 fun u_16 =>
  K_18 u_16 h_29)
  (fun t83_1 h_30 =>
  gq (boolOf t76_1) false (fun K_19 =>
  vFA 1 t5 fun u_17 =>
  K_19 u_17 h_30)
  (fun t84_1 h_31 =>
  gq (boolOf t76_1) false (fun K_20 =>
  vLoad none t84_1 h_31 fun u_18 =>
  K_20 u_18 h_31)
  (fun t85_1 h_32 =>
  gq (boolOf t76_1) false (fun K_21 =>
  vFA 6 t13 fun u_19 =>
  K_21 u_19 h_32)
  (fun t86_1 h_33 =>
  gq (boolOf t76_1) false (fun K_22 =>
  vIxA 4 1 t86_1 t85_1 fun u_20 =>
  K_22 u_20 h_33)
  (fun t87_1 h_34 =>
  gq (boolOf t76_1) false (fun K_23 =>
  vLoad none t87_1 h_34 fun u_21 =>
  K_23 u_21 h_34)
  (fun t88_1 h_35 =>
  gq (boolOf t76_1) false (fun K_24 =>
  vBin Tryz.prog .sub 3 t83_1 t88_1 fun u_22 =>
  K_24 u_22 h_35)
  (fun t89_1 h_36 =>
  gq (boolOf t76_1) false (fun K_25 =>
  vBin Tryz.prog .gtr 3 t78_1 t89_1 fun u_23 =>
  K_25 u_23 h_36)
  (fun t90_1 h_37 =>
  vPick t76_1 (.bool true) t90_1 fun t91_1 =>
  dIf t91_1 (R (.ret (.tuple #[(.int .i64 0), (.int .i64 61)])) h_37)
  (vNil a0 fun t93_1 =>
  vFA 4 t93_1 fun t94_1 =>
  vLoad none t94_1 h_37 fun t95_1 =>
  vFA 1 t5 fun t96_1 =>
  vLoad none t96_1 h_37 fun t97_1 =>
  vIxS 1 t95_1 t97_1 fun t98_1 =>
  vLoad none t98_1 h_37 fun t99_1 =>
  vFA 2 t5 fun t103_1 =>
  vLoad none t103_1 h_37 fun t104_1 =>
  vCall Tryz.prog 119 #[t99_1, t24, a1, t23, t104_1] h_37 (fun t105_1 h_38 =>
  vBin Tryz.prog .neq 30 t105_1 (.int .i64 0) fun t107_1 =>
  dIf t107_1 (R (.ret (.tuple #[(.int .i64 0), t105_1])) h_38)
  (vCall Tryz.prog 113 #[a0, a1, (.int .i64 0)] h_38 (fun t112_1 h_39 =>
  vFA 1 t5 fun t115_1 =>
  vLoad none t115_1 h_39 fun t116_1 =>
  vCall Tryz.prog 117 #[a0, a1, t116_1, t67] h_39 (fun t118_1 h_40 =>
  R (.ret (.tuple #[(.int .i64 0), (.int .i64 0)])) h_40)
  (fun c h => R (.pan c) h))
  (fun c h => R (.pan c) h)))
  (fun c h => R (.pan c) h))) h_36) h_35) h_34) h_33) h_32) h_31) h_30) h_29) h_28) h_27) h_26) h_25) h_8))
  (fun c h => R (.pan c) h)))
  (fun c h => R (.pan c) h)))
  (fun c h => R (.pan c) h)
theorem l75 (R : AEnd → PH → Prop) : LoopsOK Tryz.prog qf (ordOf o75) (fun c h => R (.pan c) h) noLoops c75 := noLoops_ok (by kernel_rfl)
theorem e75 (a0 a1 a2 : Value) (h : PH) (R : AEnd → PH → Prop) : denF Tryz.prog qf (ordOf o75) noLoops Tryz.f75.results.toList c75 #[a0, a1, a2] h R = sh75 a0 a1 a2 h R := by kernel_rfl
theorem k75 : codeOK Tryz.prog qf Tryz.f75.ntmps (ordOf o75) c75 = true := by kernel_rfl
theorem s75 : Tryz.f75.body = some c75 := by kernel_rfl
theorem call75 {a0 a1 a2 : Value} {h : PH} {R : AEnd → PH → Prop} (H : sh75 a0 a1 a2 h R) : ACalls Tryz.prog 75 #[a0, a1, a2] h R :=
  ACalls_of_den mixed Tryz.func75 s75 (by kernel_rfl) k75 (l75 R) (of_den (e75 a0 a1 a2 h R) H)

/- (*gavel/house.House).cancel -/
noncomputable def c76 : Code := bodyOf Tryz.f76
def o76 : List (Nat × List (Nat × List Nat)) := [(1, [(0, []), (1, []), (2, []), (3, []), (4, []), (5, []), (6, []), (7, []), (8, []), (9, []), (10, []), (11, [])]), (4, [(0, []), (1, []), (2, []), (3, []), (4, []), (5, []), (6, []), (7, []), (8, []), (9, []), (10, []), (11, []), (12, []), (13, []), (14, []), (15, [])]), (7, [(0, []), (1, []), (2, []), (3, []), (4, []), (5, []), (6, []), (7, []), (8, []), (9, []), (10, [])])]
def sh76 (a0 a1 a2 : Value) (h : PH) (R : AEnd → PH → Prop) : Prop :=
  vNew (Value.cells a2) 25 h fun t5 h_1 =>
  vFA 1 t5 fun t11 =>
  vLoad none t11 h_1 fun t12 =>
  vNil a0 fun t14 =>
  vFA 2 t14 fun t15 =>
  vLoad none t15 h_1 fun t16 =>
  vBin Tryz.prog .geq 3 t12 t16 fun t17 =>
  gq (boolOf t17) false (fun K =>
  vFA 4 t5 fun u =>
  K u h_1)
  (fun t19 h_2 =>
  gq (boolOf t17) false (fun K_1 =>
  vLoad none t19 h_2 fun u_1 =>
  K_1 u_1 h_2)
  (fun t20 h_3 =>
  gq (boolOf t17) false (fun K_2 =>
  vBin Tryz.prog .gtr 3 t20 (.int .i64 1048576) fun u_2 =>
  K_2 u_2 h_3)
  (fun t21 h_4 =>
  vPick t17 (.bool true) t21 fun t22 =>
  dIf t22 (R (.ret (.tuple #[(.int .i64 0), (.int .i64 1)])) h_4)
  (vFA 4 t5 fun t23 =>
  vLoad none t23 h_4 fun t24 =>
  vBin Tryz.prog .mul 3 t24 (.int .i64 16) fun t25 =>
  vBin Tryz.prog .add 3 t25 a1 fun t27 =>
  vNil a0 fun t30 =>
  vFA 4 t30 fun t31 =>
  vLoad none t31 h_4 fun t32 =>
  vFA 1 t5 fun t33 =>
  vLoad none t33 h_4 fun t34 =>
  vIxS 1 t32 t34 fun t35 =>
  vLoad none t35 h_4 fun t36 =>
  vCall Tryz.prog 118 #[t36, t27] h_4 (fun t38 h_5 =>
  vExt t38 0 fun t39 =>
  vExt t38 1 fun t40 =>
  vNew #[.int .i64 0, .int .i64 0, .int .i64 0, .int .i64 0, .int .i64 0, .bool false] 78 h_5 fun t9 h_6 =>
  vStore 6 t9 t39 h_6 fun h_7 =>
  vUn Tryz.prog .not t40 fun t42 =>
  dIf t42 (R (.ret (.tuple #[(.int .i64 0), (.int .i64 3)])) h_7)
  (vNil a0 fun t44 =>
  vFA 4 t44 fun t45 =>
  vLoad none t45 h_7 fun t46 =>
  vFA 1 t5 fun t47 =>
  vLoad none t47 h_7 fun t48 =>
  vIxS 1 t46 t48 fun t49 =>
  vLoad none t49 h_7 fun t50 =>
  vCall Tryz.prog 120 #[t50, t27, a1] h_7 (fun t53 h_8 =>
  vFA 5 t9 fun t54 =>
  vLoad none t54 h_8 fun t55 =>
  dIf t55 (vFA 2 t9 fun t58 =>
  vLoad none t58 h_8 fun t59 =>
  vUn Tryz.prog .neg t59 fun t60 =>
  vFA 3 t9 fun t61 =>
  vLoad none t61 h_8 fun t62 =>
  vBin Tryz.prog .mul 3 t60 t62 fun t63 =>
  vCall Tryz.prog 113 #[a0, a1, t63] h_8 (fun t64 h_9 =>
  R (.ret (.tuple #[(.int .i64 0), (.int .i64 0)])) h_9)
  (fun c h => R (.pan c) h))
  (vFA 1 t5 fun t67 =>
  vLoad none t67 h_8 fun t68 =>
  vFA 3 t9 fun t69 =>
  vLoad none t69 h_8 fun t70 =>
  vUn Tryz.prog .neg t70 fun t71 =>
  vCall Tryz.prog 117 #[a0, a1, t68, t71] h_8 (fun t72 h_10 =>
  R (.ret (.tuple #[(.int .i64 0), (.int .i64 0)])) h_10)
  (fun c h => R (.pan c) h)))
  (fun c h => R (.pan c) h)))
  (fun c h => R (.pan c) h))) h_3) h_2) h_1
theorem l76 (R : AEnd → PH → Prop) : LoopsOK Tryz.prog qf (ordOf o76) (fun c h => R (.pan c) h) noLoops c76 := noLoops_ok (by kernel_rfl)
theorem e76 (a0 a1 a2 : Value) (h : PH) (R : AEnd → PH → Prop) : denF Tryz.prog qf (ordOf o76) noLoops Tryz.f76.results.toList c76 #[a0, a1, a2] h R = sh76 a0 a1 a2 h R := by kernel_rfl
theorem k76 : codeOK Tryz.prog qf Tryz.f76.ntmps (ordOf o76) c76 = true := by kernel_rfl
theorem s76 : Tryz.f76.body = some c76 := by kernel_rfl
theorem call76 {a0 a1 a2 : Value} {h : PH} {R : AEnd → PH → Prop} (H : sh76 a0 a1 a2 h R) : ACalls Tryz.prog 76 #[a0, a1, a2] h R :=
  ACalls_of_den mixed Tryz.func76 s76 (by kernel_rfl) k76 (l76 R) (of_den (e76 a0 a1 a2 h R) H)

/- (*gavel/wire.writer).number -/
noncomputable def c77 : Code := bodyOf Tryz.f77
def o77 : List (Nat × List (Nat × List Nat)) := []
def b77_1 (Kp : List PanicEntry → PH → Prop) (x0 : (Value × Value) → PH → Prop) (f : Value) (kn : (Value) → Value → PH → Prop) (s : Value) (h : PH) : Prop :=
  vBin Tryz.prog .geq 3 s (.int .i64 128) fun t6 =>
  dIf t6 (vNil f fun t9 =>
  vFA 0 t9 fun t10 =>
  vLoad none t10 h fun t11 =>
  vBin Tryz.prog .and 3 s (.int .i64 127) fun t13 =>
  vBin Tryz.prog .or 3 t13 (.int .i64 128) fun t14 =>
  vConvI .u8 t14 fun t15 =>
  (1 * 1 ≤ 2 ^ 24) ∧ vBuildS 5 1 1 #[.int .u8 0] [(0, t15)] h fun t16 h_1 =>
  (0 < 1) ∧ (0 < 1) ∧ (Array.size #[(.int .u8 0 : Value)] = 1) ∧ vAppend false 5 1 1 t11 t16 h_1 fun t17 h_2 =>
  vNil f fun t18 =>
  vFA 0 t18 fun t19 =>
  vStore 1 t19 t17 h_2 fun h_3 =>
  vBin Tryz.prog .shr 3 s (.int .u64 7) fun t21 =>
  kn f t21 h_3)
  (x0 (f, s) h)

def sh77 (a0 a1 : Value) (h : PH) (R : AEnd → PH → Prop) : Prop :=
  lf (b77_1 (fun c h => R (.pan c) h) (fun v h => exq (fun ρ => (ρ 0, ρ 1)) v (fun r h_1 =>
  vNil (r 0) fun t24 =>
  vFA 0 t24 fun t25 =>
  vLoad none t25 h_1 fun t26 =>
  vConvI .u8 (r 1) fun t28 =>
  (1 * 1 ≤ 2 ^ 24) ∧ vBuildS 5 1 1 #[.int .u8 0] [(0, t28)] h_1 fun t29 h_2 =>
  (0 < 1) ∧ (0 < 1) ∧ (Array.size #[(.int .u8 0 : Value)] = 1) ∧ vAppend false 5 1 1 t26 t29 h_2 fun t30 h_3 =>
  vNil (r 0) fun t31 =>
  vFA 0 t31 fun t32 =>
  vStore 1 t32 t30 h_3 fun h_4 =>
  R (.ret (r 0)) h_4) h)) a0 a1 h
def L77 (Kp : List PanicEntry → PH → Prop) : Loops := fun c Q ρ h =>
    sel (Nat.beq (loopId c) 1) (lf (b77_1 Kp (fun v h => exq (fun ρ => (ρ 0, ρ 1)) v (Q (.exit 0)) h)) ((fun ρ => ρ 0) ρ) ((fun ρ => ρ 1) ρ) h)
    (False)
theorem B77_1 (Kp : List PanicEntry → PH → Prop) (KN : (Value) → (Value) → PH → Prop) (XX : Exit → (Value × Value) → PH → Prop) (ρ : Env) (h : PH) :
    den Tryz.prog qf (ordOf o77) Kp (L77 Kp) (loopAt c77 0) (lq KN XX (fun ρ => ρ 0) (fun ρ => ρ 1) (fun ρ => (ρ 0, ρ 1))) ρ h = b77_1 Kp (XX (.exit 0)) ((fun ρ => ρ 0) ρ) KN ((fun ρ => ρ 1) ρ) h := by kernel_rfl
theorem l77 (R : AEnd → PH → Prop) : LoopsOK Tryz.prog qf (ordOf o77) (fun c h => R (.pan c) h) (L77 (fun c h => R (.pan c) h)) c77 :=
  LoopsOK.mk 1 (by kernel_rfl) fun i hi Q ρ h H => match i, hi with
    | 0, _ => loop_gen (F := Value) (S := Value) (X := Value × Value) (φ := (fun ρ => ρ 0)) (π := (fun ρ => ρ 1)) (ξ := (fun ρ => (ρ 0, ρ 1))) (B := (fun (XX : Exit → (Value × Value) → PH → Prop) => b77_1 (fun c h => R (.pan c) h) (XX (.exit 0)))) (B77_1 _) (of_den (by kernel_rfl) H)
    | n + 1, hi => absurd hi (by omega)
theorem e77 (a0 a1 : Value) (h : PH) (R : AEnd → PH → Prop) : denF Tryz.prog qf (ordOf o77) (L77 (fun c h => R (.pan c) h)) Tryz.f77.results.toList c77 #[a0, a1] h R = sh77 a0 a1 h R := by kernel_rfl
theorem k77 : codeOK Tryz.prog qf Tryz.f77.ntmps (ordOf o77) c77 = true := by kernel_rfl
theorem s77 : Tryz.f77.body = some c77 := by kernel_rfl
theorem call77 {a0 a1 : Value} {h : PH} {R : AEnd → PH → Prop} (H : sh77 a0 a1 h R) : ACalls Tryz.prog 77 #[a0, a1] h R :=
  ACalls_of_den mixed Tryz.func77 s77 (by kernel_rfl) k77 (l77 R) (of_den (e77 a0 a1 h R) H)

/- gavel/wire.PutText -/
noncomputable def c79 : Code := bodyOf Tryz.f79
def o79 : List (Nat × List (Nat × List Nat)) := []
def sh79 (a0 : Value) (h : PH) (R : AEnd → PH → Prop) : Prop :=
  vLenStr a0 fun t6 =>
  vBin Tryz.prog .gtr 3 t6 (.int .i64 1048576) fun t7 =>
  dIf t7 (R (.ret (.tuple #[(.string ⟨#[]⟩), (.int .i64 4)])) h)
  (vNew #[.slice none 0 0] 142 h fun t4 h_1 =>
  vCall Tryz.prog 121 #[t4, a0] h_1 (fun t9 h_2 =>
  vNil t9 fun t10 =>
  vFA 0 t10 fun t11 =>
  vLoad none t11 h_2 fun t12 =>
  vConvBS t12 h_2 fun t13 =>
  R (.ret (.tuple #[t13, (.int .i64 0)])) h_2)
  (fun c h => R (.pan c) h))
theorem l79 (R : AEnd → PH → Prop) : LoopsOK Tryz.prog qf (ordOf o79) (fun c h => R (.pan c) h) noLoops c79 := noLoops_ok (by kernel_rfl)
theorem e79 (a0 : Value) (h : PH) (R : AEnd → PH → Prop) : denF Tryz.prog qf (ordOf o79) noLoops Tryz.f79.results.toList c79 #[a0] h R = sh79 a0 h R := by kernel_rfl
theorem k79 : codeOK Tryz.prog qf Tryz.f79.ntmps (ordOf o79) c79 = true := by kernel_rfl
theorem s79 : Tryz.f79.body = some c79 := by kernel_rfl
theorem call79 {a0 : Value} {h : PH} {R : AEnd → PH → Prop} (H : sh79 a0 h R) : ACalls Tryz.prog 79 #[a0] h R :=
  ACalls_of_den mixed Tryz.func79 s79 (by kernel_rfl) k79 (l79 R) (of_den (e79 a0 h R) H)

end Go.Pw
/- The functions of the program, told as predicate transformers: printed by wip/tools/shprint.py; each is what the model makes of the function, by the kernel's reckoning. -/
set_option linter.unusedVariables false
set_option maxRecDepth 100000
namespace Go.Pw
open Go Go.Proofs
/- gavel/ledger.key -/
noncomputable def c80 : Code := bodyOf Tryz.f80
def o80 : List (Nat × List (Nat × List Nat)) := []
def sh80 (a0 : Value) (h : PH) (R : AEnd → PH → Prop) : Prop :=
  vBin Tryz.prog .quo 3 a0 (.int .i64 10) fun t4 =>
  vBin Tryz.prog .add 3 (.int .i64 48) t4 fun t5 =>
  vConvI .u8 t5 fun t6 =>
  vBin Tryz.prog .rem 3 a0 (.int .i64 10) fun t8 =>
  vBin Tryz.prog .add 3 (.int .i64 48) t8 fun t9 =>
  vConvI .u8 t9 fun t10 =>
  (2 * 1 ≤ 2 ^ 24) ∧ vBuildS 5 1 2 #[.int .u8 0] [(0, t6), (1, t10)] h fun t11 h_1 =>
  vConvBS t11 h_1 fun t12 =>
  vBin Tryz.prog .add 9 (.string ⟨#[97, 99, 99, 116, 47]⟩) t12 fun t13 =>
  R (.ret t13) h_1
theorem l80 (R : AEnd → PH → Prop) : LoopsOK Tryz.prog qf (ordOf o80) (fun c h => R (.pan c) h) noLoops c80 := noLoops_ok (by kernel_rfl)
theorem e80 (a0 : Value) (h : PH) (R : AEnd → PH → Prop) : denF Tryz.prog qf (ordOf o80) noLoops Tryz.f80.results.toList c80 #[a0] h R = sh80 a0 h R := by kernel_rfl
theorem k80 : codeOK Tryz.prog qf Tryz.f80.ntmps (ordOf o80) c80 = true := by kernel_rfl
theorem s80 : Tryz.f80.body = some c80 := by kernel_rfl
theorem call80 {a0 : Value} {h : PH} {R : AEnd → PH → Prop} (H : sh80 a0 h R) : ACalls Tryz.prog 80 #[a0] h R :=
  ACalls_of_den mixed Tryz.func80 s80 (by kernel_rfl) k80 (l80 R) (of_den (e80 a0 h R) H)

/- gavel/gavelref09.tick -/
/- gavel/gavelref09.money -/
/- gavel/gavelref09.offer -/
/- gavel/gavelref09.want -/
/- gavel/gavelref09.order -/
/- gavel/gavelref09.cancel -/
/- gavel/gavelref09.Held -/
/- gavel/gavelref06.Records -/
/- gavel/gavelref08.Bytes -/
/- gavel/gavelref07.Bytes -/
/- slices.Clone[[]gavel/api.Order,gavel/api.Order] -/
noncomputable def c91 : Code := bodyOf Tryz.f91
def o91 : List (Nat × List (Nat × List Nat)) := []
def sh91 (a0 : Value) (h : PH) (R : AEnd → PH → Prop) : Prop :=
  vBin Tryz.prog .eql 69 a0 (.slice none 0 0) fun t4 =>
  dIf t4 (R (.ret (.slice none 0 0)) h)
  ((0 * 6 ≤ 2 ^ 24) ∧ vBuildS 78 6 0 #[.int .i64 0, .int .i64 0, .int .i64 0, .int .i64 0, .int .i64 0, .bool false] [] h fun t5 h_1 =>
  (0 < 6) ∧ (0 < 48) ∧ (Array.size #[(.int .i64 0 : Value), (.int .i64 0 : Value), (.int .i64 0 : Value), (.int .i64 0 : Value), (.int .i64 0 : Value), (.bool false : Value)] = 6) ∧ vAppend false 78 6 48 t5 a0 h_1 fun t7 h_2 =>
  R (.ret t7) h_2)
theorem l91 (R : AEnd → PH → Prop) : LoopsOK Tryz.prog qf (ordOf o91) (fun c h => R (.pan c) h) noLoops c91 := noLoops_ok (by kernel_rfl)
theorem e91 (a0 : Value) (h : PH) (R : AEnd → PH → Prop) : denF Tryz.prog qf (ordOf o91) noLoops Tryz.f91.results.toList c91 #[a0] h R = sh91 a0 h R := by kernel_rfl
theorem k91 : codeOK Tryz.prog qf Tryz.f91.ntmps (ordOf o91) c91 = true := by kernel_rfl
theorem s91 : Tryz.f91.body = some c91 := by kernel_rfl
theorem call91 {a0 : Value} {h : PH} {R : AEnd → PH → Prop} (H : sh91 a0 h R) : ACalls Tryz.prog 91 #[a0] h R :=
  ACalls_of_den mixed Tryz.func91 s91 (by kernel_rfl) k91 (l91 R) (of_den (e91 a0 h R) H)

end Go.Pw
/- The functions of the program, told as predicate transformers: printed by wip/tools/shprint.py; each is what the model makes of the function, by the kernel's reckoning. -/
set_option linter.unusedVariables false
set_option maxRecDepth 100000
namespace Go.Pw
open Go Go.Proofs
/- (*gavel/ledger.Ledger).read -/
/- gavel/call.right -/
noncomputable def c93 : Code := bodyOf Tryz.f93
def o93 : List (Nat × List (Nat × List Nat)) := []
def sh93 (a0 : Value) (h : PH) (R : AEnd → PH → Prop) : Prop :=
  vNew (Value.cells a0) 78 h fun t1 h_1 =>
  vFA 0 t1 fun t3 =>
  vLoad none t3 h_1 fun t4 =>
  vBin Tryz.prog .geq 3 t4 (.int .i64 0) fun t5 =>
  gq (boolOf t5) true (fun K =>
  vFA 0 t1 fun u =>
  K u h_1)
  (fun t7 h_2 =>
  gq (boolOf t5) true (fun K_1 =>
  vLoad none t7 h_2 fun u_1 =>
  K_1 u_1 h_2)
  (fun t8 h_3 =>
  gq (boolOf t5) true (fun K_2 =>
  vBin Tryz.prog .leq 3 t8 (.int .i64 9007199254740992) fun u_2 =>
  K_2 u_2 h_3)
  (fun t9 h_4 =>
  vPick t5 t9 (.bool false) fun t10 =>
  gq (boolOf t10) true (fun K_3 =>
  vFA 1 t1 fun u_3 =>
  K_3 u_3 h_4)
  (fun t12 h_5 =>
  gq (boolOf t10) true (fun K_4 =>
  vLoad none t12 h_5 fun u_4 =>
  K_4 u_4 h_5)
  (fun t13 h_6 =>
  gq (boolOf t10) true (fun K_5 =>
  vBin Tryz.prog .geq 3 t13 (.int .i64 0) fun u_5 =>
  K_5 u_5 h_6)
  (fun t14 h_7 =>
  vPick t10 t14 (.bool false) fun t15 =>
  gq (boolOf t15) true (fun K_6 =>
  vFA 1 t1 fun u_6 =>
  K_6 u_6 h_7)
  (fun t17 h_8 =>
  gq (boolOf t15) true (fun K_7 =>
  vLoad none t17 h_8 fun u_7 =>
  K_7 u_7 h_8)
  (fun t18 h_9 =>
  gq (boolOf t15) true (fun K_8 =>
  vBin Tryz.prog .lss 3 t18 (.int .i64 16) fun u_8 =>
  K_8 u_8 h_9)
  (fun t19 h_10 =>
  vPick t15 t19 (.bool false) fun t20 =>
  gq (boolOf t20) true (fun K_9 =>
  vFA 2 t1 fun u_9 =>
  K_9 u_9 h_10)
  (fun t22 h_11 =>
  gq (boolOf t20) true (fun K_10 =>
  vLoad none t22 h_11 fun u_10 =>
  K_10 u_10 h_11)
  (fun t23 h_12 =>
  gq (boolOf t20) true (fun K_11 =>
  vBin Tryz.prog .geq 3 t23 (.int .i64 0) fun u_11 =>
  K_11 u_11 h_12)
  (fun t24 h_13 =>
  vPick t20 t24 (.bool false) fun t25 =>
  gq (boolOf t25) true (fun K_12 =>
  vFA 2 t1 fun u_12 =>
  K_12 u_12 h_13)
  (fun t27 h_14 =>
  gq (boolOf t25) true (fun K_13 =>
  vLoad none t27 h_14 fun u_13 =>
  K_13 u_13 h_14)
  (fun t28 h_15 =>
  gq (boolOf t25) true (fun K_14 =>
  vBin Tryz.prog .leq 3 t28 (.int .i64 1099511627776) fun u_14 =>
  K_14 u_14 h_15)
  (fun t29 h_16 =>
  vPick t25 t29 (.bool false) fun t30 =>
  gq (boolOf t30) true (fun K_15 =>
  vFA 3 t1 fun u_15 =>
  K_15 u_15 h_16)
  (fun t32 h_17 =>
  gq (boolOf t30) true (fun K_16 =>
  vLoad none t32 h_17 fun u_16 =>
  K_16 u_16 h_17)
  (fun t33 h_18 =>
  gq (boolOf t30) true (fun K_17 =>
  vBin Tryz.prog .geq 3 t33 (.int .i64 1) fun u_17 =>
  K_17 u_17 h_18)
  (fun t34 h_19 =>
  vPick t30 t34 (.bool false) fun t35 =>
  gq (boolOf t35) true (fun K_18 =>
  vFA 3 t1 fun u_18 =>
  K_18 u_18 h_19)
  (fun t37 h_20 =>
  gq (boolOf t35) true (fun K_19 =>
  vLoad none t37 h_20 fun u_19 =>
  K_19 u_19 h_20)
  (fun t38 h_21 =>
  gq (boolOf t35) true (fun K_20 =>
  vBin Tryz.prog .leq 3 t38 (.int .i64 1048576) fun u_20 =>
  K_20 u_20 h_21)
  (fun t39 h_22 =>
  vPick t35 t39 (.bool false) fun t40 =>
  R (.ret t40) h_22) h_21) h_20) h_19) h_18) h_17) h_16) h_15) h_14) h_13) h_12) h_11) h_10) h_9) h_8) h_7) h_6) h_5) h_4) h_3) h_2) h_1
theorem l93 (R : AEnd → PH → Prop) : LoopsOK Tryz.prog qf (ordOf o93) (fun c h => R (.pan c) h) noLoops c93 := noLoops_ok (by kernel_rfl)
theorem e93 (a0 : Value) (h : PH) (R : AEnd → PH → Prop) : denF Tryz.prog qf (ordOf o93) noLoops Tryz.f93.results.toList c93 #[a0] h R = sh93 a0 h R := by kernel_rfl
theorem k93 : codeOK Tryz.prog qf Tryz.f93.ntmps (ordOf o93) c93 = true := by kernel_rfl
theorem s93 : Tryz.f93.body = some c93 := by kernel_rfl
theorem call93 {a0 : Value} {h : PH} {R : AEnd → PH → Prop} (H : sh93 a0 h R) : ACalls Tryz.prog 93 #[a0] h R :=
  ACalls_of_den mixed Tryz.func93 s93 (by kernel_rfl) k93 (l93 R) (of_den (e93 a0 h R) H)

/- (*gavel/call.Book).at -/
noncomputable def c94 : Code := bodyOf Tryz.f94
def o94 : List (Nat × List (Nat × List Nat)) := []
def sh94 (a0 a1 : Value) (h : PH) (R : AEnd → PH → Prop) : Prop :=
  vNew (Value.cells a1) 3 h fun t3 h_1 =>
  vNil a0 fun t6 =>
  vFA 0 t6 fun t7 =>
  vLoad none t7 h_1 fun t8 =>
  vFunc (.func 143) #[] #[t3] fun t9 =>
  vCall Tryz.prog 142 #[t8, t9] h_1 (fun t10 h_2 =>
  R (.ret t10) h_2)
  (fun c h => R (.pan c) h)
theorem l94 (R : AEnd → PH → Prop) : LoopsOK Tryz.prog qf (ordOf o94) (fun c h => R (.pan c) h) noLoops c94 := noLoops_ok (by kernel_rfl)
theorem e94 (a0 a1 : Value) (h : PH) (R : AEnd → PH → Prop) : denF Tryz.prog qf (ordOf o94) noLoops Tryz.f94.results.toList c94 #[a0, a1] h R = sh94 a0 a1 h R := by kernel_rfl
theorem k94 : codeOK Tryz.prog qf Tryz.f94.ntmps (ordOf o94) c94 = true := by kernel_rfl
theorem s94 : Tryz.f94.body = some c94 := by kernel_rfl
theorem call94 {a0 a1 : Value} {h : PH} {R : AEnd → PH → Prop} (H : sh94 a0 a1 h R) : ACalls Tryz.prog 94 #[a0, a1] h R :=
  ACalls_of_den mixed Tryz.func94 s94 (by kernel_rfl) k94 (l94 R) (of_den (e94 a0 a1 h R) H)

/- gavel/clock.New -/
noncomputable def c96 : Code := bodyOf Tryz.f96
def o96 : List (Nat × List (Nat × List Nat)) := []
def sh96 (a0 a1 a2 a3 : Value) (h : PH) (R : AEnd → PH → Prop) : Prop :=
  vBin Tryz.prog .lss 3 a0 (.int .i64 1) fun t11 =>
  gq (boolOf t11) false (fun K =>
  K a0 h)
  (fun t13 h_1 =>
  gq (boolOf t11) false (fun K_1 =>
  vBin Tryz.prog .gtr 3 t13 (.int .i64 1048576) fun u =>
  K_1 u h_1)
  (fun t14 h_2 =>
  vPick t11 (.bool true) t14 fun t15 =>
  gq (boolOf t15) false (fun K_2 =>
  K_2 a1 h_2)
  (fun t17 h_3 =>
  gq (boolOf t15) false (fun K_3 =>
  vBin Tryz.prog .lss 3 t17 (.int .i64 0) fun u_1 =>
  K_3 u_1 h_3)
  (fun t18 h_4 =>
  vPick t15 (.bool true) t18 fun t19 =>
  gq (boolOf t19) false (fun K_4 =>
  K_4 a1 h_4)
  (fun t21 h_5 =>
  gq (boolOf t19) false (fun K_5 =>
  vBin Tryz.prog .gtr 3 t21 (.int .i64 1099511627776) fun u_2 =>
  K_5 u_2 h_5)
  (fun t22 h_6 =>
  vPick t19 (.bool true) t22 fun t23 =>
  gq (boolOf t23) false (fun K_6 =>
  K_6 a2 h_6)
  (fun t25 h_7 =>
  gq (boolOf t23) false (fun K_7 =>
  vBin Tryz.prog .lss 3 t25 (.int .i64 1) fun u_3 =>
  K_7 u_3 h_7)
  (fun t26 h_8 =>
  vPick t23 (.bool true) t26 fun t27 =>
  gq (boolOf t27) false (fun K_8 =>
  K_8 a2 h_8)
  (fun t29 h_9 =>
  gq (boolOf t27) false (fun K_9 =>
  vBin Tryz.prog .gtr 3 t29 (.int .i64 1099511627776) fun u_4 =>
  K_9 u_4 h_9)
  (fun t30 h_10 =>
  vPick t27 (.bool true) t30 fun t31 =>
  gq (boolOf t31) false (fun K_10 =>
  K_10 a3 h_10)
  (fun t33 h_11 =>
  gq (boolOf t31) false (fun K_11 =>
  vBin Tryz.prog .lss 3 t33 (.int .i64 1) fun u_5 =>
  K_11 u_5 h_11)
  (fun t34 h_12 =>
  vPick t31 (.bool true) t34 fun t35 =>
  gq (boolOf t35) false (fun K_12 =>
  K_12 a3 h_12)
  (fun t37 h_13 =>
  gq (boolOf t35) false (fun K_13 =>
  vBin Tryz.prog .gtr 3 t37 (.int .i64 16) fun u_6 =>
  K_13 u_6 h_13)
  (fun t38 h_14 =>
  vPick t35 (.bool true) t38 fun t39 =>
  dIf t39 (R (.ret (.tuple #[(.pointer none), (.int .i64 1)])) h_14)
  (vMakeS 157 2 16 #[.int .i64 0, .int .i64 0] a3 a3 h_14 fun t44 h_15 =>
  vBuild [(0, 1), (1, 1), (2, 1), (3, 1), (4, 1), (5, 1)] #[.int .i64 0, .int .i64 0, .int .i64 0, .int .i64 0, .int .i64 0, .slice none 0 0] [(0, a0), (1, a1), (2, a2), (3, (.int .i64 1)), (5, t44)] fun t45 =>
  vNew (Value.cells t45) 155 h_15 fun t46 h_16 =>
  R (.ret (.tuple #[t46, (.int .i64 0)])) h_16)) h_13) h_12) h_11) h_10) h_9) h_8) h_7) h_6) h_5) h_4) h_3) h_2) h_1) h
theorem l96 (R : AEnd → PH → Prop) : LoopsOK Tryz.prog qf (ordOf o96) (fun c h => R (.pan c) h) noLoops c96 := noLoops_ok (by kernel_rfl)
theorem e96 (a0 a1 a2 a3 : Value) (h : PH) (R : AEnd → PH → Prop) : denF Tryz.prog qf (ordOf o96) noLoops Tryz.f96.results.toList c96 #[a0, a1, a2, a3] h R = sh96 a0 a1 a2 a3 h R := by kernel_rfl
theorem k96 : codeOK Tryz.prog qf Tryz.f96.ntmps (ordOf o96) c96 = true := by kernel_rfl
theorem s96 : Tryz.f96.body = some c96 := by kernel_rfl
theorem call96 {a0 a1 a2 a3 : Value} {h : PH} {R : AEnd → PH → Prop} (H : sh96 a0 a1 a2 a3 h R) : ACalls Tryz.prog 96 #[a0, a1, a2, a3] h R :=
  ACalls_of_den mixed Tryz.func96 s96 (by kernel_rfl) k96 (l96 R) (of_den (e96 a0 a1 a2 a3 h R) H)

/- (*gavel/clock.Auction).right -/
/- (*gavel/clock.Auction).Wants -/
noncomputable def c98 : Code := bodyOf Tryz.f98
def o98 : List (Nat × List (Nat × List Nat)) := [(3, [(0, []), (1, []), (2, []), (3, []), (4, []), (5, []), (6, []), (7, []), (8, []), (9, []), (10, []), (11, []), (12, []), (13, []), (14, []), (15, []), (16, []), (17, [])])]
def sh98 (a0 a1 : Value) (h : PH) (R : AEnd → PH → Prop) : Prop :=
  vBin Tryz.prog .eql 96 a0 (.pointer none) fun t7 =>
  gq (boolOf t7) false (fun K =>
  K a1 h)
  (fun t9 h_1 =>
  gq (boolOf t7) false (fun K_1 =>
  vBin Tryz.prog .lss 3 t9 (.int .i64 0) fun u =>
  K_1 u h_1)
  (fun t10 h_2 =>
  vPick t7 (.bool true) t10 fun t11 =>
  gq (boolOf t11) false (fun K_2 =>
  K_2 a1 h_2)
  (fun t13 h_3 =>
  gq (boolOf t11) false (fun K_3 =>
  K_3 a0 h_3)
  (fun t14 h_4 =>
  gq (boolOf t11) false (fun K_4 =>
  vNil t14 fun u_1 =>
  K_4 u_1 h_4)
  (fun t15 h_5 =>
  gq (boolOf t11) false (fun K_5 =>
  vFA 5 t15 fun u_2 =>
  K_5 u_2 h_5)
  (fun t16 h_6 =>
  gq (boolOf t11) false (fun K_6 =>
  vLoad none t16 h_6 fun u_3 =>
  K_6 u_3 h_6)
  (fun t17 h_7 =>
  gq (boolOf t11) false (fun K_7 =>
  vLenS t17 fun u_4 =>
  K_7 u_4 h_7)
  (fun t18 h_8 =>
  gq (boolOf t11) false (fun K_8 =>
  vBin Tryz.prog .geq 3 t13 t18 fun u_5 =>
  K_8 u_5 h_8)
  (fun t19 h_9 =>
  vPick t11 (.bool true) t19 fun t20 =>
  dIf t20 (R (.ret (.tuple #[(.int .i64 0), (.int .i64 0)])) h_9)
  (vNil a0 fun t22 =>
  vFA 5 t22 fun t23 =>
  vLoad none t23 h_9 fun t24 =>
  vIxS 2 t24 a1 fun t26 =>
  vFA 0 t26 fun t27 =>
  vLoad none t27 h_9 fun t28 =>
  vNil a0 fun t30 =>
  vFA 5 t30 fun t31 =>
  vLoad none t31 h_9 fun t32 =>
  vIxS 2 t32 a1 fun t34 =>
  vFA 1 t34 fun t35 =>
  vLoad none t35 h_9 fun t36 =>
  R (.ret (.tuple #[t28, t36])) h_9)) h_8) h_7) h_6) h_5) h_4) h_3) h_2) h_1) h
theorem l98 (R : AEnd → PH → Prop) : LoopsOK Tryz.prog qf (ordOf o98) (fun c h => R (.pan c) h) noLoops c98 := noLoops_ok (by kernel_rfl)
theorem e98 (a0 a1 : Value) (h : PH) (R : AEnd → PH → Prop) : denF Tryz.prog qf (ordOf o98) noLoops Tryz.f98.results.toList c98 #[a0, a1] h R = sh98 a0 a1 h R := by kernel_rfl
theorem k98 : codeOK Tryz.prog qf Tryz.f98.ntmps (ordOf o98) c98 = true := by kernel_rfl
theorem s98 : Tryz.f98.body = some c98 := by kernel_rfl
theorem call98 {a0 a1 : Value} {h : PH} {R : AEnd → PH → Prop} (H : sh98 a0 a1 h R) : ACalls Tryz.prog 98 #[a0, a1] h R :=
  ACalls_of_den mixed Tryz.func98 s98 (by kernel_rfl) k98 (l98 R) (of_den (e98 a0 a1 h R) H)

/- (*gavel/clock.Auction).State -/
/- (gavel/house.sale).bidders -/
/- (*gavel/clock.Auction).Supply -/
noncomputable def c101 : Code := bodyOf Tryz.f101
def o101 : List (Nat × List (Nat × List Nat)) := []
def sh101 (a0 : Value) (h : PH) (R : AEnd → PH → Prop) : Prop :=
  vBin Tryz.prog .eql 96 a0 (.pointer none) fun t4 =>
  dIf t4 (R (.ret (.int .i64 0)) h)
  (vNil a0 fun t6 =>
  vFA 0 t6 fun t7 =>
  vLoad none t7 h fun t8 =>
  R (.ret t8) h)
theorem l101 (R : AEnd → PH → Prop) : LoopsOK Tryz.prog qf (ordOf o101) (fun c h => R (.pan c) h) noLoops c101 := noLoops_ok (by kernel_rfl)
theorem e101 (a0 : Value) (h : PH) (R : AEnd → PH → Prop) : denF Tryz.prog qf (ordOf o101) noLoops Tryz.f101.results.toList c101 #[a0] h R = sh101 a0 h R := by kernel_rfl
theorem k101 : codeOK Tryz.prog qf Tryz.f101.ntmps (ordOf o101) c101 = true := by kernel_rfl
theorem s101 : Tryz.f101.body = some c101 := by kernel_rfl
theorem call101 {a0 : Value} {h : PH} {R : AEnd → PH → Prop} (H : sh101 a0 h R) : ACalls Tryz.prog 101 #[a0] h R :=
  ACalls_of_den mixed Tryz.func101 s101 (by kernel_rfl) k101 (l101 R) (of_den (e101 a0 h R) H)

/- (gavel/house.sale).need -/
noncomputable def c102 : Code := bodyOf Tryz.f102
def o102 : List (Nat × List (Nat × List Nat)) := [(2, [(0, []), (1, []), (2, []), (5, []), (6, []), (7, []), (3, [7]), (4, []), (8, []), (9, []), (10, []), (11, [])])]
def sh102 (a0 a1 : Value) (h : PH) (R : AEnd → PH → Prop) : Prop :=
  vNew (Value.cells a0) 98 h fun t2 h_1 =>
  vFA 0 t2 fun t8 =>
  vLoad none t8 h_1 fun t9 =>
  vCall Tryz.prog 98 #[t9, a1] h_1 (fun t11 h_2 =>
  vExt t11 0 fun t12 =>
  vExt t11 1 fun t13 =>
  vFA 0 t2 fun t15 =>
  vLoad none t15 h_2 fun t16 =>
  vFA 0 t2 fun t20 =>
  vLoad none t20 h_2 fun t21 =>
  vCall Tryz.prog 108 #[t16] h_2 (fun t17 h_3 =>
  (vLoad none t20 h_3 fun u =>
  t21 = u) ∧
  vBin Tryz.prog .mul 3 t12 t17 fun t18 =>
  vCall Tryz.prog 109 #[t21] h_3 (fun t22 h_4 =>
  vBin Tryz.prog .mul 3 t13 t22 fun t23 =>
  vMinMax true t18 t23 fun t24 =>
  R (.ret t24) h_4)
  (fun c h => R (.pan c) h))
  (fun c h => R (.pan c) h))
  (fun c h => R (.pan c) h)
theorem l102 (R : AEnd → PH → Prop) : LoopsOK Tryz.prog qf (ordOf o102) (fun c h => R (.pan c) h) noLoops c102 := noLoops_ok (by kernel_rfl)
theorem e102 (a0 a1 : Value) (h : PH) (R : AEnd → PH → Prop) : denF Tryz.prog qf (ordOf o102) noLoops Tryz.f102.results.toList c102 #[a0, a1] h R = sh102 a0 a1 h R := by kernel_rfl
theorem k102 : codeOK Tryz.prog qf Tryz.f102.ntmps (ordOf o102) c102 = true := by kernel_rfl
theorem s102 : Tryz.f102.body = some c102 := by kernel_rfl
theorem call102 {a0 a1 : Value} {h : PH} {R : AEnd → PH → Prop} (H : sh102 a0 a1 h R) : ACalls Tryz.prog 102 #[a0, a1] h R :=
  ACalls_of_den mixed Tryz.func102 s102 (by kernel_rfl) k102 (l102 R) (of_den (e102 a0 a1 h R) H)

/- (*gavel/house.House).clear -/
noncomputable def c103 : Code := bodyOf Tryz.f103
def o103 : List (Nat × List (Nat × List Nat)) := [(17, [(0, []), (1, []), (2, []), (3, []), (4, []), (5, []), (6, []), (7, []), (8, []), (9, [])]), (18, [(0, []), (1, []), (2, []), (3, []), (4, []), (5, []), (6, []), (7, []), (8, []), (9, []), (10, []), (11, []), (12, [])])]
def b103_7 (Kp : List PanicEntry → PH → Prop) (x2 : (Value × Value × Value × Value × Value × Value × Value × Value × Value) → PH → Prop) (f : Value × Value × Value × Value × Value × Value × Value × Value × Value × Value) (kn : (Value × Value × Value × Value × Value × Value × Value × Value × Value × Value) → (Value × Value × Value) → PH → Prop) (s : Value × Value × Value) (h : PH) : Prop :=
  vBin Tryz.prog .lss 3 s.2.2 f.2.2.2.2.2.2.2.2.2 fun t44 =>
  dIf t44 (vIxS 6 f.2.2.2.2.2.2.2.2.1 s.2.2 fun t45 =>
  vLoad (some 6) t45 h fun t46 =>
  vNew #[.int .i64 0, .int .i64 0, .int .i64 0, .int .i64 0, .int .i64 0, .bool false] 78 h fun t13 h_1 =>
  vStore 6 t13 t46 h_1 fun h_2 =>
  vFA 0 t13 fun t47 =>
  vLoad none t47 h_2 fun t48 =>
  vFA 0 f.2.2.2.2.1 fun t49 =>
  vLoad none t49 h_2 fun t50 =>
  vBin Tryz.prog .neq 3 t48 t50 fun t51 =>
  dIf t51 (vBin Tryz.prog .add 3 s.2.2 (.int .i64 1) fun t74 =>
  kn f (s.1, s.2.1, t74) h_2)
  (vFA 5 t13 fun t52 =>
  vLoad none t52 h_2 fun t53 =>
  dIf t53 (vLoad (some 3) f.2.2.2.2.1 h_2 fun t55 =>
  (1 * 3 ≤ 2 ^ 24) ∧ vBuildS 218 3 1 #[.int .i64 0, .int .i64 0, .int .i64 0] [(0, t55)] h_2 fun t56 h_3 =>
  (0 < 3) ∧ (0 < 24) ∧ (Array.size #[(.int .i64 0 : Value), (.int .i64 0 : Value), (.int .i64 0 : Value)] = 3) ∧ vAppend false 218 3 24 s.1 t56 h_3 fun t57 h_4 =>
  vFA 1 f.2.2.2.2.1 fun t59 =>
  vLoad none t59 h_4 fun t60 =>
  vFA 2 t13 fun t61 =>
  vLoad none t61 h_4 fun t62 =>
  vBin Tryz.prog .sub 3 t62 f.2.2.2.1 fun t64 =>
  vUn Tryz.prog .neg t64 fun t65 =>
  vFA 2 f.2.2.2.2.1 fun t66 =>
  vLoad none t66 h_4 fun t67 =>
  vBin Tryz.prog .mul 3 t65 t67 fun t68 =>
  vCall Tryz.prog 113 #[f.1, t60, t68] h_4 (fun t69 h_5 =>
  vBin Tryz.prog .add 3 s.2.2 (.int .i64 1) fun t74_1 =>
  kn f (t57, s.2.1, t74_1) h_5)
  Kp)
  (vLoad (some 3) f.2.2.2.2.1 h_2 fun t71 =>
  (1 * 3 ≤ 2 ^ 24) ∧ vBuildS 218 3 1 #[.int .i64 0, .int .i64 0, .int .i64 0] [(0, t71)] h_2 fun t72 h_6 =>
  (0 < 3) ∧ (0 < 24) ∧ (Array.size #[(.int .i64 0 : Value), (.int .i64 0 : Value), (.int .i64 0 : Value)] = 3) ∧ vAppend false 218 3 24 s.2.1 t72 h_6 fun t73 h_7 =>
  vBin Tryz.prog .add 3 s.2.2 (.int .i64 1) fun t74_2 =>
  kn f (s.1, t73, t74_2) h_7)))
  (x2 (f.1, f.2.1, f.2.2.1, f.2.2.2.1, s.1, s.2.1, f.2.2.2.2.2.1, f.2.2.2.2.2.2.1, f.2.2.2.2.2.2.2.1) h)

def b103_4 (Kp : List PanicEntry → PH → Prop) (x0 : (Value × Value × Value × Value × Value) → PH → Prop) (f : Value × Value × Value × Value × Value × Value) (kn : (Value × Value × Value × Value × Value × Value) → (Value × Value × Value) → PH → Prop) (s : Value × Value × Value) (h : PH) : Prop :=
  vBin Tryz.prog .lss 3 s.2.2 f.2.2.2.2.2 fun t38 =>
  dIf t38 (vIxS 3 f.2.2.2.2.1 s.2.2 fun t39 =>
  vLoad (some 3) t39 h fun t40 =>
  vNew #[.int .i64 0, .int .i64 0, .int .i64 0] 218 h fun t11 h_1 =>
  vStore 3 t11 t40 h_1 fun h_2 =>
  vLenS f.2.2.1 fun t42 =>
  lf (b103_7 Kp (fun v h => exq (fun ρ => (ρ 0, ρ 1, ρ 4, ρ 5, ρ 8, ρ 9, ρ 35, ρ 36, ρ 37)) v (fun r h_3 =>
  vBin Tryz.prog .add 3 (r 37) (.int .i64 1) fun t75 =>
  kn ((r 0), (r 1), (r 4), (r 5), (r 35), (r 36)) ((r 8), (r 9), t75) h_3) h)) (f.1, f.2.1, f.2.2.1, f.2.2.2.1, t11, f.2.2.2.2.1, f.2.2.2.2.2, s.2.2, f.2.2.1, t42) (s.1, s.2.1, (.int .i64 0)) h_2)
  (x0 (f.1, f.2.1, f.2.2.2.1, s.1, s.2.1) h)

def b103_16 (Kp : List PanicEntry → PH → Prop) (x4 : Unit → PH → Prop) (f : Value × Value × Value) (kn : (Value × Value × Value) → (Value × Value) → PH → Prop) (s : Value × Value) (h : PH) : Prop :=
  vLenS s.1 fun t77 =>
  vBin Tryz.prog .gtr 3 t77 (.int .i64 0) fun t78 =>
  gq (boolOf t78) true (fun K =>
  K s.2 h)
  (fun t80 h_1 =>
  gq (boolOf t78) true (fun K_1 =>
  vLenS t80 fun u =>
  K_1 u h_1)
  (fun t81 h_2 =>
  gq (boolOf t78) true (fun K_2 =>
  vBin Tryz.prog .gtr 3 t81 (.int .i64 0) fun u_1 =>
  K_2 u_1 h_2)
  (fun t82 h_3 =>
  vPick t78 t82 (.bool false) fun t83 =>
  dIf t83 (vIxS 3 s.1 (.int .i64 0) fun t85 =>
  vFA 2 t85 fun t86 =>
  vLoad none t86 h_3 fun t87 =>
  vIxS 3 s.2 (.int .i64 0) fun t89 =>
  vFA 2 t89 fun t90 =>
  vLoad none t90 h_3 fun t91 =>
  vMinMax false t87 t91 fun t92 =>
  vIxS 3 s.2 (.int .i64 0) fun t95 =>
  vFA 1 t95 fun t96 =>
  vLoad none t96 h_3 fun t97 =>
  vIxS 3 s.1 (.int .i64 0) fun t99 =>
  vFA 1 t99 fun t100 =>
  vLoad none t100 h_3 fun t101 =>
  vCall Tryz.prog 146 #[f.1, t97, t101, f.2.1, f.2.2, t92] h_3 (fun t105 h_4 =>
  vIxS 3 s.1 (.int .i64 0) fun t107 =>
  vFA 2 t107 fun t108 =>
  vLoad none t108 h_4 fun t109 =>
  vBin Tryz.prog .sub 3 t109 t92 fun t111 =>
  vIxS 3 s.1 (.int .i64 0) fun t112 =>
  vFA 2 t112 fun t113 =>
  vStore 1 t113 t111 h_4 fun h_5 =>
  vIxS 3 s.1 (.int .i64 0) fun t115 =>
  vFA 2 t115 fun t116 =>
  vLoad none t116 h_5 fun t117 =>
  vBin Tryz.prog .eql 3 t117 (.int .i64 0) fun t118 =>
  dIf t118 (vSl 3 (some (.int .i64 1)) none s.1 fun t120 =>
  vIxS 3 s.2 (.int .i64 0) fun t122 =>
  vFA 2 t122 fun t123 =>
  vLoad none t123 h_5 fun t124 =>
  vBin Tryz.prog .sub 3 t124 t92 fun t126 =>
  vIxS 3 s.2 (.int .i64 0) fun t127 =>
  vFA 2 t127 fun t128 =>
  vStore 1 t128 t126 h_5 fun h_6 =>
  vIxS 3 s.2 (.int .i64 0) fun t130 =>
  vFA 2 t130 fun t131 =>
  vLoad none t131 h_6 fun t132 =>
  vBin Tryz.prog .eql 3 t132 (.int .i64 0) fun t133 =>
  dIf t133 (vSl 3 (some (.int .i64 1)) none s.2 fun t135 =>
  kn f (t120, t135) h_6)
  (kn f (t120, s.2) h_6))
  (vIxS 3 s.2 (.int .i64 0) fun t122_1 =>
  vFA 2 t122_1 fun t123_1 =>
  vLoad none t123_1 h_5 fun t124_1 =>
  vBin Tryz.prog .sub 3 t124_1 t92 fun t126_1 =>
  vIxS 3 s.2 (.int .i64 0) fun t127_1 =>
  vFA 2 t127_1 fun t128_1 =>
  vStore 1 t128_1 t126_1 h_5 fun h_7 =>
  vIxS 3 s.2 (.int .i64 0) fun t130_1 =>
  vFA 2 t130_1 fun t131_1 =>
  vLoad none t131_1 h_7 fun t132_1 =>
  vBin Tryz.prog .eql 3 t132_1 (.int .i64 0) fun t133_1 =>
  dIf t133_1 (vSl 3 (some (.int .i64 1)) none s.2 fun t135_1 =>
  kn f (s.1, t135_1) h_7)
  (kn f (s.1, s.2) h_7)))
  Kp)
  (x4 () h_3)) h_2) h_1) h

def sh103 (a0 a1 : Value) (h : PH) (R : AEnd → PH → Prop) : Prop :=
  vNil a0 fun t16 =>
  vFA 4 t16 fun t17 =>
  vLoad none t17 h fun t18 =>
  vIxS 1 t18 a1 fun t20 =>
  vLoad none t20 h fun t21 =>
  vCall Tryz.prog 51 #[t21] h (fun t22 h_1 =>
  vNil a0 fun t25 =>
  vFA 4 t25 fun t26 =>
  vLoad none t26 h_1 fun t27 =>
  vIxS 1 t27 a1 fun t29 =>
  vLoad none t29 h_1 fun t30 =>
  vCall Tryz.prog 145 #[t30] h_1 (fun t31 h_2 =>
  vExt t31 0 fun t32 =>
  vExt t31 1 fun t33 =>
  vExt t31 2 fun t34 =>
  vLenS t34 fun t36 =>
  lf (b103_4 (fun c h => R (.pan c) h) (fun v h => exq (fun ρ => (ρ 0, ρ 1, ρ 5, ρ 8, ρ 9)) v (fun r h_3 =>
  lf (b103_16 (fun c h => R (.pan c) h) (fun v h => exq (fun ρ => ()) v (fun r_1 h_4 =>
  R (.ret (.tuple #[])) h_4) h)) ((r 0), (r 1), (r 5)) ((r 8), (r 9)) h_3) h)) (a0, a1, t22, t32, t34, t36) ((.slice none 0 0), (.slice none 0 0), (.int .i64 0)) h_2)
  (fun c h => R (.pan c) h))
  (fun c h => R (.pan c) h)
def L103 (Kp : List PanicEntry → PH → Prop) : Loops := fun c Q ρ h =>
    sel (Nat.beq (loopId c) 4) (lf (b103_4 Kp (fun v h => exq (fun ρ => (ρ 0, ρ 1, ρ 5, ρ 8, ρ 9)) v (Q (.exit 0)) h)) ((fun ρ => (ρ 0, ρ 1, ρ 4, ρ 5, ρ 35, ρ 36)) ρ) ((fun ρ => (ρ 8, ρ 9, ρ 37)) ρ) h)
    (sel (Nat.beq (loopId c) 7) (lf (b103_7 Kp (fun v h => exq (fun ρ => (ρ 0, ρ 1, ρ 4, ρ 5, ρ 8, ρ 9, ρ 35, ρ 36, ρ 37)) v (Q (.exit 2)) h)) ((fun ρ => (ρ 0, ρ 1, ρ 4, ρ 5, ρ 11, ρ 35, ρ 36, ρ 37, ρ 41, ρ 42)) ρ) ((fun ρ => (ρ 8, ρ 9, ρ 43)) ρ) h)
    (sel (Nat.beq (loopId c) 16) (lf (b103_16 Kp (fun v h => exq (fun ρ => ()) v (Q (.exit 4)) h)) ((fun ρ => (ρ 0, ρ 1, ρ 5)) ρ) ((fun ρ => (ρ 8, ρ 9)) ρ) h)
    (False)))
theorem B103_4 (Kp : List PanicEntry → PH → Prop) (KN : (Value × Value × Value × Value × Value × Value) → (Value × Value × Value) → PH → Prop) (XX : Exit → (Value × Value × Value × Value × Value) → PH → Prop) (ρ : Env) (h : PH) :
    den Tryz.prog qf (ordOf o103) Kp (L103 Kp) (loopAt c103 0) (lq KN XX (fun ρ => (ρ 0, ρ 1, ρ 4, ρ 5, ρ 35, ρ 36)) (fun ρ => (ρ 8, ρ 9, ρ 37)) (fun ρ => (ρ 0, ρ 1, ρ 5, ρ 8, ρ 9))) ρ h = b103_4 Kp (XX (.exit 0)) ((fun ρ => (ρ 0, ρ 1, ρ 4, ρ 5, ρ 35, ρ 36)) ρ) KN ((fun ρ => (ρ 8, ρ 9, ρ 37)) ρ) h := by kernel_rfl
theorem B103_7 (Kp : List PanicEntry → PH → Prop) (KN : (Value × Value × Value × Value × Value × Value × Value × Value × Value × Value) → (Value × Value × Value) → PH → Prop) (XX : Exit → (Value × Value × Value × Value × Value × Value × Value × Value × Value) → PH → Prop) (ρ : Env) (h : PH) :
    den Tryz.prog qf (ordOf o103) Kp (L103 Kp) (loopAt c103 1) (lq KN XX (fun ρ => (ρ 0, ρ 1, ρ 4, ρ 5, ρ 11, ρ 35, ρ 36, ρ 37, ρ 41, ρ 42)) (fun ρ => (ρ 8, ρ 9, ρ 43)) (fun ρ => (ρ 0, ρ 1, ρ 4, ρ 5, ρ 8, ρ 9, ρ 35, ρ 36, ρ 37))) ρ h = b103_7 Kp (XX (.exit 2)) ((fun ρ => (ρ 0, ρ 1, ρ 4, ρ 5, ρ 11, ρ 35, ρ 36, ρ 37, ρ 41, ρ 42)) ρ) KN ((fun ρ => (ρ 8, ρ 9, ρ 43)) ρ) h := by kernel_rfl
theorem B103_16 (Kp : List PanicEntry → PH → Prop) (KN : (Value × Value × Value) → (Value × Value) → PH → Prop) (XX : Exit → (Unit) → PH → Prop) (ρ : Env) (h : PH) :
    den Tryz.prog qf (ordOf o103) Kp (L103 Kp) (loopAt c103 2) (lq KN XX (fun ρ => (ρ 0, ρ 1, ρ 5)) (fun ρ => (ρ 8, ρ 9)) (fun ρ => ())) ρ h = b103_16 Kp (XX (.exit 4)) ((fun ρ => (ρ 0, ρ 1, ρ 5)) ρ) KN ((fun ρ => (ρ 8, ρ 9)) ρ) h := by kernel_rfl
theorem l103 (R : AEnd → PH → Prop) : LoopsOK Tryz.prog qf (ordOf o103) (fun c h => R (.pan c) h) (L103 (fun c h => R (.pan c) h)) c103 :=
  LoopsOK.mk 3 (by kernel_rfl) fun i hi Q ρ h H => match i, hi with
    | 0, _ => loop_gen (F := Value × Value × Value × Value × Value × Value) (S := Value × Value × Value) (X := Value × Value × Value × Value × Value) (φ := (fun ρ => (ρ 0, ρ 1, ρ 4, ρ 5, ρ 35, ρ 36))) (π := (fun ρ => (ρ 8, ρ 9, ρ 37))) (ξ := (fun ρ => (ρ 0, ρ 1, ρ 5, ρ 8, ρ 9))) (B := (fun (XX : Exit → (Value × Value × Value × Value × Value) → PH → Prop) => b103_4 (fun c h => R (.pan c) h) (XX (.exit 0)))) (B103_4 _) (of_den (by kernel_rfl) H)
    | 1, _ => loop_gen (F := Value × Value × Value × Value × Value × Value × Value × Value × Value × Value) (S := Value × Value × Value) (X := Value × Value × Value × Value × Value × Value × Value × Value × Value) (φ := (fun ρ => (ρ 0, ρ 1, ρ 4, ρ 5, ρ 11, ρ 35, ρ 36, ρ 37, ρ 41, ρ 42))) (π := (fun ρ => (ρ 8, ρ 9, ρ 43))) (ξ := (fun ρ => (ρ 0, ρ 1, ρ 4, ρ 5, ρ 8, ρ 9, ρ 35, ρ 36, ρ 37))) (B := (fun (XX : Exit → (Value × Value × Value × Value × Value × Value × Value × Value × Value) → PH → Prop) => b103_7 (fun c h => R (.pan c) h) (XX (.exit 2)))) (B103_7 _) (of_den (by kernel_rfl) H)
    | 2, _ => loop_gen (F := Value × Value × Value) (S := Value × Value) (X := Unit) (φ := (fun ρ => (ρ 0, ρ 1, ρ 5))) (π := (fun ρ => (ρ 8, ρ 9))) (ξ := (fun ρ => ())) (B := (fun (XX : Exit → (Unit) → PH → Prop) => b103_16 (fun c h => R (.pan c) h) (XX (.exit 4)))) (B103_16 _) (of_den (by kernel_rfl) H)
    | n + 3, hi => absurd hi (by omega)
theorem e103 (a0 a1 : Value) (h : PH) (R : AEnd → PH → Prop) : denF Tryz.prog qf (ordOf o103) (L103 (fun c h => R (.pan c) h)) Tryz.f103.results.toList c103 #[a0, a1] h R = sh103 a0 a1 h R := by kernel_rfl
theorem k103 : codeOK Tryz.prog qf Tryz.f103.ntmps (ordOf o103) c103 = true := by kernel_rfl
theorem s103 : Tryz.f103.body = some c103 := by kernel_rfl
theorem call103 {a0 a1 : Value} {h : PH} {R : AEnd → PH → Prop} (H : sh103 a0 a1 h R) : ACalls Tryz.prog 103 #[a0, a1] h R :=
  ACalls_of_den mixed Tryz.func103 s103 (by kernel_rfl) k103 (l103 R) (of_den (e103 a0 a1 h R) H)

/- (*gavel/house.House).round -/
noncomputable def c104 : Code := bodyOf Tryz.f104
def o104 : List (Nat × List (Nat × List Nat)) := [(14, [(0, []), (1, []), (2, []), (3, []), (4, []), (5, []), (7, []), (8, []), (9, []), (10, []), (12, []), (13, []), (6, [1, 10, 13]), (11, []), (14, [1, 10]), (15, []), (16, []), (17, [])]), (15, [(0, []), (1, []), (2, []), (3, []), (5, []), (6, []), (7, []), (8, []), (4, [8]), (9, []), (10, [])])]
def b104_4 (Kp : List PanicEntry → PH → Prop) (x0 : (Value × Value × Value × Value) → PH → Prop) (f : Value × Value × Value × Value × Value) (kn : (Value × Value × Value × Value × Value) → Value → PH → Prop) (s : Value) (h : PH) : Prop :=
  vBin Tryz.prog .lss 3 s f.2.2.2.2 fun t36 =>
  dIf t36 (vLoad (some 2) f.2.2.1 h fun t40 =>
  vCall Tryz.prog 102 #[t40, s] h (fun t42 h_1 =>
  vIxS 1 f.2.2.2.1 s fun t43 =>
  vStore 1 t43 t42 h_1 fun h_2 =>
  vBin Tryz.prog .add 3 s (.int .i64 1) fun t44 =>
  kn f t44 h_2)
  Kp)
  (x0 (f.1, f.2.1, f.2.2.1, f.2.2.2.1) h)

def b104_11 (Kp : List PanicEntry → PH → Prop) (x2 : Unit → PH → Prop) (f : Value × Value × Value × Value) (kn : (Value × Value × Value × Value) → Value → PH → Prop) (s : Value) (h : PH) : Prop :=
  vBin Tryz.prog .lss 3 s f.2.2.2 fun t56 =>
  dIf t56 (vFA 0 f.2.1 fun t59 =>
  vLoad none t59 h fun t60 =>
  vCall Tryz.prog 98 #[t60, s] h (fun t62 h_1 =>
  vExt t62 0 fun t63 =>
  vExt t62 1 fun t64 =>
  vFA 0 f.2.1 fun t65 =>
  vLoad none t65 h_1 fun t66 =>
  vIxS 1 f.2.2.1 s fun t74 =>
  vLoad none t74 h_1 fun t75 =>
  vFA 0 f.2.1 fun t77 =>
  vLoad none t77 h_1 fun t78 =>
  vCall Tryz.prog 111 #[f.1, s] h_1 (fun t71 h_2 =>
  (vLoad none t65 h_2 fun u =>
  t66 = u) ∧
  (vLoad none t74 h_2 fun u_1 =>
  t75 = u_1) ∧
  (vLoad none t77 h_2 fun u_2 =>
  t78 = u_2) ∧
  vBin Tryz.prog .add 3 t71 t75 fun t76 =>
  vCall Tryz.prog 109 #[t78] h_2 (fun t79 h_3 =>
  (vLoad none t65 h_3 fun u_3 =>
  t66 = u_3) ∧
  (vLoad none t74 h_3 fun u_4 =>
  t75 = u_4) ∧
  vBin Tryz.prog .quo 3 t76 t79 fun t80 =>
  vMinMax false t63 t80 fun t81 =>
  vCall Tryz.prog 112 #[t66, s, t81] h_3 (fun t82 h_4 =>
  vLoad (some 2) f.2.1 h_4 fun t85 =>
  vIxS 1 f.2.2.1 s fun t90 =>
  vLoad none t90 h_4 fun t91 =>
  vCall Tryz.prog 102 #[t85, s] h_4 (fun t87 h_5 =>
  (vLoad none t90 h_5 fun u_5 =>
  t91 = u_5) ∧
  vBin Tryz.prog .sub 3 t87 t91 fun t92 =>
  vCall Tryz.prog 113 #[f.1, s, t92] h_5 (fun t93 h_6 =>
  vBin Tryz.prog .add 3 s (.int .i64 1) fun t94 =>
  kn f t94 h_6)
  Kp)
  Kp)
  Kp)
  Kp)
  Kp)
  Kp)
  (x2 () h)

def b104_20 (Kp : List PanicEntry → PH → Prop) (x4 : (Value × Value × Value × Value) → PH → Prop) (f : Value × Value × Value × Value × Value × Value × Value) (kn : (Value × Value × Value × Value × Value × Value × Value) → (Value × Value) → PH → Prop) (s : Value × Value) (h : PH) : Prop :=
  vBin Tryz.prog .lss 3 s.2 f.2.2.2.2.2.2 fun t108 =>
  dIf t108 (vIxS 1 f.2.2.2.2.2.1 s.2 fun t110 =>
  vLoad none t110 h fun t111 =>
  vFA 1 f.2.2.1 fun t113 =>
  vLoad none t113 h fun t114 =>
  vCall Tryz.prog 146 #[f.1, t114, s.2, f.2.1, f.2.2.2.2.1, t111] h (fun t119 h_1 =>
  vBin Tryz.prog .mul 3 f.2.2.2.2.1 t111 fun t124 =>
  vIxS 1 f.2.2.2.1 s.2 fun t127 =>
  vLoad none t127 h_1 fun t128 =>
  vBin Tryz.prog .sub 3 t124 t128 fun t129 =>
  vCall Tryz.prog 113 #[f.1, s.2, t129] h_1 (fun t130 h_2 =>
  vBin Tryz.prog .sub 3 s.1 t111 fun t133 =>
  vBin Tryz.prog .add 3 s.2 (.int .i64 1) fun t134 =>
  kn f (t133, t134) h_2)
  Kp)
  Kp)
  (x4 (f.1, f.2.1, f.2.2.1, s.1) h)

def sh104 (a0 a1 : Value) (h : PH) (R : AEnd → PH → Prop) : Prop :=
  vNil a0 fun t19 =>
  vFA 5 t19 fun t20 =>
  vLoad none t20 h fun t21 =>
  vIxS 2 t21 a1 fun t23 =>
  vLoad (some 2) t23 h fun t24 =>
  vNew #[.pointer none, .int .i64 0] 98 h fun t4 h_1 =>
  vStore 2 t4 t24 h_1 fun h_2 =>
  vFA 0 t4 fun t25 =>
  vLoad none t25 h_2 fun t26 =>
  vBin Tryz.prog .eql 96 t26 (.pointer none) fun t27 =>
  dIf t27 (R (.ret (.tuple #[])) h_2)
  (vNil a0 fun t29 =>
  vFA 1 t29 fun t30 =>
  vLoad none t30 h_2 fun t31 =>
  vMakeS 3 1 8 #[.int .i64 0] t31 t31 h_2 fun t32 h_3 =>
  vLenS t32 fun t34 =>
  lf (b104_4 (fun c h => R (.pan c) h) (fun v h => exq (fun ρ => (ρ 0, ρ 1, ρ 4, ρ 5)) v (fun r h_4 =>
  vFA 0 (r 4) fun t46 =>
  vLoad none t46 h_4 fun t47 =>
  vCall Tryz.prog 147 #[t47] h_4 (fun t48 h_5 =>
  vExt t48 0 fun t49 =>
  vExt t48 1 fun t50 =>
  vUn Tryz.prog .not t49 fun t52 =>
  dIf t52 (vLenS (r 5) fun t54 =>
  lf (b104_11 (fun c h => R (.pan c) h) (fun v h => exq (fun ρ => ()) v (fun r_1 h_6 =>
  R (.ret (.tuple #[])) h_6) h)) ((r 0), (r 4), (r 5), t54) (.int .i64 0) h_5)
  (vFA 0 (r 4) fun t96 =>
  vLoad none t96 h_5 fun t97 =>
  vCall Tryz.prog 148 #[t97] h_5 (fun t98 h_7 =>
  vExt t98 0 fun t99 =>
  vExt t98 1 fun t100 =>
  vExt t98 2 fun t101 =>
  vFA 0 (r 4) fun t102 =>
  vLoad none t102 h_7 fun t103 =>
  vCall Tryz.prog 101 #[t103] h_7 (fun t104 h_8 =>
  vLenS t100 fun t106 =>
  lf (b104_20 (fun c h => R (.pan c) h) (fun v h => exq (fun ρ => (ρ 0, ρ 1, ρ 4, ρ 15)) v (fun r_2 h_9 =>
  vFA 1 (r_2 4) fun t136 =>
  vLoad none t136 h_9 fun t137 =>
  vUn Tryz.prog .neg (r_2 15) fun t140 =>
  vCall Tryz.prog 117 #[(r_2 0), t137, (r_2 1), t140] h_9 (fun t141 h_10 =>
  vNil (r_2 0) fun t143 =>
  vFA 5 t143 fun t144 =>
  vLoad none t144 h_10 fun t145 =>
  vBuild [(0, 1), (1, 1)] #[.pointer none, .int .i64 0] [] fun t147 =>
  vIxS 2 t145 (r_2 1) fun t148 =>
  vStore 2 t148 t147 h_10 fun h_11 =>
  R (.ret (.tuple #[])) h_11)
  (fun c h => R (.pan c) h)) h)) ((r 0), (r 1), (r 4), (r 5), t99, t100, t106) (t104, (.int .i64 0)) h_8)
  (fun c h => R (.pan c) h))
  (fun c h => R (.pan c) h)))
  (fun c h => R (.pan c) h)) h)) (a0, a1, t4, t32, t34) (.int .i64 0) h_3)
def L104 (Kp : List PanicEntry → PH → Prop) : Loops := fun c Q ρ h =>
    sel (Nat.beq (loopId c) 4) (lf (b104_4 Kp (fun v h => exq (fun ρ => (ρ 0, ρ 1, ρ 4, ρ 5)) v (Q (.exit 0)) h)) ((fun ρ => (ρ 0, ρ 1, ρ 4, ρ 5, ρ 34)) ρ) ((fun ρ => ρ 35) ρ) h)
    (sel (Nat.beq (loopId c) 11) (lf (b104_11 Kp (fun v h => exq (fun ρ => ()) v (Q (.exit 2)) h)) ((fun ρ => (ρ 0, ρ 4, ρ 5, ρ 54)) ρ) ((fun ρ => ρ 55) ρ) h)
    (sel (Nat.beq (loopId c) 20) (lf (b104_20 Kp (fun v h => exq (fun ρ => (ρ 0, ρ 1, ρ 4, ρ 15)) v (Q (.exit 4)) h)) ((fun ρ => (ρ 0, ρ 1, ρ 4, ρ 5, ρ 12, ρ 105, ρ 106)) ρ) ((fun ρ => (ρ 15, ρ 107)) ρ) h)
    (False)))
theorem B104_4 (Kp : List PanicEntry → PH → Prop) (KN : (Value × Value × Value × Value × Value) → (Value) → PH → Prop) (XX : Exit → (Value × Value × Value × Value) → PH → Prop) (ρ : Env) (h : PH) :
    den Tryz.prog qf (ordOf o104) Kp (L104 Kp) (loopAt c104 0) (lq KN XX (fun ρ => (ρ 0, ρ 1, ρ 4, ρ 5, ρ 34)) (fun ρ => ρ 35) (fun ρ => (ρ 0, ρ 1, ρ 4, ρ 5))) ρ h = b104_4 Kp (XX (.exit 0)) ((fun ρ => (ρ 0, ρ 1, ρ 4, ρ 5, ρ 34)) ρ) KN ((fun ρ => ρ 35) ρ) h := by kernel_rfl
theorem B104_11 (Kp : List PanicEntry → PH → Prop) (KN : (Value × Value × Value × Value) → (Value) → PH → Prop) (XX : Exit → (Unit) → PH → Prop) (ρ : Env) (h : PH) :
    den Tryz.prog qf (ordOf o104) Kp (L104 Kp) (loopAt c104 1) (lq KN XX (fun ρ => (ρ 0, ρ 4, ρ 5, ρ 54)) (fun ρ => ρ 55) (fun ρ => ())) ρ h = b104_11 Kp (XX (.exit 2)) ((fun ρ => (ρ 0, ρ 4, ρ 5, ρ 54)) ρ) KN ((fun ρ => ρ 55) ρ) h := by kernel_rfl
theorem B104_20 (Kp : List PanicEntry → PH → Prop) (KN : (Value × Value × Value × Value × Value × Value × Value) → (Value × Value) → PH → Prop) (XX : Exit → (Value × Value × Value × Value) → PH → Prop) (ρ : Env) (h : PH) :
    den Tryz.prog qf (ordOf o104) Kp (L104 Kp) (loopAt c104 2) (lq KN XX (fun ρ => (ρ 0, ρ 1, ρ 4, ρ 5, ρ 12, ρ 105, ρ 106)) (fun ρ => (ρ 15, ρ 107)) (fun ρ => (ρ 0, ρ 1, ρ 4, ρ 15))) ρ h = b104_20 Kp (XX (.exit 4)) ((fun ρ => (ρ 0, ρ 1, ρ 4, ρ 5, ρ 12, ρ 105, ρ 106)) ρ) KN ((fun ρ => (ρ 15, ρ 107)) ρ) h := by kernel_rfl
theorem l104 (R : AEnd → PH → Prop) : LoopsOK Tryz.prog qf (ordOf o104) (fun c h => R (.pan c) h) (L104 (fun c h => R (.pan c) h)) c104 :=
  LoopsOK.mk 3 (by kernel_rfl) fun i hi Q ρ h H => match i, hi with
    | 0, _ => loop_gen (F := Value × Value × Value × Value × Value) (S := Value) (X := Value × Value × Value × Value) (φ := (fun ρ => (ρ 0, ρ 1, ρ 4, ρ 5, ρ 34))) (π := (fun ρ => ρ 35)) (ξ := (fun ρ => (ρ 0, ρ 1, ρ 4, ρ 5))) (B := (fun (XX : Exit → (Value × Value × Value × Value) → PH → Prop) => b104_4 (fun c h => R (.pan c) h) (XX (.exit 0)))) (B104_4 _) (of_den (by kernel_rfl) H)
    | 1, _ => loop_gen (F := Value × Value × Value × Value) (S := Value) (X := Unit) (φ := (fun ρ => (ρ 0, ρ 4, ρ 5, ρ 54))) (π := (fun ρ => ρ 55)) (ξ := (fun ρ => ())) (B := (fun (XX : Exit → (Unit) → PH → Prop) => b104_11 (fun c h => R (.pan c) h) (XX (.exit 2)))) (B104_11 _) (of_den (by kernel_rfl) H)
    | 2, _ => loop_gen (F := Value × Value × Value × Value × Value × Value × Value) (S := Value × Value) (X := Value × Value × Value × Value) (φ := (fun ρ => (ρ 0, ρ 1, ρ 4, ρ 5, ρ 12, ρ 105, ρ 106))) (π := (fun ρ => (ρ 15, ρ 107))) (ξ := (fun ρ => (ρ 0, ρ 1, ρ 4, ρ 15))) (B := (fun (XX : Exit → (Value × Value × Value × Value) → PH → Prop) => b104_20 (fun c h => R (.pan c) h) (XX (.exit 4)))) (B104_20 _) (of_den (by kernel_rfl) H)
    | n + 3, hi => absurd hi (by omega)
theorem e104 (a0 a1 : Value) (h : PH) (R : AEnd → PH → Prop) : denF Tryz.prog qf (ordOf o104) (L104 (fun c h => R (.pan c) h)) Tryz.f104.results.toList c104 #[a0, a1] h R = sh104 a0 a1 h R := by kernel_rfl
theorem k104 : codeOK Tryz.prog qf Tryz.f104.ntmps (ordOf o104) c104 = true := by kernel_rfl
theorem s104 : Tryz.f104.body = some c104 := by kernel_rfl
theorem call104 {a0 a1 : Value} {h : PH} {R : AEnd → PH → Prop} (H : sh104 a0 a1 h R) : ACalls Tryz.prog 104 #[a0, a1] h R :=
  ACalls_of_den mixed Tryz.func104 s104 (by kernel_rfl) k104 (l104 R) (of_den (e104 a0 a1 h R) H)

end Go.Pw
/- The functions of the program, told as predicate transformers: printed by wip/tools/shprint.py; each is what the model makes of the function, by the kernel's reckoning. -/
set_option linter.unusedVariables false
set_option maxRecDepth 100000
namespace Go.Pw
open Go Go.Proofs
/- (*gavel/ledger.Ledger).part -/
noncomputable def c105 : Code := bodyOf Tryz.f105
def o105 : List (Nat × List (Nat × List Nat)) := []
def sh105 (a0 a1 a2 a3 : Value) (h : PH) (R : AEnd → PH → Prop) : Prop :=
  vCall Tryz.prog 57 #[a0, a1] h (fun t15 h_1 =>
  vExt t15 0 fun t16 =>
  vExt t15 1 fun t17 =>
  vBin Tryz.prog .eql 30 t17 (.int .i64 0) fun t19 =>
  gq (boolOf t19) true (fun K =>
  K a2 h_1)
  (fun t21 h_2 =>
  gq (boolOf t19) true (fun K_1 =>
  vBin Tryz.prog .lss 3 t21 (.int .i64 0) fun u =>
  K_1 u h_2)
  (fun t22 h_3 =>
  gq (boolOf t19) true (fun K_2 =>
  K_2 t22 h_3)
  (fun t23 h_4 =>
  gq (boolOf t23) false (fun K_3 =>
  K_3 a2 h_4)
  (fun t24 h_5 =>
  gq (boolOf t23) false (fun K_4 =>
  K_4 a0 h_5)
  (fun t25 h_6 =>
  gq (boolOf t23) false (fun K_5 =>
  vNil t25 fun u_1 =>
  K_5 u_1 h_6)
  (fun t26 h_7 =>
  gq (boolOf t23) false (fun K_6 =>
  vFA 0 t26 fun u_2 =>
  K_6 u_2 h_7)
  (fun t27 h_8 =>
  gq (boolOf t23) false (fun K_7 =>
  vLoad none t27 h_8 fun u_3 =>
  K_7 u_3 h_8)
  (fun t28 h_9 =>
  gq (boolOf t23) false (fun K_8 =>
  vBin Tryz.prog .geq 3 t24 t28 fun u_4 =>
  K_8 u_4 h_9)
  (fun t29 h_10 =>
  gq (boolOf t19) true (fun K_9 =>
  vPick t23 (.bool true) t29 fun u_5 =>
  K_9 u_5 h_10)
  (fun t30 h_11 =>
  gq (boolOf t19) true (fun K_10 =>
  K_10 t30 h_11)
  (fun t31 h_12 =>
  gq (boolOf t31) false (fun K_11 =>
  K_11 a3 h_12)
  (fun t32 h_13 =>
  gq (boolOf t31) false (fun K_12 =>
  vCall Tryz.prog 149 #[t32] h_13 (fun u_6 h_14 =>
  K_12 u_6 h_14)
  (fun c h => R (.pan c) h))
  (fun t33 h_15 =>
  gq (boolOf t31) false (fun K_13 =>
  vUn Tryz.prog .not t33 fun u_7 =>
  K_13 u_7 h_15)
  (fun t34 h_16 =>
  gq (boolOf t19) true (fun K_14 =>
  vPick t31 (.bool true) t34 fun u_8 =>
  K_14 u_8 h_16)
  (fun t35 h_17 =>
  vPick t19 t35 (.bool false) fun t36 =>
  dIf t36 (R (.ret (.tuple #[t16, (.int .i64 1)])) h_17)
  (R (.ret (.tuple #[t16, t17])) h_17)) h_16) h_15) h_13) h_12) h_11) h_10) h_9) h_8) h_7) h_6) h_5) h_4) h_3) h_2) h_1)
  (fun c h => R (.pan c) h)
theorem l105 (R : AEnd → PH → Prop) : LoopsOK Tryz.prog qf (ordOf o105) (fun c h => R (.pan c) h) noLoops c105 := noLoops_ok (by kernel_rfl)
theorem e105 (a0 a1 a2 a3 : Value) (h : PH) (R : AEnd → PH → Prop) : denF Tryz.prog qf (ordOf o105) noLoops Tryz.f105.results.toList c105 #[a0, a1, a2, a3] h R = sh105 a0 a1 a2 a3 h R := by kernel_rfl
theorem k105 : codeOK Tryz.prog qf Tryz.f105.ntmps (ordOf o105) c105 = true := by kernel_rfl
theorem s105 : Tryz.f105.body = some c105 := by kernel_rfl
theorem call105 {a0 a1 a2 a3 : Value} {h : PH} {R : AEnd → PH → Prop} (H : sh105 a0 a1 a2 a3 h R) : ACalls Tryz.prog 105 #[a0, a1, a2, a3] h R :=
  ACalls_of_den mixed Tryz.func105 s105 (by kernel_rfl) k105 (l105 R) (of_den (e105 a0 a1 a2 a3 h R) H)

/- gavel/quote.Ticks -/
noncomputable def c106 : Code := bodyOf Tryz.f106
def o106 : List (Nat × List (Nat × List Nat)) := []
def sh106 (a0 a1 : Value) (h : PH) (R : AEnd → PH → Prop) : Prop :=
  vBin Tryz.prog .lss 3 a1 (.int .i64 0) fun t8 =>
  gq (boolOf t8) false (fun K =>
  K a1 h)
  (fun t10 h_1 =>
  gq (boolOf t8) false (fun K_1 =>
  vBin Tryz.prog .gtr 3 t10 (.int .i64 20) fun u =>
  K_1 u h_1)
  (fun t11 h_2 =>
  vPick t8 (.bool true) t11 fun t12 =>
  dIf t12 (R (.ret (.tuple #[(.int .i64 0), (.int .i64 1)])) h_2)
  (vBin Tryz.prog .shl 3 (.int .i64 1) a1 fun t15 =>
  vConvIF .f64 t15 fun t16 =>
  vFArith .mul a0 t16 h_2 fun t17 h_3 =>
  vBin Tryz.prog .neq 23 a0 a0 fun t21 =>
  dIf t21 (R (.ret (.tuple #[(.int .i64 0), (.int .i64 50)])) h_3)
  (vCall Tryz.prog 150 #[a0, (.int .i64 0)] h_3 (fun t24 h_4 =>
  dIf t24 (R (.ret (.tuple #[(.int .i64 0), (.int .i64 51)])) h_4)
  (vBin Tryz.prog .lss 23 a0 (.float .f64 0) fun t27 =>
  dIf t27 (R (.ret (.tuple #[(.int .i64 0), (.int .i64 52)])) h_4)
  (vBin Tryz.prog .gtr 23 t17 (.float .f64 4787326403894837248) fun t30 =>
  dIf t30 (R (.ret (.tuple #[(.int .i64 0), (.int .i64 54)])) h_4)
  (vCall Tryz.prog 151 #[t17] h_4 (fun t34 h_5 =>
  vBin Tryz.prog .neq 23 t17 t34 fun t35 =>
  dIf t35 (R (.ret (.tuple #[(.int .i64 0), (.int .i64 53)])) h_5)
  (vConvFI .i64 t17 fun t37 =>
  R (.ret (.tuple #[t37, (.int .i64 0)])) h_5))
  (fun c h => R (.pan c) h)))))
  (fun c h => R (.pan c) h)))) h_1) h
theorem l106 (R : AEnd → PH → Prop) : LoopsOK Tryz.prog qf (ordOf o106) (fun c h => R (.pan c) h) noLoops c106 := noLoops_ok (by kernel_rfl)
theorem e106 (a0 a1 : Value) (h : PH) (R : AEnd → PH → Prop) : denF Tryz.prog qf (ordOf o106) noLoops Tryz.f106.results.toList c106 #[a0, a1] h R = sh106 a0 a1 h R := by kernel_rfl
theorem k106 : codeOK Tryz.prog qf Tryz.f106.ntmps (ordOf o106) c106 = true := by kernel_rfl
theorem s106 : Tryz.f106.body = some c106 := by kernel_rfl
theorem call106 {a0 a1 : Value} {h : PH} {R : AEnd → PH → Prop} (H : sh106 a0 a1 h R) : ACalls Tryz.prog 106 #[a0, a1] h R :=
  ACalls_of_den mixed Tryz.func106 s106 (by kernel_rfl) k106 (l106 R) (of_den (e106 a0 a1 h R) H)

/- (*gavel/ledger.Ledger).Lock -/
noncomputable def c107 : Code := bodyOf Tryz.f107
def o107 : List (Nat × List (Nat × List Nat)) := [(4, [(0, []), (1, []), (2, []), (3, []), (4, []), (5, []), (6, []), (7, []), (8, []), (9, []), (10, []), (11, []), (12, []), (13, []), (14, []), (15, []), (16, [])]), (6, [(0, []), (1, []), (2, []), (3, []), (4, []), (5, []), (6, []), (7, []), (8, []), (9, []), (10, []), (11, []), (12, []), (13, [])])]
def sh107 (a0 a1 a2 a3 : Value) (h : PH) (R : AEnd → PH → Prop) : Prop :=
  vCall Tryz.prog 105 #[a0, a1, a2, a3] h (fun t16 h_1 =>
  vExt t16 0 fun t17 =>
  vExt t16 1 fun t18 =>
  vBin Tryz.prog .neq 30 t18 (.int .i64 0) fun t20 =>
  dIf t20 (R (.ret t18) h_1)
  (vNil t17 fun t24 =>
  vFA 0 t24 fun t25 =>
  vFA 2 t25 fun t26 =>
  vIxA 4 1 t26 a2 fun t27 =>
  vLoad none t27 h_1 fun t28 =>
  vNil t17 fun t31 =>
  vFA 0 t31 fun t32 =>
  vFA 6 t32 fun t33 =>
  vIxA 4 1 t33 a2 fun t34 =>
  vLoad none t34 h_1 fun t35 =>
  vBin Tryz.prog .sub 3 t28 t35 fun t36 =>
  vBin Tryz.prog .lss 3 t36 a3 fun t38 =>
  dIf t38 (R (.ret (.int .i64 61)) h_1)
  (vNil t17 fun t41 =>
  vFA 0 t41 fun t42 =>
  vFA 6 t42 fun t43 =>
  vIxA 4 1 t43 a2 fun t44 =>
  vLoad none t44 h_1 fun t45 =>
  vBin Tryz.prog .add 3 t45 a3 fun t47 =>
  vNil t17 fun t48 =>
  vFA 0 t48 fun t49 =>
  vFA 6 t49 fun t50 =>
  vIxA 4 1 t50 a2 fun t51 =>
  vStore 1 t51 t47 h_1 fun h_2 =>
  R (.ret (.int .i64 0)) h_2)))
  (fun c h => R (.pan c) h)
theorem l107 (R : AEnd → PH → Prop) : LoopsOK Tryz.prog qf (ordOf o107) (fun c h => R (.pan c) h) noLoops c107 := noLoops_ok (by kernel_rfl)
theorem e107 (a0 a1 a2 a3 : Value) (h : PH) (R : AEnd → PH → Prop) : denF Tryz.prog qf (ordOf o107) noLoops Tryz.f107.results.toList c107 #[a0, a1, a2, a3] h R = sh107 a0 a1 a2 a3 h R := by kernel_rfl
theorem k107 : codeOK Tryz.prog qf Tryz.f107.ntmps (ordOf o107) c107 = true := by kernel_rfl
theorem s107 : Tryz.f107.body = some c107 := by kernel_rfl
theorem call107 {a0 a1 a2 a3 : Value} {h : PH} {R : AEnd → PH → Prop} (H : sh107 a0 a1 a2 a3 h R) : ACalls Tryz.prog 107 #[a0, a1, a2, a3] h R :=
  ACalls_of_den mixed Tryz.func107 s107 (by kernel_rfl) k107 (l107 R) (of_den (e107 a0 a1 a2 a3 h R) H)

/- (*gavel/clock.Auction).Last -/
noncomputable def c108 : Code := bodyOf Tryz.f108
def o108 : List (Nat × List (Nat × List Nat)) := [(3, [(0, []), (2, []), (3, []), (4, []), (5, []), (1, [5]), (6, []), (7, [])])]
def sh108 (a0 : Value) (h : PH) (R : AEnd → PH → Prop) : Prop :=
  vBin Tryz.prog .eql 96 a0 (.pointer none) fun t4 =>
  gq (boolOf t4) false (fun K =>
  K a0 h)
  (fun t6 h_1 =>
  gq (boolOf t4) false (fun K_1 =>
  vNil t6 fun u =>
  K_1 u h_1)
  (fun t7 h_2 =>
  gq (boolOf t4) false (fun K_2 =>
  vFA 3 t7 fun u_1 =>
  K_2 u_1 h_2)
  (fun t8 h_3 =>
  gq (boolOf t4) false (fun K_3 =>
  vLoad none t8 h_3 fun u_2 =>
  K_3 u_2 h_3)
  (fun t9 h_4 =>
  gq (boolOf t4) false (fun K_4 =>
  vBin Tryz.prog .eql 3 t9 (.int .i64 1) fun u_3 =>
  K_4 u_3 h_4)
  (fun t10 h_5 =>
  vPick t4 (.bool true) t10 fun t11 =>
  dIf t11 (R (.ret (.int .i64 0)) h_5)
  (vNil a0 fun t15 =>
  vFA 2 t15 fun t16 =>
  vLoad none t16 h_5 fun t17 =>
  vCall Tryz.prog 109 #[a0] h_5 (fun t13 h_6 =>
  (vLoad none t16 h_6 fun u_4 =>
  t17 = u_4) ∧
  vBin Tryz.prog .sub 3 t13 t17 fun t18 =>
  R (.ret t18) h_6)
  (fun c h => R (.pan c) h))) h_4) h_3) h_2) h_1) h
theorem l108 (R : AEnd → PH → Prop) : LoopsOK Tryz.prog qf (ordOf o108) (fun c h => R (.pan c) h) noLoops c108 := noLoops_ok (by kernel_rfl)
theorem e108 (a0 : Value) (h : PH) (R : AEnd → PH → Prop) : denF Tryz.prog qf (ordOf o108) noLoops Tryz.f108.results.toList c108 #[a0] h R = sh108 a0 h R := by kernel_rfl
theorem k108 : codeOK Tryz.prog qf Tryz.f108.ntmps (ordOf o108) c108 = true := by kernel_rfl
theorem s108 : Tryz.f108.body = some c108 := by kernel_rfl
theorem call108 {a0 : Value} {h : PH} {R : AEnd → PH → Prop} (H : sh108 a0 h R) : ACalls Tryz.prog 108 #[a0] h R :=
  ACalls_of_den mixed Tryz.func108 s108 (by kernel_rfl) k108 (l108 R) (of_den (e108 a0 h R) H)

/- (*gavel/clock.Auction).Price -/
noncomputable def c109 : Code := bodyOf Tryz.f109
def o109 : List (Nat × List (Nat × List Nat)) := [(3, [(0, []), (1, []), (2, []), (3, []), (4, []), (5, []), (6, []), (7, []), (8, []), (9, []), (10, []), (11, []), (12, []), (13, []), (14, []), (15, [])])]
def sh109 (a0 : Value) (h : PH) (R : AEnd → PH → Prop) : Prop :=
  vBin Tryz.prog .eql 96 a0 (.pointer none) fun t4 =>
  dIf t4 (R (.ret (.int .i64 0)) h)
  (vNil a0 fun t6 =>
  vFA 1 t6 fun t7 =>
  vLoad none t7 h fun t8 =>
  vNil a0 fun t10 =>
  vFA 3 t10 fun t11 =>
  vLoad none t11 h fun t12 =>
  vBin Tryz.prog .sub 3 t12 (.int .i64 1) fun t13 =>
  vNil a0 fun t15 =>
  vFA 2 t15 fun t16 =>
  vLoad none t16 h fun t17 =>
  vBin Tryz.prog .mul 3 t13 t17 fun t18 =>
  vBin Tryz.prog .add 3 t8 t18 fun t19 =>
  R (.ret t19) h)
theorem l109 (R : AEnd → PH → Prop) : LoopsOK Tryz.prog qf (ordOf o109) (fun c h => R (.pan c) h) noLoops c109 := noLoops_ok (by kernel_rfl)
theorem e109 (a0 : Value) (h : PH) (R : AEnd → PH → Prop) : denF Tryz.prog qf (ordOf o109) noLoops Tryz.f109.results.toList c109 #[a0] h R = sh109 a0 h R := by kernel_rfl
theorem k109 : codeOK Tryz.prog qf Tryz.f109.ntmps (ordOf o109) c109 = true := by kernel_rfl
theorem s109 : Tryz.f109.body = some c109 := by kernel_rfl
theorem call109 {a0 : Value} {h : PH} {R : AEnd → PH → Prop} (H : sh109 a0 h R) : ACalls Tryz.prog 109 #[a0] h R :=
  ACalls_of_den mixed Tryz.func109 s109 (by kernel_rfl) k109 (l109 R) (of_den (e109 a0 h R) H)

/- (*gavel/clock.Auction).Round -/
noncomputable def c110 : Code := bodyOf Tryz.f110
def o110 : List (Nat × List (Nat × List Nat)) := []
def sh110 (a0 : Value) (h : PH) (R : AEnd → PH → Prop) : Prop :=
  vBin Tryz.prog .eql 96 a0 (.pointer none) fun t4 =>
  dIf t4 (R (.ret (.int .i64 0)) h)
  (vNil a0 fun t6 =>
  vFA 3 t6 fun t7 =>
  vLoad none t7 h fun t8 =>
  R (.ret t8) h)
theorem l110 (R : AEnd → PH → Prop) : LoopsOK Tryz.prog qf (ordOf o110) (fun c h => R (.pan c) h) noLoops c110 := noLoops_ok (by kernel_rfl)
theorem e110 (a0 : Value) (h : PH) (R : AEnd → PH → Prop) : denF Tryz.prog qf (ordOf o110) noLoops Tryz.f110.results.toList c110 #[a0] h R = sh110 a0 h R := by kernel_rfl
theorem k110 : codeOK Tryz.prog qf Tryz.f110.ntmps (ordOf o110) c110 = true := by kernel_rfl
theorem s110 : Tryz.f110.body = some c110 := by kernel_rfl
theorem call110 {a0 : Value} {h : PH} {R : AEnd → PH → Prop} (H : sh110 a0 h R) : ACalls Tryz.prog 110 #[a0] h R :=
  ACalls_of_den mixed Tryz.func110 s110 (by kernel_rfl) k110 (l110 R) (of_den (e110 a0 h R) H)

/- (*gavel/house.House).free -/
noncomputable def c111 : Code := bodyOf Tryz.f111
def o111 : List (Nat × List (Nat × List Nat)) := []
def sh111 (a0 a1 : Value) (h : PH) (R : AEnd → PH → Prop) : Prop :=
  vNil a0 fun t9 =>
  vFA 0 t9 fun t10 =>
  vLoad none t10 h fun t11 =>
  vCall Tryz.prog 30 #[t11, a1] h (fun t13 h_1 =>
  vExt t13 0 fun t14 =>
  vExt t13 1 fun t15 =>
  vNew #[.int .i64 0, .int .i64 0, .int .i64 0, .int .i64 0, .int .i64 0, .int .i64 0, .int .i64 0, .int .i64 0, .int .i64 0, .int .i64 0] 61 h_1 fun t5 h_2 =>
  vStore 10 t5 t14 h_2 fun h_3 =>
  vFA 0 t5 fun t16 =>
  vLoad none t16 h_3 fun t17 =>
  vFA 1 t5 fun t18 =>
  vLoad none t18 h_3 fun t19 =>
  vBin Tryz.prog .sub 3 t17 t19 fun t20 =>
  R (.ret t20) h_3)
  (fun c h => R (.pan c) h)
theorem l111 (R : AEnd → PH → Prop) : LoopsOK Tryz.prog qf (ordOf o111) (fun c h => R (.pan c) h) noLoops c111 := noLoops_ok (by kernel_rfl)
theorem e111 (a0 a1 : Value) (h : PH) (R : AEnd → PH → Prop) : denF Tryz.prog qf (ordOf o111) noLoops Tryz.f111.results.toList c111 #[a0, a1] h R = sh111 a0 a1 h R := by kernel_rfl
theorem k111 : codeOK Tryz.prog qf Tryz.f111.ntmps (ordOf o111) c111 = true := by kernel_rfl
theorem s111 : Tryz.f111.body = some c111 := by kernel_rfl
theorem call111 {a0 a1 : Value} {h : PH} {R : AEnd → PH → Prop} (H : sh111 a0 a1 h R) : ACalls Tryz.prog 111 #[a0, a1] h R :=
  ACalls_of_den mixed Tryz.func111 s111 (by kernel_rfl) k111 (l111 R) (of_den (e111 a0 a1 h R) H)

/- (*gavel/clock.Auction).Bid -/
noncomputable def c112 : Code := bodyOf Tryz.f112
def o112 : List (Nat × List (Nat × List Nat)) := []
def sh112 (a0 a1 a2 : Value) (h : PH) (R : AEnd → PH → Prop) : Prop :=
  vBin Tryz.prog .eql 96 a0 (.pointer none) fun t9 =>
  dIf t9 (R (.ret (.int .i64 1)) h)
  (vNil a0 fun t12 =>
  vFA 4 t12 fun t13 =>
  vLoad none t13 h fun t14 =>
  vBin Tryz.prog .neq 3 t14 (.int .i64 0) fun t15 =>
  dIf t15 (R (.ret (.int .i64 70)) h)
  (vBin Tryz.prog .lss 3 a1 (.int .i64 0) fun t18 =>
  gq (boolOf t18) false (fun K =>
  K a1 h)
  (fun t20 h_1 =>
  gq (boolOf t18) false (fun K_1 =>
  K_1 a0 h_1)
  (fun t21 h_2 =>
  gq (boolOf t18) false (fun K_2 =>
  vNil t21 fun u =>
  K_2 u h_2)
  (fun t22 h_3 =>
  gq (boolOf t18) false (fun K_3 =>
  vFA 5 t22 fun u_1 =>
  K_3 u_1 h_3)
  (fun t23 h_4 =>
  gq (boolOf t18) false (fun K_4 =>
  vLoad none t23 h_4 fun u_2 =>
  K_4 u_2 h_4)
  (fun t24 h_5 =>
  gq (boolOf t18) false (fun K_5 =>
  vLenS t24 fun u_3 =>
  K_5 u_3 h_5)
  (fun t25 h_6 =>
  gq (boolOf t18) false (fun K_6 =>
  vBin Tryz.prog .geq 3 t20 t25 fun u_4 =>
  K_6 u_4 h_6)
  (fun t26 h_7 =>
  vPick t18 (.bool true) t26 fun t27 =>
  gq (boolOf t27) false (fun K_7 =>
  K_7 a2 h_7)
  (fun t29 h_8 =>
  gq (boolOf t27) false (fun K_8 =>
  vBin Tryz.prog .lss 3 t29 (.int .i64 0) fun u_5 =>
  K_8 u_5 h_8)
  (fun t30 h_9 =>
  vPick t27 (.bool true) t30 fun t31 =>
  gq (boolOf t31) false (fun K_9 =>
  K_9 a2 h_9)
  (fun t33 h_10 =>
  gq (boolOf t31) false (fun K_10 =>
  vBin Tryz.prog .gtr 3 t33 (.int .i64 1048576) fun u_6 =>
  K_10 u_6 h_10)
  (fun t34 h_11 =>
  vPick t31 (.bool true) t34 fun t35 =>
  dIf t35 (R (.ret (.int .i64 1)) h_11)
  (vNil a0 fun t38 =>
  vFA 3 t38 fun t39 =>
  vLoad none t39 h_11 fun t40 =>
  vBin Tryz.prog .gtr 3 t40 (.int .i64 1) fun t41 =>
  gq (boolOf t41) true (fun K_11 =>
  K_11 a2 h_11)
  (fun t43 h_12 =>
  gq (boolOf t41) true (fun K_12 =>
  K_12 a0 h_12)
  (fun t44 h_13 =>
  gq (boolOf t41) true (fun K_13 =>
  vNil t44 fun u_7 =>
  K_13 u_7 h_13)
  (fun t45 h_14 =>
  gq (boolOf t41) true (fun K_14 =>
  vFA 5 t45 fun u_8 =>
  K_14 u_8 h_14)
  (fun t46 h_15 =>
  gq (boolOf t41) true (fun K_15 =>
  vLoad none t46 h_15 fun u_9 =>
  K_15 u_9 h_15)
  (fun t47 h_16 =>
  gq (boolOf t41) true (fun K_16 =>
  K_16 a1 h_16)
  (fun t48 h_17 =>
  gq (boolOf t41) true (fun K_17 =>
  vIxS 2 t47 t48 fun u_10 =>
  K_17 u_10 h_17)
  (fun t49 h_18 =>
  gq (boolOf t41) true (fun K_18 =>
  vFA 0 t49 fun u_11 =>
  K_18 u_11 h_18)
  (fun t50 h_19 =>
  gq (boolOf t41) true (fun K_19 =>
  vLoad none t50 h_19 fun u_12 =>
  K_19 u_12 h_19)
  (fun t51 h_20 =>
  gq (boolOf t41) true (fun K_20 =>
  vBin Tryz.prog .gtr 3 t43 t51 fun u_13 =>
  K_20 u_13 h_20)
  (fun t52 h_21 =>
  vPick t41 t52 (.bool false) fun t53 =>
  dIf t53 (R (.ret (.int .i64 71)) h_21)
  (vNil a0 fun t55 =>
  vFA 5 t55 fun t56 =>
  vLoad none t56 h_21 fun t57 =>
  vIxS 2 t57 a1 fun t60 =>
  vFA 1 t60 fun t61 =>
  vStore 1 t61 a2 h_21 fun h_22 =>
  R (.ret (.int .i64 0)) h_22)) h_20) h_19) h_18) h_17) h_16) h_15) h_14) h_13) h_12) h_11)) h_10) h_9) h_8) h_7) h_6) h_5) h_4) h_3) h_2) h_1) h))
theorem l112 (R : AEnd → PH → Prop) : LoopsOK Tryz.prog qf (ordOf o112) (fun c h => R (.pan c) h) noLoops c112 := noLoops_ok (by kernel_rfl)
theorem e112 (a0 a1 a2 : Value) (h : PH) (R : AEnd → PH → Prop) : denF Tryz.prog qf (ordOf o112) noLoops Tryz.f112.results.toList c112 #[a0, a1, a2] h R = sh112 a0 a1 a2 h R := by kernel_rfl
theorem k112 : codeOK Tryz.prog qf Tryz.f112.ntmps (ordOf o112) c112 = true := by kernel_rfl
theorem s112 : Tryz.f112.body = some c112 := by kernel_rfl
theorem call112 {a0 a1 a2 : Value} {h : PH} {R : AEnd → PH → Prop} (H : sh112 a0 a1 a2 h R) : ACalls Tryz.prog 112 #[a0, a1, a2] h R :=
  ACalls_of_den mixed Tryz.func112 s112 (by kernel_rfl) k112 (l112 R) (of_den (e112 a0 a1 a2 h R) H)

/- (*gavel/house.House).hold -/
noncomputable def c113 : Code := bodyOf Tryz.f113
def o113 : List (Nat × List (Nat × List Nat)) := []
def sh113 (a0 a1 a2 : Value) (h : PH) (R : AEnd → PH → Prop) : Prop :=
  vBin Tryz.prog .gtr 3 a2 (.int .i64 0) fun t7 =>
  dIf t7 (vNil a0 fun t9 =>
  vFA 0 t9 fun t10 =>
  vLoad none t10 h fun t11 =>
  vCall Tryz.prog 152 #[t11, a1, a2] h (fun t14 h_1 =>
  vBin Tryz.prog .lss 3 a2 (.int .i64 0) fun t16 =>
  dIf t16 (vNil a0 fun t18 =>
  vFA 0 t18 fun t19 =>
  vLoad none t19 h_1 fun t20 =>
  vUn Tryz.prog .neg a2 fun t23 =>
  vCall Tryz.prog 153 #[t20, a1, t23] h_1 (fun t24 h_2 =>
  R (.ret (.tuple #[])) h_2)
  (fun c h => R (.pan c) h))
  (R (.ret (.tuple #[])) h_1))
  (fun c h => R (.pan c) h))
  (vBin Tryz.prog .lss 3 a2 (.int .i64 0) fun t16_1 =>
  dIf t16_1 (vNil a0 fun t18_1 =>
  vFA 0 t18_1 fun t19_1 =>
  vLoad none t19_1 h fun t20_1 =>
  vUn Tryz.prog .neg a2 fun t23_1 =>
  vCall Tryz.prog 153 #[t20_1, a1, t23_1] h (fun t24_1 h_3 =>
  R (.ret (.tuple #[])) h_3)
  (fun c h => R (.pan c) h))
  (R (.ret (.tuple #[])) h))
theorem l113 (R : AEnd → PH → Prop) : LoopsOK Tryz.prog qf (ordOf o113) (fun c h => R (.pan c) h) noLoops c113 := noLoops_ok (by kernel_rfl)
theorem e113 (a0 a1 a2 : Value) (h : PH) (R : AEnd → PH → Prop) : denF Tryz.prog qf (ordOf o113) noLoops Tryz.f113.results.toList c113 #[a0, a1, a2] h R = sh113 a0 a1 a2 h R := by kernel_rfl
theorem k113 : codeOK Tryz.prog qf Tryz.f113.ntmps (ordOf o113) c113 = true := by kernel_rfl
theorem s113 : Tryz.f113.body = some c113 := by kernel_rfl
theorem call113 {a0 a1 a2 : Value} {h : PH} {R : AEnd → PH → Prop} (H : sh113 a0 a1 a2 h R) : ACalls Tryz.prog 113 #[a0, a1, a2] h R :=
  ACalls_of_den mixed Tryz.func113 s113 (by kernel_rfl) k113 (l113 R) (of_den (e113 a0 a1 a2 h R) H)

/- (*gavel/house.House).terms -/
noncomputable def c114 : Code := bodyOf Tryz.f114
def o114 : List (Nat × List (Nat × List Nat)) := [(1, [(0, []), (1, []), (2, []), (3, []), (4, []), (5, []), (6, []), (7, []), (8, []), (9, []), (10, []), (11, []), (12, []), (13, []), (14, []), (15, []), (16, []), (17, []), (18, []), (19, []), (20, []), (21, []), (22, []), (23, []), (24, []), (25, []), (26, [])]), (4, [(0, []), (1, []), (2, []), (3, []), (4, []), (5, []), (6, []), (7, []), (8, []), (9, [])])]
def sh114 (a0 a1 a2 : Value) (h : PH) (R : AEnd → PH → Prop) : Prop :=
  vNew (Value.cells a2) 25 h fun t5 h_1 =>
  vFA 1 t5 fun t9 =>
  vLoad none t9 h_1 fun t10 =>
  vNil a0 fun t12 =>
  vFA 2 t12 fun t13 =>
  vLoad none t13 h_1 fun t14 =>
  vBin Tryz.prog .geq 3 t10 t14 fun t15 =>
  gq (boolOf t15) false (fun K =>
  vFA 3 t5 fun u =>
  K u h_1)
  (fun t17 h_2 =>
  gq (boolOf t15) false (fun K_1 =>
  vLoad none t17 h_2 fun u_1 =>
  K_1 u_1 h_2)
  (fun t18 h_3 =>
  gq (boolOf t15) false (fun K_2 =>
  vBin Tryz.prog .gtr 3 t18 (.int .i64 1) fun u_2 =>
  K_2 u_2 h_3)
  (fun t19 h_4 =>
  vPick t15 (.bool true) t19 fun t20 =>
  gq (boolOf t20) false (fun K_3 =>
  vFA 4 t5 fun u_3 =>
  K_3 u_3 h_4)
  (fun t22 h_5 =>
  gq (boolOf t20) false (fun K_4 =>
  vLoad none t22 h_5 fun u_4 =>
  K_4 u_4 h_5)
  (fun t23 h_6 =>
  gq (boolOf t20) false (fun K_5 =>
  vBin Tryz.prog .gtr 3 t23 (.int .i64 1048576) fun u_5 =>
  K_5 u_5 h_6)
  (fun t24 h_7 =>
  vPick t20 (.bool true) t24 fun t25 =>
  gq (boolOf t25) false (fun K_6 =>
  vFA 2 t5 fun u_6 =>
  K_6 u_6 h_7)
  (fun t27 h_8 =>
  gq (boolOf t25) false (fun K_7 =>
  vLoad none t27 h_8 fun u_7 =>
  K_7 u_7 h_8)
  (fun t28 h_9 =>
  gq (boolOf t25) false (fun K_8 =>
  vBin Tryz.prog .lss 3 t28 (.int .i64 1) fun u_8 =>
  K_8 u_8 h_9)
  (fun t29 h_10 =>
  vPick t25 (.bool true) t29 fun t30 =>
  gq (boolOf t30) false (fun K_9 =>
  vFA 2 t5 fun u_9 =>
  K_9 u_9 h_10)
  (fun t32 h_11 =>
  gq (boolOf t30) false (fun K_10 =>
  vLoad none t32 h_11 fun u_10 =>
  K_10 u_10 h_11)
  (fun t33 h_12 =>
  gq (boolOf t30) false (fun K_11 =>
  vBin Tryz.prog .gtr 3 t33 (.int .i64 1048576) fun u_11 =>
  K_11 u_11 h_12)
  (fun t34 h_13 =>
  vPick t30 (.bool true) t34 fun t35 =>
  dIf t35 (R (.ret (.tuple #[(.int .i64 0), (.int .i64 0), (.int .i64 1)])) h_13)
  (vFA 5 t5 fun t37 =>
  vLoad none t37 h_13 fun t38 =>
  vCall Tryz.prog 106 #[t38, (.int .i64 6)] h_13 (fun t39 h_14 =>
  vExt t39 0 fun t40 =>
  vExt t39 1 fun t41 =>
  vFA 4 t5 fun t43 =>
  vLoad none t43 h_14 fun t44 =>
  vBin Tryz.prog .mul 3 t44 (.int .i64 16) fun t45 =>
  vBin Tryz.prog .add 3 t45 a1 fun t47 =>
  R (.ret (.tuple #[t40, t47, t41])) h_14)
  (fun c h => R (.pan c) h))) h_12) h_11) h_10) h_9) h_8) h_7) h_6) h_5) h_4) h_3) h_2) h_1
theorem l114 (R : AEnd → PH → Prop) : LoopsOK Tryz.prog qf (ordOf o114) (fun c h => R (.pan c) h) noLoops c114 := noLoops_ok (by kernel_rfl)
theorem e114 (a0 a1 a2 : Value) (h : PH) (R : AEnd → PH → Prop) : denF Tryz.prog qf (ordOf o114) noLoops Tryz.f114.results.toList c114 #[a0, a1, a2] h R = sh114 a0 a1 a2 h R := by kernel_rfl
theorem k114 : codeOK Tryz.prog qf Tryz.f114.ntmps (ordOf o114) c114 = true := by kernel_rfl
theorem s114 : Tryz.f114.body = some c114 := by kernel_rfl
theorem call114 {a0 a1 a2 : Value} {h : PH} {R : AEnd → PH → Prop} (H : sh114 a0 a1 a2 h R) : ACalls Tryz.prog 114 #[a0, a1, a2] h R :=
  ACalls_of_den mixed Tryz.func114 s114 (by kernel_rfl) k114 (l114 R) (of_den (e114 a0 a1 a2 h R) H)

/- (*gavel/house.House).cover -/
noncomputable def c115 : Code := bodyOf Tryz.f115
def o115 : List (Nat × List (Nat × List Nat)) := [(5, [(0, []), (1, []), (2, []), (3, []), (4, []), (5, []), (6, []), (7, []), (8, []), (9, []), (10, []), (11, []), (12, []), (13, []), (14, []), (15, []), (16, []), (17, []), (18, []), (19, [])])]
def sh115 (a0 a1 a2 a3 a4 a5 : Value) (h : PH) (R : AEnd → PH → Prop) : Prop :=
  vNil a0 fun t19 =>
  vFA 0 t19 fun t20 =>
  vLoad none t20 h fun t21 =>
  vCall Tryz.prog 30 #[t21, a1] h (fun t23 h_1 =>
  vExt t23 0 fun t24 =>
  vExt t23 1 fun t25 =>
  vNew #[.int .i64 0, .int .i64 0, .int .i64 0, .int .i64 0, .int .i64 0, .int .i64 0, .int .i64 0, .int .i64 0, .int .i64 0, .int .i64 0] 61 h_1 fun t15 h_2 =>
  vStore 10 t15 t24 h_2 fun h_3 =>
  dIf a3 (vBin Tryz.prog .mul 3 a4 a5 fun t29 =>
  vFA 0 t15 fun t32 =>
  vLoad none t32 h_3 fun t33 =>
  vFA 1 t15 fun t34 =>
  vLoad none t34 h_3 fun t35 =>
  vBin Tryz.prog .sub 3 t33 t35 fun t36 =>
  vBin Tryz.prog .gtr 3 t29 t36 fun t37 =>
  gq (boolOf t37) false (fun K =>
  K (.int .i64 0) h_3)
  (fun t39 h_4 =>
  gq (boolOf t37) false (fun K_1 =>
  K_1 a2 h_4)
  (fun t40 h_5 =>
  gq (boolOf t37) false (fun K_2 =>
  vFA 2 t15 fun u =>
  K_2 u h_5)
  (fun t41 h_6 =>
  gq (boolOf t37) false (fun K_3 =>
  vIxA 4 1 t41 t40 fun u_1 =>
  K_3 u_1 h_6)
  (fun t42 h_7 =>
  gq (boolOf t37) false (fun K_4 =>
  vLoad none t42 h_7 fun u_2 =>
  K_4 u_2 h_7)
  (fun t43 h_8 =>
  gq (boolOf t37) false (fun K_5 =>
  K_5 a2 h_8)
  (fun t44 h_9 =>
  gq (boolOf t37) false (fun K_6 =>
  vFA 6 t15 fun u_3 =>
  K_6 u_3 h_9)
  (fun t45 h_10 =>
  gq (boolOf t37) false (fun K_7 =>
  vIxA 4 1 t45 t44 fun u_4 =>
  K_7 u_4 h_10)
  (fun t46 h_11 =>
  gq (boolOf t37) false (fun K_8 =>
  vLoad none t46 h_11 fun u_5 =>
  K_8 u_5 h_11)
  (fun t47 h_12 =>
  gq (boolOf t37) false (fun K_9 =>
  vBin Tryz.prog .sub 3 t43 t47 fun u_6 =>
  K_9 u_6 h_12)
  (fun t48 h_13 =>
  gq (boolOf t37) false (fun K_10 =>
  vBin Tryz.prog .gtr 3 t39 t48 fun u_7 =>
  K_10 u_7 h_13)
  (fun t49 h_14 =>
  vPick t37 (.bool true) t49 fun t50 =>
  dIf t50 (R (.ret (.tuple #[t29, (.int .i64 0), (.int .i64 61)])) h_14)
  (R (.ret (.tuple #[t29, (.int .i64 0), (.int .i64 0)])) h_14)) h_13) h_12) h_11) h_10) h_9) h_8) h_7) h_6) h_5) h_4) h_3)
  (vFA 0 t15 fun t32_1 =>
  vLoad none t32_1 h_3 fun t33_1 =>
  vFA 1 t15 fun t34_1 =>
  vLoad none t34_1 h_3 fun t35_1 =>
  vBin Tryz.prog .sub 3 t33_1 t35_1 fun t36_1 =>
  vBin Tryz.prog .gtr 3 (.int .i64 0) t36_1 fun t37_1 =>
  gq (boolOf t37_1) false (fun K_11 =>
  K_11 a5 h_3)
  (fun t39_1 h_15 =>
  gq (boolOf t37_1) false (fun K_12 =>
  K_12 a2 h_15)
  (fun t40_1 h_16 =>
  gq (boolOf t37_1) false (fun K_13 =>
  vFA 2 t15 fun u_8 =>
  K_13 u_8 h_16)
  (fun t41_1 h_17 =>
  gq (boolOf t37_1) false (fun K_14 =>
  vIxA 4 1 t41_1 t40_1 fun u_9 =>
  K_14 u_9 h_17)
  (fun t42_1 h_18 =>
  gq (boolOf t37_1) false (fun K_15 =>
  vLoad none t42_1 h_18 fun u_10 =>
  K_15 u_10 h_18)
  (fun t43_1 h_19 =>
  gq (boolOf t37_1) false (fun K_16 =>
  K_16 a2 h_19)
  (fun t44_1 h_20 =>
  gq (boolOf t37_1) false (fun K_17 =>
  vFA 6 t15 fun u_11 =>
  K_17 u_11 h_20)
  (fun t45_1 h_21 =>
  gq (boolOf t37_1) false (fun K_18 =>
  vIxA 4 1 t45_1 t44_1 fun u_12 =>
  K_18 u_12 h_21)
  (fun t46_1 h_22 =>
  gq (boolOf t37_1) false (fun K_19 =>
  vLoad none t46_1 h_22 fun u_13 =>
  K_19 u_13 h_22)
  (fun t47_1 h_23 =>
  gq (boolOf t37_1) false (fun K_20 =>
  vBin Tryz.prog .sub 3 t43_1 t47_1 fun u_14 =>
  K_20 u_14 h_23)
  (fun t48_1 h_24 =>
  gq (boolOf t37_1) false (fun K_21 =>
  vBin Tryz.prog .gtr 3 t39_1 t48_1 fun u_15 =>
  K_21 u_15 h_24)
  (fun t49_1 h_25 =>
  vPick t37_1 (.bool true) t49_1 fun t50_1 =>
  dIf t50_1 (R (.ret (.tuple #[(.int .i64 0), a5, (.int .i64 61)])) h_25)
  (R (.ret (.tuple #[(.int .i64 0), a5, (.int .i64 0)])) h_25)) h_24) h_23) h_22) h_21) h_20) h_19) h_18) h_17) h_16) h_15) h_3))
  (fun c h => R (.pan c) h)
theorem l115 (R : AEnd → PH → Prop) : LoopsOK Tryz.prog qf (ordOf o115) (fun c h => R (.pan c) h) noLoops c115 := noLoops_ok (by kernel_rfl)
theorem e115 (a0 a1 a2 a3 a4 a5 : Value) (h : PH) (R : AEnd → PH → Prop) : denF Tryz.prog qf (ordOf o115) noLoops Tryz.f115.results.toList c115 #[a0, a1, a2, a3, a4, a5] h R = sh115 a0 a1 a2 a3 a4 a5 h R := by kernel_rfl
theorem k115 : codeOK Tryz.prog qf Tryz.f115.ntmps (ordOf o115) c115 = true := by kernel_rfl
theorem s115 : Tryz.f115.body = some c115 := by kernel_rfl
theorem call115 {a0 a1 a2 a3 a4 a5 : Value} {h : PH} {R : AEnd → PH → Prop} (H : sh115 a0 a1 a2 a3 a4 a5 h R) : ACalls Tryz.prog 115 #[a0, a1, a2, a3, a4, a5] h R :=
  ACalls_of_den mixed Tryz.func115 s115 (by kernel_rfl) k115 (l115 R) (of_den (e115 a0 a1 a2 a3 a4 a5 h R) H)

/- (*gavel/call.Book).Put -/
noncomputable def c116 : Code := bodyOf Tryz.f116
def o116 : List (Nat × List (Nat × List Nat)) := [(9, [(0, []), (1, []), (2, []), (3, []), (4, []), (5, []), (6, []), (7, []), (8, []), (9, []), (10, [])])]
def sh116 (a0 a1 : Value) (h : PH) (R : AEnd → PH → Prop) : Prop :=
  vNew (Value.cells a1) 78 h fun t3 h_1 =>
  vBin Tryz.prog .eql 93 a0 (.pointer none) fun t7 =>
  gq (boolOf t7) false (fun K =>
  vLoad (some 6) t3 h_1 fun u =>
  K u h_1)
  (fun t9 h_2 =>
  gq (boolOf t7) false (fun K_1 =>
  vCall Tryz.prog 93 #[t9] h_2 (fun u_1 h_3 =>
  K_1 u_1 h_3)
  (fun c h => R (.pan c) h))
  (fun t10 h_4 =>
  gq (boolOf t7) false (fun K_2 =>
  vUn Tryz.prog .not t10 fun u_2 =>
  K_2 u_2 h_4)
  (fun t11 h_5 =>
  vPick t7 (.bool true) t11 fun t12 =>
  gq (boolOf t12) false (fun K_3 =>
  vFA 4 t3 fun u_3 =>
  K_3 u_3 h_5)
  (fun t14 h_6 =>
  gq (boolOf t12) false (fun K_4 =>
  vLoad none t14 h_6 fun u_4 =>
  K_4 u_4 h_6)
  (fun t15 h_7 =>
  gq (boolOf t12) false (fun K_5 =>
  vBin Tryz.prog .neq 3 t15 (.int .i64 0) fun u_5 =>
  K_5 u_5 h_7)
  (fun t16 h_8 =>
  vPick t12 (.bool true) t16 fun t17 =>
  dIf t17 (R (.ret (.int .i64 1)) h_8)
  (vFA 0 t3 fun t20 =>
  vLoad none t20 h_8 fun t21 =>
  vCall Tryz.prog 94 #[a0, t21] h_8 (fun t22 h_9 =>
  vBin Tryz.prog .geq 3 t22 (.int .i64 0) fun t23 =>
  dIf t23 (R (.ret (.int .i64 63)) h_9)
  (vNil a0 fun t26 =>
  vFA 0 t26 fun t27 =>
  vLoad none t27 h_9 fun t28 =>
  vLenS t28 fun t29 =>
  vBin Tryz.prog .eql 3 t29 (.int .i64 64) fun t30 =>
  gq (boolOf t30) false (fun K_6 =>
  K_6 a0 h_9)
  (fun t32 h_10 =>
  gq (boolOf t30) false (fun K_7 =>
  vNil t32 fun u_6 =>
  K_7 u_6 h_10)
  (fun t33 h_11 =>
  gq (boolOf t30) false (fun K_8 =>
  vFA 1 t33 fun u_7 =>
  K_8 u_7 h_11)
  (fun t34 h_12 =>
  gq (boolOf t30) false (fun K_9 =>
  vLoad none t34 h_12 fun u_8 =>
  K_9 u_8 h_12)
  (fun t35 h_13 =>
  gq (boolOf t30) false (fun K_10 =>
  vBin Tryz.prog .geq 3 t35 (.int .i64 9007199254740992) fun u_9 =>
  K_10 u_9 h_13)
  (fun t36 h_14 =>
  vPick t30 (.bool true) t36 fun t37 =>
  dIf t37 (R (.ret (.int .i64 2)) h_14)
  (vNil a0 fun t39 =>
  vFA 1 t39 fun t40 =>
  vLoad none t40 h_14 fun t41 =>
  vFA 4 t3 fun t42 =>
  vStore 1 t42 t41 h_14 fun h_15 =>
  vNil a0 fun t44 =>
  vFA 1 t44 fun t45 =>
  vLoad none t45 h_15 fun t46 =>
  vBin Tryz.prog .add 3 t46 (.int .i64 1) fun t47 =>
  vNil a0 fun t48 =>
  vFA 1 t48 fun t49 =>
  vStore 1 t49 t47 h_15 fun h_16 =>
  vNil a0 fun t52 =>
  vFA 0 t52 fun t53 =>
  vLoad none t53 h_16 fun t54 =>
  vLoad (some 6) t3 h_16 fun t55 =>
  (1 * 6 ≤ 2 ^ 24) ∧ vBuildS 78 6 1 #[.int .i64 0, .int .i64 0, .int .i64 0, .int .i64 0, .int .i64 0, .bool false] [(0, t55)] h_16 fun t56 h_17 =>
  (0 < 6) ∧ (0 < 48) ∧ (Array.size #[(.int .i64 0 : Value), (.int .i64 0 : Value), (.int .i64 0 : Value), (.int .i64 0 : Value), (.int .i64 0 : Value), (.bool false : Value)] = 6) ∧ vAppend false 78 6 48 t54 t56 h_17 fun t57 h_18 =>
  vNil a0 fun t58 =>
  vFA 0 t58 fun t59 =>
  vStore 1 t59 t57 h_18 fun h_19 =>
  R (.ret (.int .i64 0)) h_19)) h_13) h_12) h_11) h_10) h_9))
  (fun c h => R (.pan c) h))) h_7) h_6) h_5) h_4) h_2) h_1
theorem l116 (R : AEnd → PH → Prop) : LoopsOK Tryz.prog qf (ordOf o116) (fun c h => R (.pan c) h) noLoops c116 := noLoops_ok (by kernel_rfl)
theorem e116 (a0 a1 : Value) (h : PH) (R : AEnd → PH → Prop) : denF Tryz.prog qf (ordOf o116) noLoops Tryz.f116.results.toList c116 #[a0, a1] h R = sh116 a0 a1 h R := by kernel_rfl
theorem k116 : codeOK Tryz.prog qf Tryz.f116.ntmps (ordOf o116) c116 = true := by kernel_rfl
theorem s116 : Tryz.f116.body = some c116 := by kernel_rfl
theorem call116 {a0 a1 : Value} {h : PH} {R : AEnd → PH → Prop} (H : sh116 a0 a1 h R) : ACalls Tryz.prog 116 #[a0, a1] h R :=
  ACalls_of_den mixed Tryz.func116 s116 (by kernel_rfl) k116 (l116 R) (of_den (e116 a0 a1 h R) H)

end Go.Pw

/- The functions of the program, told as predicate transformers: printed by wip/tools/shprint.py; each is what the model makes of the function, by the kernel's reckoning. -/
import Derived.Test.YtbidgpchoamdfaaSh
set_option linter.unusedVariables false
set_option maxRecDepth 100000
namespace Go.Pw
open Go Go.Proofs
/- gavel/gavellaw06.awake -/
noncomputable def c12 : Code := bodyOf Try.f12
def o12 : List (Nat × List (Nat × List Nat)) := []
def sh12 (h : PH) (R : AEnd → PH → Prop) : Prop :=
  vCall Try.prog 23 #[(.int .i64 2), (.int .i64 1)] h (fun t8 h_1 =>
  vExt t8 0 fun t9 =>
  vExt t8 1 fun t10 =>
  vBin Try.prog .neq 29 t10 (.int .i64 0) fun t12 =>
  gq (boolOf t12) false (fun K =>
  K t9 h_1)
  (fun t14 h_2 =>
  gq (boolOf t12) false (fun K_1 =>
  vBin Try.prog .eql 25 t14 (.pointer none) fun u =>
  K_1 u h_2)
  (fun t15 h_3 =>
  vPick t12 (.bool true) t15 fun t16 =>
  gq (boolOf t16) false (fun K_2 =>
  K_2 t9 h_3)
  (fun t18 h_4 =>
  gq (boolOf t16) false (fun K_3 =>
  vCall Try.prog 28 #[t18, (.int .i64 0), (.int .i64 9)] h_4 (fun u_1 h_5 =>
  K_3 u_1 h_5)
  (fun c h => R (.pan c) h))
  (fun t19 h_6 =>
  gq (boolOf t16) false (fun K_4 =>
  vBin Try.prog .neq 29 t19 (.int .i64 0) fun u_2 =>
  K_4 u_2 h_6)
  (fun t20 h_7 =>
  vPick t16 (.bool true) t20 fun t21 =>
  gq (boolOf t21) false (fun K_5 =>
  K_5 t9 h_7)
  (fun t23 h_8 =>
  gq (boolOf t21) false (fun K_6 =>
  vCall Try.prog 32 #[t23, (.int .i64 0), (.int .i64 5)] h_8 (fun u_3 h_9 =>
  K_6 u_3 h_9)
  (fun c h => R (.pan c) h))
  (fun t24 h_10 =>
  gq (boolOf t21) false (fun K_7 =>
  vBin Try.prog .neq 29 t24 (.int .i64 0) fun u_4 =>
  K_7 u_4 h_10)
  (fun t25 h_11 =>
  vPick t21 (.bool true) t25 fun t26 =>
  gq (boolOf t26) false (fun K_8 =>
  K_8 t9 h_11)
  (fun t28 h_12 =>
  gq (boolOf t26) false (fun K_9 =>
  vCall Try.prog 29 #[t28, (.int .i64 0), (.int .i64 5)] h_12 (fun u_5 h_13 =>
  K_9 u_5 h_13)
  (fun c h => R (.pan c) h))
  (fun t29 h_14 =>
  gq (boolOf t26) false (fun K_10 =>
  vBin Try.prog .neq 29 t29 (.int .i64 61) fun u_6 =>
  K_10 u_6 h_14)
  (fun t30 h_15 =>
  vPick t26 (.bool true) t30 fun t31 =>
  gq (boolOf t31) false (fun K_11 =>
  K_11 t9 h_15)
  (fun t33 h_16 =>
  gq (boolOf t31) false (fun K_12 =>
  vCall Try.prog 36 #[t33, (.int .i64 0), (.int .i64 1), (.int .i64 3)] h_16 (fun u_7 h_17 =>
  K_12 u_7 h_17)
  (fun c h => R (.pan c) h))
  (fun t34 h_18 =>
  gq (boolOf t31) false (fun K_13 =>
  vBin Try.prog .neq 29 t34 (.int .i64 0) fun u_8 =>
  K_13 u_8 h_18)
  (fun t35 h_19 =>
  vPick t31 (.bool true) t35 fun t36 =>
  dIf t36 (R (.ret (.bool false)) h_19)
  (vCall Try.prog 16 #[t9, (.int .i64 0)] h_19 (fun t39 h_20 =>
  vExt t39 0 fun t40 =>
  vExt t39 1 fun t41 =>
  vNew #[.int .i64 0, .int .i64 0, .int .i64 0, .int .i64 0, .int .i64 0, .int .i64 0, .int .i64 0, .int .i64 0, .int .i64 0, .int .i64 0] 43 h_20 fun t3 h_21 =>
  vStore 10 t3 t40 h_21 fun h_22 =>
  vCall Try.prog 16 #[t9, (.int .i64 1)] h_22 (fun t44 h_23 =>
  vExt t44 0 fun t45 =>
  vExt t44 1 fun t46 =>
  vNew #[.int .i64 0, .int .i64 0, .int .i64 0, .int .i64 0, .int .i64 0, .int .i64 0, .int .i64 0, .int .i64 0, .int .i64 0, .int .i64 0] 43 h_23 fun t5 h_24 =>
  vStore 10 t5 t45 h_24 fun h_25 =>
  vFA 0 t3 fun t47 =>
  vLoad none t47 h_25 fun t48 =>
  vBin Try.prog .eql 3 t48 (.int .i64 6) fun t49 =>
  gq (boolOf t49) true (fun K_14 =>
  vFA 1 t3 fun u_9 =>
  K_14 u_9 h_25)
  (fun t51 h_26 =>
  gq (boolOf t49) true (fun K_15 =>
  vLoad none t51 h_26 fun u_10 =>
  K_15 u_10 h_26)
  (fun t52 h_27 =>
  gq (boolOf t49) true (fun K_16 =>
  vBin Try.prog .eql 3 t52 (.int .i64 2) fun u_11 =>
  K_16 u_11 h_27)
  (fun t53 h_28 =>
  vPick t49 t53 (.bool false) fun t54 =>
  gq (boolOf t54) true (fun K_17 =>
  vFA 0 t5 fun u_12 =>
  K_17 u_12 h_28)
  (fun t56 h_29 =>
  gq (boolOf t54) true (fun K_18 =>
  vLoad none t56 h_29 fun u_13 =>
  K_18 u_13 h_29)
  (fun t57 h_30 =>
  gq (boolOf t54) true (fun K_19 =>
  vBin Try.prog .eql 3 t57 (.int .i64 3) fun u_14 =>
  K_19 u_14 h_30)
  (fun t58 h_31 =>
  vPick t54 t58 (.bool false) fun t59 =>
  gq (boolOf t59) true (fun K_20 =>
  vFA 1 t5 fun u_15 =>
  K_20 u_15 h_31)
  (fun t61 h_32 =>
  gq (boolOf t59) true (fun K_21 =>
  vLoad none t61 h_32 fun u_16 =>
  K_21 u_16 h_32)
  (fun t62 h_33 =>
  gq (boolOf t59) true (fun K_22 =>
  vBin Try.prog .eql 3 t62 (.int .i64 0) fun u_17 =>
  K_22 u_17 h_33)
  (fun t63 h_34 =>
  vPick t59 t63 (.bool false) fun t64 =>
  R (.ret t64) h_34) h_33) h_32) h_31) h_30) h_29) h_28) h_27) h_26) h_25)
  (fun c h => R (.pan c) h))
  (fun c h => R (.pan c) h))) h_18) h_16) h_15) h_14) h_12) h_11) h_10) h_8) h_7) h_6) h_4) h_3) h_2) h_1)
  (fun c h => R (.pan c) h)
theorem l12 (R : AEnd → PH → Prop) : LoopsOK Try.prog qf (ordOf o12) (fun c h => R (.pan c) h) noLoops c12 := noLoops_ok (by kernel_rfl)
theorem e12 (h : PH) (R : AEnd → PH → Prop) : denF Try.prog qf (ordOf o12) noLoops Try.f12.results.toList c12 #[] h R = sh12 h R := by kernel_rfl
theorem k12 : codeOK Try.prog qf Try.f12.ntmps (ordOf o12) c12 = true := by kernel_rfl
theorem s12 : Try.f12.body = some c12 := by kernel_rfl
theorem call12 {h : PH} {R : AEnd → PH → Prop} (H : sh12 h R) : ACalls Try.prog 12 #[] h R :=
  ACalls_of_den mixed Try.func12 s12 (by kernel_rfl) k12 (l12 R) (of_den (e12 h R) H)

/- gavel/gavelref01.SameRecords -/
noncomputable def c13 : Code := bodyOf Try.f13
def o13 : List (Nat × List (Nat × List Nat)) := [(6, [(0, []), (1, []), (2, []), (3, []), (4, []), (5, []), (6, []), (7, []), (8, [])])]
def b13_4 (Kp : List PanicEntry → PH → Prop) (x0 : Value → PH → Prop) (xr : Value → PH → Prop) (f : Value × Value) (kn : (Value × Value) → (Value × Value) → PH → Prop) (s : Value × Value) (h : PH) : Prop :=
  vLenS f.1 fun t13 =>
  vBin Try.prog .lss 3 s.2 t13 fun t14 =>
  dIf t14 (vIxS 2 f.1 s.2 fun t19 =>
  vLoad (some 2) t19 h fun t20 =>
  vIxS 2 f.2 s.2 fun t23 =>
  vLoad (some 2) t23 h fun t24 =>
  vBin Try.prog .neq 32 t20 t24 fun t25 =>
  dIf t25 (xr (.bool false) h)
  (vBin Try.prog .add 3 s.2 (.int .i64 1) fun t16 =>
  kn f (s.1, t16) h))
  (x0 s.1 h)

def sh13 (a0 a1 : Value) (h : PH) (R : AEnd → PH → Prop) : Prop :=
  vLenS a0 fun t7 =>
  vLenS a1 fun t9 =>
  vBin Try.prog .neq 3 t7 t9 fun t10 =>
  dIf t10 (R (.ret (.bool false)) h)
  (lf (b13_4 (fun c h => R (.pan c) h) (fun v h => exq (fun ρ => ρ 4) v (fun r h_1 =>
  R (.ret (.bool true)) h_1) h) (fun v h => exq (fun ρ => ρ 4) v (fun r h_2 =>
  R (.ret (r 4)) h_2) h)) (a0, a1) ((.bool false), (.int .i64 0)) h)
def L13 (Kp : List PanicEntry → PH → Prop) : Loops := fun c Q ρ h =>
    sel (Nat.beq (loopId c) 4) (lf (b13_4 Kp (fun v h => exq (fun ρ => ρ 4) v (Q (.exit 0)) h) (fun v h => exq (fun ρ => ρ 4) v (Q .ret) h)) ((fun ρ => (ρ 0, ρ 1)) ρ) ((fun ρ => (ρ 4, ρ 5)) ρ) h)
    (False)
theorem B13_4 (Kp : List PanicEntry → PH → Prop) (KN : (Value × Value) → (Value × Value) → PH → Prop) (XX : Exit → (Value) → PH → Prop) (ρ : Env) (h : PH) :
    den Try.prog qf (ordOf o13) Kp (L13 Kp) (loopAt c13 0) (lq KN XX (fun ρ => (ρ 0, ρ 1)) (fun ρ => (ρ 4, ρ 5)) (fun ρ => ρ 4)) ρ h = b13_4 Kp (XX (.exit 0)) (XX .ret) ((fun ρ => (ρ 0, ρ 1)) ρ) KN ((fun ρ => (ρ 4, ρ 5)) ρ) h := by kernel_rfl
theorem l13 (R : AEnd → PH → Prop) : LoopsOK Try.prog qf (ordOf o13) (fun c h => R (.pan c) h) (L13 (fun c h => R (.pan c) h)) c13 :=
  LoopsOK.mk 1 (by kernel_rfl) fun i hi Q ρ h H => match i, hi with
    | 0, _ => loop_gen (F := Value × Value) (S := Value × Value) (X := Value) (φ := (fun ρ => (ρ 0, ρ 1))) (π := (fun ρ => (ρ 4, ρ 5))) (ξ := (fun ρ => ρ 4)) (B := (fun (XX : Exit → (Value) → PH → Prop) => b13_4 (fun c h => R (.pan c) h) (XX (.exit 0)) (XX .ret))) (B13_4 _) (of_den (by kernel_rfl) H)
    | n + 1, hi => absurd hi (by omega)
theorem e13 (a0 a1 : Value) (h : PH) (R : AEnd → PH → Prop) : denF Try.prog qf (ordOf o13) (L13 (fun c h => R (.pan c) h)) Try.f13.results.toList c13 #[a0, a1] h R = sh13 a0 a1 h R := by kernel_rfl
theorem k13 : codeOK Try.prog qf Try.f13.ntmps (ordOf o13) c13 = true := by kernel_rfl
theorem s13 : Try.f13.body = some c13 := by kernel_rfl
theorem call13 {a0 a1 : Value} {h : PH} {R : AEnd → PH → Prop} (H : sh13 a0 a1 h R) : ACalls Try.prog 13 #[a0, a1] h R :=
  ACalls_of_den mixed Try.func13 s13 (by kernel_rfl) k13 (l13 R) (of_den (e13 a0 a1 h R) H)

/- (*gavel/ledger.Ledger).Totals -/
noncomputable def c14 : Code := bodyOf Try.f14
def o14 : List (Nat × List (Nat × List Nat)) := []
def b14_7 (Kp : List PanicEntry → PH → Prop) (x2 : (Value × Value × Value × Value × Value) → PH → Prop) (f : Value × Value × Value × Value × Value × Value) (kn : (Value × Value × Value × Value × Value × Value) → Value → PH → Prop) (s : Value) (h : PH) : Prop :=
  vBin Try.prog .lss 3 s (.int .i64 4) fun t28 =>
  dIf t28 (vIxAg none 4 1 f.2.2.2.2.2 s fun t30 =>
  vIxA 4 1 f.2.1 s fun t32 =>
  vLoad none t32 h fun t33 =>
  vBin Try.prog .add 3 t33 t30 fun t35 =>
  vIxA 4 1 f.2.1 s fun t36 =>
  vStore 1 t36 t35 h fun h_1 =>
  vBin Try.prog .add 3 s (.int .i64 1) fun t37 =>
  kn f t37 h_1)
  (x2 (f.1, f.2.1, f.2.2.1, f.2.2.2.1, f.2.2.2.2.1) h)

def b14_3 (Kp : List PanicEntry → PH → Prop) (x0 : (Value × Value) → PH → Prop) (f : Value × Value × Value) (kn : (Value × Value × Value) → (Value × Value) → PH → Prop) (s : Value × Value) (h : PH) : Prop :=
  vBin Try.prog .lss 3 s.2 f.2.2 fun t16 =>
  dIf t16 (vIxS 12 f.2.1 s.2 fun t17 =>
  vLoad (some 12) t17 h fun t18 =>
  vNew #[.int .i64 0, .int .i64 0, .int .i64 0, .int .i64 0, .int .i64 0, .int .i64 0, .int .i64 0, .int .i64 0, .int .i64 0, .int .i64 0, .int .i64 0, .string ⟨#[]⟩] 66 h fun t5 h_1 =>
  vStore 12 t5 t18 h_1 fun h_2 =>
  vFA 0 t5 fun t20 =>
  vFA 0 t20 fun t21 =>
  vLoad none t21 h_2 fun t22 =>
  vBin Try.prog .add 3 s.1 t22 fun t23 =>
  vFA 0 t5 fun t24 =>
  vFA 2 t24 fun t25 =>
  vLoad (some 4) t25 h_2 fun t26 =>
  lf (b14_7 Kp (fun v h => exq (fun ρ => (ρ 2, ρ 3, ρ 13, ρ 14, ρ 15)) v (fun r h_3 =>
  vBin Try.prog .add 3 (r 15) (.int .i64 1) fun t38 =>
  kn ((r 3), (r 13), (r 14)) ((r 2), t38) h_3) h)) (t23, f.1, f.2.1, f.2.2, s.2, t26) (.int .i64 0) h_2)
  (x0 (s.1, f.1) h)

def sh14 (a0 : Value) (h : PH) (R : AEnd → PH → Prop) : Prop :=
  vNew #[.int .i64 0, .int .i64 0, .int .i64 0, .int .i64 0] 37 h fun t3 h_1 =>
  vBin Try.prog .eql 25 a0 (.pointer none) fun t9 =>
  dIf t9 (vLoad (some 4) t3 h_1 fun rv =>
  R (.ret (.tuple #[(.int .i64 0), rv])) h_1)
  (vNil a0 fun t11 =>
  vFA 1 t11 fun t12 =>
  vLoad none t12 h_1 fun t13 =>
  vLenS t13 fun t14 =>
  lf (b14_3 (fun c h => R (.pan c) h) (fun v h => exq (fun ρ => (ρ 2, ρ 3)) v (fun r h_2 =>
  vLoad (some 4) (r 3) h_2 fun rv_1 =>
  R (.ret (.tuple #[(r 2), rv_1])) h_2) h)) (t3, t13, t14) ((.int .i64 0), (.int .i64 0)) h_1)
def L14 (Kp : List PanicEntry → PH → Prop) : Loops := fun c Q ρ h =>
    sel (Nat.beq (loopId c) 3) (lf (b14_3 Kp (fun v h => exq (fun ρ => (ρ 2, ρ 3)) v (Q (.exit 0)) h)) ((fun ρ => (ρ 3, ρ 13, ρ 14)) ρ) ((fun ρ => (ρ 2, ρ 15)) ρ) h)
    (sel (Nat.beq (loopId c) 7) (lf (b14_7 Kp (fun v h => exq (fun ρ => (ρ 2, ρ 3, ρ 13, ρ 14, ρ 15)) v (Q (.exit 2)) h)) ((fun ρ => (ρ 2, ρ 3, ρ 13, ρ 14, ρ 15, ρ 26)) ρ) ((fun ρ => ρ 27) ρ) h)
    (False))
theorem B14_3 (Kp : List PanicEntry → PH → Prop) (KN : (Value × Value × Value) → (Value × Value) → PH → Prop) (XX : Exit → (Value × Value) → PH → Prop) (ρ : Env) (h : PH) :
    den Try.prog qf (ordOf o14) Kp (L14 Kp) (loopAt c14 0) (lq KN XX (fun ρ => (ρ 3, ρ 13, ρ 14)) (fun ρ => (ρ 2, ρ 15)) (fun ρ => (ρ 2, ρ 3))) ρ h = b14_3 Kp (XX (.exit 0)) ((fun ρ => (ρ 3, ρ 13, ρ 14)) ρ) KN ((fun ρ => (ρ 2, ρ 15)) ρ) h := by kernel_rfl
theorem B14_7 (Kp : List PanicEntry → PH → Prop) (KN : (Value × Value × Value × Value × Value × Value) → (Value) → PH → Prop) (XX : Exit → (Value × Value × Value × Value × Value) → PH → Prop) (ρ : Env) (h : PH) :
    den Try.prog qf (ordOf o14) Kp (L14 Kp) (loopAt c14 1) (lq KN XX (fun ρ => (ρ 2, ρ 3, ρ 13, ρ 14, ρ 15, ρ 26)) (fun ρ => ρ 27) (fun ρ => (ρ 2, ρ 3, ρ 13, ρ 14, ρ 15))) ρ h = b14_7 Kp (XX (.exit 2)) ((fun ρ => (ρ 2, ρ 3, ρ 13, ρ 14, ρ 15, ρ 26)) ρ) KN ((fun ρ => ρ 27) ρ) h := by kernel_rfl
theorem l14 (R : AEnd → PH → Prop) : LoopsOK Try.prog qf (ordOf o14) (fun c h => R (.pan c) h) (L14 (fun c h => R (.pan c) h)) c14 :=
  LoopsOK.mk 2 (by kernel_rfl) fun i hi Q ρ h H => match i, hi with
    | 0, _ => loop_gen (F := Value × Value × Value) (S := Value × Value) (X := Value × Value) (φ := (fun ρ => (ρ 3, ρ 13, ρ 14))) (π := (fun ρ => (ρ 2, ρ 15))) (ξ := (fun ρ => (ρ 2, ρ 3))) (B := (fun (XX : Exit → (Value × Value) → PH → Prop) => b14_3 (fun c h => R (.pan c) h) (XX (.exit 0)))) (B14_3 _) (of_den (by kernel_rfl) H)
    | 1, _ => loop_gen (F := Value × Value × Value × Value × Value × Value) (S := Value) (X := Value × Value × Value × Value × Value) (φ := (fun ρ => (ρ 2, ρ 3, ρ 13, ρ 14, ρ 15, ρ 26))) (π := (fun ρ => ρ 27)) (ξ := (fun ρ => (ρ 2, ρ 3, ρ 13, ρ 14, ρ 15))) (B := (fun (XX : Exit → (Value × Value × Value × Value × Value) → PH → Prop) => b14_7 (fun c h => R (.pan c) h) (XX (.exit 2)))) (B14_7 _) (of_den (by kernel_rfl) H)
    | n + 2, hi => absurd hi (by omega)
theorem e14 (a0 : Value) (h : PH) (R : AEnd → PH → Prop) : denF Try.prog qf (ordOf o14) (L14 (fun c h => R (.pan c) h)) Try.f14.results.toList c14 #[a0] h R = sh14 a0 h R := by kernel_rfl
theorem k14 : codeOK Try.prog qf Try.f14.ntmps (ordOf o14) c14 = true := by kernel_rfl
theorem s14 : Try.f14.body = some c14 := by kernel_rfl
theorem call14 {a0 : Value} {h : PH} {R : AEnd → PH → Prop} (H : sh14 a0 h R) : ACalls Try.prog 14 #[a0] h R :=
  ACalls_of_den mixed Try.func14 s14 (by kernel_rfl) k14 (l14 R) (of_den (e14 a0 h R) H)

/- (*gavel/ledger.Ledger).Last -/
noncomputable def c15 : Code := bodyOf Try.f15
def o15 : List (Nat × List (Nat × List Nat)) := [(4, [(0, []), (1, []), (2, []), (3, []), (4, []), (5, []), (6, []), (7, []), (8, []), (9, [])])]
def sh15 (a0 a1 : Value) (h : PH) (R : AEnd → PH → Prop) : Prop :=
  vCall Try.prog 39 #[a0, a1] h (fun t11 h_1 =>
  vExt t11 0 fun t12 =>
  vExt t11 1 fun t13 =>
  vBin Try.prog .neq 29 t13 (.int .i64 0) fun t15 =>
  dIf t15 (R (.ret (.tuple #[(.int .i64 0), (.string ⟨#[]⟩)])) h_1)
  (vNil t12 fun t17 =>
  vFA 10 t17 fun t18 =>
  vLoad none t18 h_1 fun t19 =>
  vNil t12 fun t21 =>
  vFA 11 t21 fun t22 =>
  vLoad none t22 h_1 fun t23 =>
  R (.ret (.tuple #[t19, t23])) h_1))
  (fun c h => R (.pan c) h)
theorem l15 (R : AEnd → PH → Prop) : LoopsOK Try.prog qf (ordOf o15) (fun c h => R (.pan c) h) noLoops c15 := noLoops_ok (by kernel_rfl)
theorem e15 (a0 a1 : Value) (h : PH) (R : AEnd → PH → Prop) : denF Try.prog qf (ordOf o15) noLoops Try.f15.results.toList c15 #[a0, a1] h R = sh15 a0 a1 h R := by kernel_rfl
theorem k15 : codeOK Try.prog qf Try.f15.ntmps (ordOf o15) c15 = true := by kernel_rfl
theorem s15 : Try.f15.body = some c15 := by kernel_rfl
theorem call15 {a0 a1 : Value} {h : PH} {R : AEnd → PH → Prop} (H : sh15 a0 a1 h R) : ACalls Try.prog 15 #[a0, a1] h R :=
  ACalls_of_den mixed Try.func15 s15 (by kernel_rfl) k15 (l15 R) (of_den (e15 a0 a1 h R) H)

/- (*gavel/ledger.Ledger).Account -/
noncomputable def c16 : Code := bodyOf Try.f16
def o16 : List (Nat × List (Nat × List Nat)) := []
def sh16 (a0 a1 : Value) (h : PH) (R : AEnd → PH → Prop) : Prop :=
  vNew #[.int .i64 0, .int .i64 0, .int .i64 0, .int .i64 0, .int .i64 0, .int .i64 0, .int .i64 0, .int .i64 0, .int .i64 0, .int .i64 0] 43 h fun t4 h_1 =>
  vCall Try.prog 39 #[a0, a1] h_1 (fun t11 h_2 =>
  vExt t11 0 fun t12 =>
  vExt t11 1 fun t13 =>
  vBin Try.prog .neq 29 t13 (.int .i64 0) fun t15 =>
  dIf t15 (vBuild [(0, 1), (1, 1), (2, 4), (6, 4)] #[.int .i64 0, .int .i64 0, .int .i64 0, .int .i64 0, .int .i64 0, .int .i64 0, .int .i64 0, .int .i64 0, .int .i64 0, .int .i64 0] [] fun t16 =>
  vStore 10 t4 t16 h_2 fun h_3 =>
  vLoad (some 10) t4 h_3 fun rv =>
  R (.ret (.tuple #[rv, (.bool false)])) h_3)
  (vNil t12 fun t18 =>
  vFA 0 t18 fun t19 =>
  vLoad (some 10) t19 h_2 fun t20 =>
  vStore 10 t4 t20 h_2 fun h_4 =>
  vLoad (some 10) t4 h_4 fun rv_1 =>
  R (.ret (.tuple #[rv_1, (.bool true)])) h_4))
  (fun c h => R (.pan c) h)
theorem l16 (R : AEnd → PH → Prop) : LoopsOK Try.prog qf (ordOf o16) (fun c h => R (.pan c) h) noLoops c16 := noLoops_ok (by kernel_rfl)
theorem e16 (a0 a1 : Value) (h : PH) (R : AEnd → PH → Prop) : denF Try.prog qf (ordOf o16) noLoops Try.f16.results.toList c16 #[a0, a1] h R = sh16 a0 a1 h R := by kernel_rfl
theorem k16 : codeOK Try.prog qf Try.f16.ntmps (ordOf o16) c16 = true := by kernel_rfl
theorem s16 : Try.f16.body = some c16 := by kernel_rfl
theorem call16 {a0 a1 : Value} {h : PH} {R : AEnd → PH → Prop} (H : sh16 a0 a1 h R) : ACalls Try.prog 16 #[a0, a1] h R :=
  ACalls_of_den mixed Try.func16 s16 (by kernel_rfl) k16 (l16 R) (of_den (e16 a0 a1 h R) H)

/- gavel/ledger.Of -/
noncomputable def c17 : Code := bodyOf Try.f17
def o17 : List (Nat × List (Nat × List Nat)) := [(9, [(0, []), (1, []), (2, []), (3, [1]), (4, []), (5, []), (6, []), (7, []), (8, []), (9, []), (10, []), (11, []), (12, []), (13, []), (14, []), (15, []), (16, []), (17, [])])]
def b17_7 (Kp : List PanicEntry → PH → Prop) (x0 : (Value × Value × Value) → PH → Prop) (xr : (Value × Value × Value) → PH → Prop) (f : Value × Value × Value) (kn : (Value × Value × Value) → (Value × Value × Value) → PH → Prop) (s : Value × Value × Value) (h : PH) : Prop :=
  vBin Try.prog .lss 3 s.2.2 f.2.2 fun t32 =>
  dIf t32 (vIxS 2 f.2.1 s.2.2 fun t34 =>
  vLoad (some 2) t34 h fun t35 =>
  vNew #[.string ⟨#[]⟩, .string ⟨#[]⟩] 32 h fun t11 h_1 =>
  vStore 2 t11 t35 h_1 fun h_2 =>
  vFA 0 t11 fun t36 =>
  vLoad none t36 h_2 fun t37 =>
  vCall Try.prog 26 #[s.2.2] h_2 (fun t39 h_3 =>
  (vLoad none t36 h_3 fun u =>
  t37 = u) ∧
  vBin Try.prog .neq 9 t37 t39 fun t40 =>
  gq (boolOf t40) false (fun K =>
  K f.1 h_3)
  (fun t42 h_4 =>
  gq (boolOf t40) false (fun K_1 =>
  K_1 f.1 h_4)
  (fun t43 h_5 =>
  gq (boolOf t40) false (fun K_2 =>
  vNil t43 fun u_1 =>
  K_2 u_1 h_5)
  (fun t44 h_6 =>
  gq (boolOf t40) false (fun K_3 =>
  vFA 1 t44 fun u_2 =>
  K_3 u_2 h_6)
  (fun t45 h_7 =>
  gq (boolOf t40) false (fun K_4 =>
  vLoad none t45 h_7 fun u_3 =>
  K_4 u_3 h_7)
  (fun t46 h_8 =>
  gq (boolOf t40) false (fun K_5 =>
  K_5 s.2.2 h_8)
  (fun t47 h_9 =>
  gq (boolOf t40) false (fun K_6 =>
  vIxS 12 t46 t47 fun u_4 =>
  K_6 u_4 h_9)
  (fun t48 h_10 =>
  gq (boolOf t40) false (fun K_7 =>
  vFA 1 t11 fun u_5 =>
  K_7 u_5 h_10)
  (fun t49 h_11 =>
  gq (boolOf t40) false (fun K_8 =>
  vLoad none t49 h_11 fun u_6 =>
  K_8 u_6 h_11)
  (fun t50 h_12 =>
  gq (boolOf t40) false (fun K_9 =>
  vCall Try.prog 40 #[t42, t48, t50] h_12 (fun u_7 h_13 =>
  K_9 u_7 h_13)
  Kp)
  (fun t51 h_14 =>
  gq (boolOf t40) false (fun K_10 =>
  vUn Try.prog .not t51 fun u_8 =>
  K_10 u_8 h_14)
  (fun t52 h_15 =>
  vPick t40 (.bool true) t52 fun t53 =>
  dIf t53 (xr ((.pointer none), (.int .i64 92), f.1) h_15)
  (vBin Try.prog .add 3 s.2.2 (.int .i64 1) fun t54 =>
  kn f (s.1, s.2.1, t54) h_15)) h_14) h_12) h_11) h_10) h_9) h_8) h_7) h_6) h_5) h_4) h_3)
  Kp)
  (x0 (s.1, s.2.1, f.1) h)

def b17_14 (Kp : List PanicEntry → PH → Prop) (x2 : (Value × Value × Value) → PH → Prop) (xr : (Value × Value × Value) → PH → Prop) (f : Value × Value × Value) (kn : (Value × Value × Value) → (Value × Value × Value) → PH → Prop) (s : Value × Value × Value) (h : PH) : Prop :=
  vBin Try.prog .lss 3 s.2.2 f.2.2 fun t66 =>
  dIf t66 (vIxS 1 f.2.1 s.2.2 fun t67 =>
  vLoad none t67 h fun t68 =>
  vBin Try.prog .gtr 3 t68 (.int .i64 1099511627776) fun t70 =>
  dIf t70 (xr ((.pointer none), (.int .i64 92), f.1) h)
  (vBin Try.prog .add 3 s.2.2 (.int .i64 1) fun t71 =>
  kn f (s.1, s.2.1, t71) h))
  (x2 (s.1, s.2.1, f.1) h)

def sh17 (a0 a1 a2 : Value) (h : PH) (R : AEnd → PH → Prop) : Prop :=
  vCall Try.prog 23 #[a0, a1] h (fun t19 h_1 =>
  vExt t19 0 fun t20 =>
  vExt t19 1 fun t21 =>
  vBin Try.prog .neq 29 t21 (.int .i64 0) fun t23 =>
  dIf t23 (R (.ret (.tuple #[(.pointer none), t21])) h_1)
  (vLenS a2 fun t26 =>
  vBin Try.prog .neq 3 t26 a0 fun t28 =>
  dIf t28 (R (.ret (.tuple #[(.pointer none), (.int .i64 92)])) h_1)
  (vLenS a2 fun t30 =>
  lf (b17_7 (fun c h => R (.pan c) h) (fun v h => exq (fun ρ => (ρ 6, ρ 7, ρ 8)) v (fun r h_2 =>
  vCall Try.prog 14 #[(r 8)] h_2 (fun t57 h_3 =>
  vExt t57 0 fun t58 =>
  vExt t57 1 fun t59 =>
  vNew #[.int .i64 0, .int .i64 0, .int .i64 0, .int .i64 0] 37 h_3 fun t13 h_4 =>
  vStore 4 t13 t59 h_4 fun h_5 =>
  (1 * 1 ≤ 2 ^ 24) ∧ vBuildS 3 1 1 #[.int .i64 0] [(0, t58)] h_5 fun t61 h_6 =>
  vSlA 4 1 none none t13 fun t62 =>
  (0 < 1) ∧ (0 < 8) ∧ (Array.size #[(.int .i64 0 : Value)] = 1) ∧ vAppend false 3 1 8 t61 t62 h_6 fun t63 h_7 =>
  vLenS t63 fun t64 =>
  lf (b17_14 (fun c h => R (.pan c) h) (fun v h => exq (fun ρ => (ρ 6, ρ 7, ρ 8)) v (fun r_1 h_8 =>
  R (.ret (.tuple #[(r_1 8), (.int .i64 0)])) h_8) h) (fun v h => exq (fun ρ => (ρ 6, ρ 7, ρ 8)) v (fun r_1 h_9 =>
  R (.ret (.tuple #[(r_1 6), (r_1 7)])) h_9) h)) ((r 8), t63, t64) ((r 6), (r 7), (.int .i64 0)) h_7)
  (fun c h => R (.pan c) h)) h) (fun v h => exq (fun ρ => (ρ 6, ρ 7, ρ 8)) v (fun r h_10 =>
  R (.ret (.tuple #[(r 6), (r 7)])) h_10) h)) (t20, a2, t30) ((.pointer none), (.int .i64 0), (.int .i64 0)) h_1)))
  (fun c h => R (.pan c) h)
def L17 (Kp : List PanicEntry → PH → Prop) : Loops := fun c Q ρ h =>
    sel (Nat.beq (loopId c) 7) (lf (b17_7 Kp (fun v h => exq (fun ρ => (ρ 6, ρ 7, ρ 8)) v (Q (.exit 0)) h) (fun v h => exq (fun ρ => (ρ 6, ρ 7, ρ 8)) v (Q .ret) h)) ((fun ρ => (ρ 8, ρ 29, ρ 30)) ρ) ((fun ρ => (ρ 6, ρ 7, ρ 31)) ρ) h)
    (sel (Nat.beq (loopId c) 14) (lf (b17_14 Kp (fun v h => exq (fun ρ => (ρ 6, ρ 7, ρ 8)) v (Q (.exit 2)) h) (fun v h => exq (fun ρ => (ρ 6, ρ 7, ρ 8)) v (Q .ret) h)) ((fun ρ => (ρ 8, ρ 63, ρ 64)) ρ) ((fun ρ => (ρ 6, ρ 7, ρ 65)) ρ) h)
    (False))
theorem B17_7 (Kp : List PanicEntry → PH → Prop) (KN : (Value × Value × Value) → (Value × Value × Value) → PH → Prop) (XX : Exit → (Value × Value × Value) → PH → Prop) (ρ : Env) (h : PH) :
    den Try.prog qf (ordOf o17) Kp (L17 Kp) (loopAt c17 0) (lq KN XX (fun ρ => (ρ 8, ρ 29, ρ 30)) (fun ρ => (ρ 6, ρ 7, ρ 31)) (fun ρ => (ρ 6, ρ 7, ρ 8))) ρ h = b17_7 Kp (XX (.exit 0)) (XX .ret) ((fun ρ => (ρ 8, ρ 29, ρ 30)) ρ) KN ((fun ρ => (ρ 6, ρ 7, ρ 31)) ρ) h := by kernel_rfl
theorem B17_14 (Kp : List PanicEntry → PH → Prop) (KN : (Value × Value × Value) → (Value × Value × Value) → PH → Prop) (XX : Exit → (Value × Value × Value) → PH → Prop) (ρ : Env) (h : PH) :
    den Try.prog qf (ordOf o17) Kp (L17 Kp) (loopAt c17 1) (lq KN XX (fun ρ => (ρ 8, ρ 63, ρ 64)) (fun ρ => (ρ 6, ρ 7, ρ 65)) (fun ρ => (ρ 6, ρ 7, ρ 8))) ρ h = b17_14 Kp (XX (.exit 2)) (XX .ret) ((fun ρ => (ρ 8, ρ 63, ρ 64)) ρ) KN ((fun ρ => (ρ 6, ρ 7, ρ 65)) ρ) h := by kernel_rfl
theorem l17 (R : AEnd → PH → Prop) : LoopsOK Try.prog qf (ordOf o17) (fun c h => R (.pan c) h) (L17 (fun c h => R (.pan c) h)) c17 :=
  LoopsOK.mk 2 (by kernel_rfl) fun i hi Q ρ h H => match i, hi with
    | 0, _ => loop_gen (F := Value × Value × Value) (S := Value × Value × Value) (X := Value × Value × Value) (φ := (fun ρ => (ρ 8, ρ 29, ρ 30))) (π := (fun ρ => (ρ 6, ρ 7, ρ 31))) (ξ := (fun ρ => (ρ 6, ρ 7, ρ 8))) (B := (fun (XX : Exit → (Value × Value × Value) → PH → Prop) => b17_7 (fun c h => R (.pan c) h) (XX (.exit 0)) (XX .ret))) (B17_7 _) (of_den (by kernel_rfl) H)
    | 1, _ => loop_gen (F := Value × Value × Value) (S := Value × Value × Value) (X := Value × Value × Value) (φ := (fun ρ => (ρ 8, ρ 63, ρ 64))) (π := (fun ρ => (ρ 6, ρ 7, ρ 65))) (ξ := (fun ρ => (ρ 6, ρ 7, ρ 8))) (B := (fun (XX : Exit → (Value × Value × Value) → PH → Prop) => b17_14 (fun c h => R (.pan c) h) (XX (.exit 2)) (XX .ret))) (B17_14 _) (of_den (by kernel_rfl) H)
    | n + 2, hi => absurd hi (by omega)
theorem e17 (a0 a1 a2 : Value) (h : PH) (R : AEnd → PH → Prop) : denF Try.prog qf (ordOf o17) (L17 (fun c h => R (.pan c) h)) Try.f17.results.toList c17 #[a0, a1, a2] h R = sh17 a0 a1 a2 h R := by kernel_rfl
theorem k17 : codeOK Try.prog qf Try.f17.ntmps (ordOf o17) c17 = true := by kernel_rfl
theorem s17 : Try.f17.body = some c17 := by kernel_rfl
theorem call17 {a0 a1 a2 : Value} {h : PH} {R : AEnd → PH → Prop} (H : sh17 a0 a1 a2 h R) : ACalls Try.prog 17 #[a0, a1, a2] h R :=
  ACalls_of_den mixed Try.func17 s17 (by kernel_rfl) k17 (l17 R) (of_den (e17 a0 a1 a2 h R) H)

/- gavel/gavelref06.Of -/
noncomputable def c18 : Code := bodyOf Try.f18
def o18 : List (Nat × List (Nat × List Nat)) := [(10, [(0, []), (1, []), (2, []), (3, []), (4, []), (5, []), (6, []), (7, []), (8, []), (9, [7]), (10, []), (11, [])])]
def b18_7 (Kp : List PanicEntry → PH → Prop) (x0 : (Value × Value × Value × Value) → PH → Prop) (xr : (Value × Value × Value × Value) → PH → Prop) (f : Value × Value × Value × Value × Value) (kn : (Value × Value × Value × Value × Value) → (Value × Value) → PH → Prop) (s : Value × Value) (h : PH) : Prop :=
  vBin Try.prog .lss 3 s.2 f.1 fun t30 =>
  dIf t30 (vIxS 2 f.2.2.1 s.2 fun t37 =>
  vFA 1 t37 fun t38 =>
  vLoad none t38 h fun t39 =>
  vCall Try.prog 41 #[f.2.1, t39] h (fun t40 h_1 =>
  vExt t40 0 fun t41 =>
  vExt t40 1 fun t42 =>
  vNew #[.int .i64 0, .int .i64 0, .int .i64 0, .int .i64 0, .int .i64 0, .int .i64 0, .int .i64 0, .int .i64 0, .int .i64 0, .int .i64 0, .int .i64 0, .string ⟨#[]⟩] 83 h_1 fun t11 h_2 =>
  vStore 12 t11 t41 h_2 fun h_3 =>
  vUn Try.prog .not t42 fun t44 =>
  gq (boolOf t44) false (fun K =>
  K f.2.2.1 h_3)
  (fun t46 h_4 =>
  gq (boolOf t44) false (fun K_1 =>
  K_1 s.2 h_4)
  (fun t47 h_5 =>
  gq (boolOf t44) false (fun K_2 =>
  vIxS 2 t46 t47 fun u =>
  K_2 u h_5)
  (fun t48 h_6 =>
  gq (boolOf t44) false (fun K_3 =>
  vFA 0 t48 fun u_1 =>
  K_3 u_1 h_6)
  (fun t49 h_7 =>
  gq (boolOf t44) false (fun K_4 =>
  vLoad none t49 h_7 fun u_2 =>
  K_4 u_2 h_7)
  (fun t50 h_8 =>
  gq (boolOf t44) false (fun K_5 =>
  K_5 s.2 h_8)
  (fun t51 h_9 =>
  gq (boolOf t44) false (fun K_6 =>
  vCall Try.prog 42 #[t51] h_9 (fun u_3 h_10 =>
  K_6 u_3 h_10)
  Kp)
  (fun t52 h_11 =>
  (gd (boolOf t44) false (vLoad none t49 h_11 fun u_4 =>
  t50 = u_4)) ∧
  gq (boolOf t44) false (fun K_7 =>
  vBin Try.prog .neq 9 t50 t52 fun u_5 =>
  K_7 u_5 h_11)
  (fun t53 h_12 =>
  vPick t44 (.bool true) t53 fun t54 =>
  dIf t54 (vBuild [(0, 1), (1, 1)] #[.int .i64 0, .slice none 0 0] [] fun t55 =>
  vStore 2 f.2.2.2.1 t55 h_12 fun h_13 =>
  xr (f.2.1, f.2.2.2.1, (.int .i64 92), f.2.2.2.2) h_13)
  (vFA 1 f.2.2.2.2 fun t56 =>
  vLoad none t56 h_12 fun t57 =>
  vLoad (some 12) t11 h_12 fun t59 =>
  vIxS 12 t57 s.2 fun t60 =>
  vStore 12 t60 t59 h_12 fun h_14 =>
  vBin Try.prog .add 3 s.2 (.int .i64 1) fun t32 =>
  kn f (s.1, t32) h_14)) h_11) h_9) h_8) h_7) h_6) h_5) h_4) h_3)
  Kp)
  (x0 (f.2.1, f.2.2.2.1, s.1, f.2.2.2.2) h)

def b18_14 (Kp : List PanicEntry → PH → Prop) (x2 : (Value × Value × Value) → PH → Prop) (xr : (Value × Value × Value) → PH → Prop) (f : Value × Value × Value) (kn : (Value × Value × Value) → (Value × Value) → PH → Prop) (s : Value × Value) (h : PH) : Prop :=
  vBin Try.prog .leq 3 s.2 f.1 fun t63 =>
  dIf t63 (vLoad (some 2) f.2.2 h fun t66 =>
  vCall Try.prog 43 #[t66, s.2] h (fun t68 h_1 =>
  vBin Try.prog .gtr 3 t68 (.int .i64 1099511627776) fun t69 =>
  dIf t69 (vBuild [(0, 1), (1, 1)] #[.int .i64 0, .slice none 0 0] [] fun t70 =>
  vStore 2 f.2.1 t70 h_1 fun h_2 =>
  xr (f.2.1, (.int .i64 92), f.2.2) h_2)
  (vBin Try.prog .add 3 s.2 (.int .i64 1) fun t65 =>
  kn f (s.1, t65) h_1))
  Kp)
  (x2 (f.2.1, s.1, f.2.2) h)

def sh18 (a0 a1 a2 : Value) (h : PH) (R : AEnd → PH → Prop) : Prop :=
  vNew #[.int .i64 0, .slice none 0 0] 52 h fun t6 h_1 =>
  vCall Try.prog 20 #[a0, a1] h_1 (fun t17 h_2 =>
  vExt t17 0 fun t18 =>
  vExt t17 1 fun t19 =>
  vNew #[.int .i64 0, .slice none 0 0] 52 h_2 fun t8 h_3 =>
  vStore 2 t8 t18 h_3 fun h_4 =>
  vUn Try.prog .not t19 fun t21 =>
  dIf t21 (vLoad (some 2) t8 h_4 fun t22 =>
  vStore 2 t6 t22 h_4 fun h_5 =>
  vLoad (some 2) t6 h_5 fun rv =>
  R (.ret (.tuple #[rv, (.int .i64 1)])) h_5)
  (vLenS a2 fun t24 =>
  vBin Try.prog .neq 3 t24 a0 fun t26 =>
  dIf t26 (vBuild [(0, 1), (1, 1)] #[.int .i64 0, .slice none 0 0] [] fun t27 =>
  vStore 2 t6 t27 h_4 fun h_6 =>
  vLoad (some 2) t6 h_6 fun rv_1 =>
  R (.ret (.tuple #[rv_1, (.int .i64 92)])) h_6)
  (lf (b18_7 (fun c h => R (.pan c) h) (fun v h => exq (fun ρ => (ρ 1, ρ 6, ρ 7, ρ 8)) v (fun r h_7 =>
  lf (b18_14 (fun c h => R (.pan c) h) (fun v h => exq (fun ρ => (ρ 6, ρ 7, ρ 8)) v (fun r_1 h_8 =>
  vLoad (some 2) (r_1 8) h_8 fun t71 =>
  vStore 2 (r_1 6) t71 h_8 fun h_9 =>
  vLoad (some 2) (r_1 6) h_9 fun rv_2 =>
  R (.ret (.tuple #[rv_2, (.int .i64 0)])) h_9) h) (fun v h => exq (fun ρ => (ρ 6, ρ 7, ρ 8)) v (fun r_1 h_10 =>
  vLoad (some 2) (r_1 6) h_10 fun rv_3 =>
  R (.ret (.tuple #[rv_3, (r_1 7)])) h_10) h)) ((r 1), (r 6), (r 8)) ((r 7), (.int .i64 0)) h_7) h) (fun v h => exq (fun ρ => (ρ 1, ρ 6, ρ 7, ρ 8)) v (fun r h_11 =>
  vLoad (some 2) (r 6) h_11 fun rv_4 =>
  R (.ret (.tuple #[rv_4, (r 7)])) h_11) h)) (a0, a1, a2, t6, t8) ((.int .i64 0), (.int .i64 0)) h_4)))
  (fun c h => R (.pan c) h)
def L18 (Kp : List PanicEntry → PH → Prop) : Loops := fun c Q ρ h =>
    sel (Nat.beq (loopId c) 7) (lf (b18_7 Kp (fun v h => exq (fun ρ => (ρ 1, ρ 6, ρ 7, ρ 8)) v (Q (.exit 0)) h) (fun v h => exq (fun ρ => (ρ 1, ρ 6, ρ 7, ρ 8)) v (Q .ret) h)) ((fun ρ => (ρ 0, ρ 1, ρ 2, ρ 6, ρ 8)) ρ) ((fun ρ => (ρ 7, ρ 10)) ρ) h)
    (sel (Nat.beq (loopId c) 14) (lf (b18_14 Kp (fun v h => exq (fun ρ => (ρ 6, ρ 7, ρ 8)) v (Q (.exit 2)) h) (fun v h => exq (fun ρ => (ρ 6, ρ 7, ρ 8)) v (Q .ret) h)) ((fun ρ => (ρ 1, ρ 6, ρ 8)) ρ) ((fun ρ => (ρ 7, ρ 13)) ρ) h)
    (False))
theorem B18_7 (Kp : List PanicEntry → PH → Prop) (KN : (Value × Value × Value × Value × Value) → (Value × Value) → PH → Prop) (XX : Exit → (Value × Value × Value × Value) → PH → Prop) (ρ : Env) (h : PH) :
    den Try.prog qf (ordOf o18) Kp (L18 Kp) (loopAt c18 0) (lq KN XX (fun ρ => (ρ 0, ρ 1, ρ 2, ρ 6, ρ 8)) (fun ρ => (ρ 7, ρ 10)) (fun ρ => (ρ 1, ρ 6, ρ 7, ρ 8))) ρ h = b18_7 Kp (XX (.exit 0)) (XX .ret) ((fun ρ => (ρ 0, ρ 1, ρ 2, ρ 6, ρ 8)) ρ) KN ((fun ρ => (ρ 7, ρ 10)) ρ) h := by kernel_rfl
theorem B18_14 (Kp : List PanicEntry → PH → Prop) (KN : (Value × Value × Value) → (Value × Value) → PH → Prop) (XX : Exit → (Value × Value × Value) → PH → Prop) (ρ : Env) (h : PH) :
    den Try.prog qf (ordOf o18) Kp (L18 Kp) (loopAt c18 1) (lq KN XX (fun ρ => (ρ 1, ρ 6, ρ 8)) (fun ρ => (ρ 7, ρ 13)) (fun ρ => (ρ 6, ρ 7, ρ 8))) ρ h = b18_14 Kp (XX (.exit 2)) (XX .ret) ((fun ρ => (ρ 1, ρ 6, ρ 8)) ρ) KN ((fun ρ => (ρ 7, ρ 13)) ρ) h := by kernel_rfl
theorem l18 (R : AEnd → PH → Prop) : LoopsOK Try.prog qf (ordOf o18) (fun c h => R (.pan c) h) (L18 (fun c h => R (.pan c) h)) c18 :=
  LoopsOK.mk 2 (by kernel_rfl) fun i hi Q ρ h H => match i, hi with
    | 0, _ => loop_gen (F := Value × Value × Value × Value × Value) (S := Value × Value) (X := Value × Value × Value × Value) (φ := (fun ρ => (ρ 0, ρ 1, ρ 2, ρ 6, ρ 8))) (π := (fun ρ => (ρ 7, ρ 10))) (ξ := (fun ρ => (ρ 1, ρ 6, ρ 7, ρ 8))) (B := (fun (XX : Exit → (Value × Value × Value × Value) → PH → Prop) => b18_7 (fun c h => R (.pan c) h) (XX (.exit 0)) (XX .ret))) (B18_7 _) (of_den (by kernel_rfl) H)
    | 1, _ => loop_gen (F := Value × Value × Value) (S := Value × Value) (X := Value × Value × Value) (φ := (fun ρ => (ρ 1, ρ 6, ρ 8))) (π := (fun ρ => (ρ 7, ρ 13))) (ξ := (fun ρ => (ρ 6, ρ 7, ρ 8))) (B := (fun (XX : Exit → (Value × Value × Value) → PH → Prop) => b18_14 (fun c h => R (.pan c) h) (XX (.exit 2)) (XX .ret))) (B18_14 _) (of_den (by kernel_rfl) H)
    | n + 2, hi => absurd hi (by omega)
theorem e18 (a0 a1 a2 : Value) (h : PH) (R : AEnd → PH → Prop) : denF Try.prog qf (ordOf o18) (L18 (fun c h => R (.pan c) h)) Try.f18.results.toList c18 #[a0, a1, a2] h R = sh18 a0 a1 a2 h R := by kernel_rfl
theorem k18 : codeOK Try.prog qf Try.f18.ntmps (ordOf o18) c18 = true := by kernel_rfl
theorem s18 : Try.f18.body = some c18 := by kernel_rfl
theorem call18 {a0 a1 a2 : Value} {h : PH} {R : AEnd → PH → Prop} (H : sh18 a0 a1 a2 h R) : ACalls Try.prog 18 #[a0, a1, a2] h R :=
  ACalls_of_den mixed Try.func18 s18 (by kernel_rfl) k18 (l18 R) (of_den (e18 a0 a1 a2 h R) H)

/- gavel/gavellaw06.like -/
noncomputable def c19 : Code := bodyOf Try.f19
def o19 : List (Nat × List (Nat × List Nat)) := [(7, [(0, []), (1, []), (2, []), (3, []), (4, []), (5, []), (6, [2]), (7, [])]), (14, [(0, []), (1, []), (2, []), (3, []), (4, []), (5, []), (6, []), (7, []), (8, []), (9, [3]), (10, []), (11, []), (12, []), (13, []), (14, []), (15, []), (16, []), (17, []), (18, []), (19, []), (20, []), (21, []), (22, []), (23, []), (24, []), (25, []), (26, []), (27, []), (28, []), (29, []), (30, []), (31, [])])]
def b19_5 (Kp : List PanicEntry → PH → Prop) (x0 : (Value × Value × Value) → PH → Prop) (xr : (Value × Value × Value) → PH → Prop) (f : Value × Value × Value) (kn : (Value × Value × Value) → (Value × Value) → PH → Prop) (s : Value × Value) (h : PH) : Prop :=
  vBin Try.prog .lss 3 s.2 (.int .i64 4) fun t27 =>
  dIf t27 (vIxA 4 1 f.2.2 s.2 fun t31 =>
  vLoad none t31 h fun t32 =>
  vLoad (some 2) f.2.1 h fun t33 =>
  vBin Try.prog .add 3 s.2 (.int .i64 1) fun t35 =>
  vCall Try.prog 43 #[t33, t35] h (fun t36 h_1 =>
  (vLoad none t31 h_1 fun u =>
  t32 = u) ∧
  vBin Try.prog .neq 3 t32 t36 fun t37 =>
  dIf t37 (xr (f.1, f.2.1, (.bool false)) h_1)
  (vBin Try.prog .add 3 s.2 (.int .i64 1) fun t29 =>
  kn f (s.1, t29) h_1))
  Kp)
  (x0 (f.1, f.2.1, s.1) h)

def b19_10 (Kp : List PanicEntry → PH → Prop) (x2 : (Value × Value × Value) → PH → Prop) (xr : (Value × Value × Value) → PH → Prop) (f : Value × Value) (kn : (Value × Value) → (Value × Value) → PH → Prop) (s : Value × Value) (h : PH) : Prop :=
  vFA 1 f.2 fun t39 =>
  vLoad none t39 h fun t40 =>
  vLenS t40 fun t41 =>
  vBin Try.prog .lss 3 s.2 t41 fun t42 =>
  dIf t42 (vCall Try.prog 16 #[f.1, s.2] h (fun t48 h_1 =>
  vExt t48 0 fun t49 =>
  vExt t48 1 fun t50 =>
  vNew #[.int .i64 0, .int .i64 0, .int .i64 0, .int .i64 0, .int .i64 0, .int .i64 0, .int .i64 0, .int .i64 0, .int .i64 0, .int .i64 0] 43 h_1 fun t9 h_2 =>
  vStore 10 t9 t49 h_2 fun h_3 =>
  vCall Try.prog 15 #[f.1, s.2] h_3 (fun t54 h_4 =>
  vExt t54 0 fun t55 =>
  vExt t54 1 fun t56 =>
  vUn Try.prog .not t50 fun t58 =>
  gq (boolOf t58) false (fun K =>
  vLoad (some 10) t9 h_4 fun u =>
  K u h_4)
  (fun t60 h_5 =>
  gq (boolOf t58) false (fun K_1 =>
  vFA 1 f.2 fun u_1 =>
  K_1 u_1 h_5)
  (fun t61 h_6 =>
  gq (boolOf t58) false (fun K_2 =>
  vLoad none t61 h_6 fun u_2 =>
  K_2 u_2 h_6)
  (fun t62 h_7 =>
  gq (boolOf t58) false (fun K_3 =>
  K_3 s.2 h_7)
  (fun t63 h_8 =>
  gq (boolOf t58) false (fun K_4 =>
  vIxS 12 t62 t63 fun u_3 =>
  K_4 u_3 h_8)
  (fun t64 h_9 =>
  gq (boolOf t58) false (fun K_5 =>
  vLoad (some 12) t64 h_9 fun u_4 =>
  K_5 u_4 h_9)
  (fun t65 h_10 =>
  gq (boolOf t58) false (fun K_6 =>
  vCall Try.prog 44 #[t65] h_10 (fun u_5 h_11 =>
  K_6 u_5 h_11)
  Kp)
  (fun t66 h_12 =>
  (gd (boolOf t58) false (vLoad (some 10) t9 h_12 fun u_6 =>
  t60 = u_6)) ∧
  gq (boolOf t58) false (fun K_7 =>
  vBin Try.prog .neq 43 t60 t66 fun u_7 =>
  K_7 u_7 h_12)
  (fun t67 h_13 =>
  vPick t58 (.bool true) t67 fun t68 =>
  gq (boolOf t68) false (fun K_8 =>
  K_8 t55 h_13)
  (fun t70 h_14 =>
  gq (boolOf t68) false (fun K_9 =>
  vFA 1 f.2 fun u_8 =>
  K_9 u_8 h_14)
  (fun t71 h_15 =>
  gq (boolOf t68) false (fun K_10 =>
  vLoad none t71 h_15 fun u_9 =>
  K_10 u_9 h_15)
  (fun t72 h_16 =>
  gq (boolOf t68) false (fun K_11 =>
  K_11 s.2 h_16)
  (fun t73 h_17 =>
  gq (boolOf t68) false (fun K_12 =>
  vIxS 12 t72 t73 fun u_10 =>
  K_12 u_10 h_17)
  (fun t74 h_18 =>
  gq (boolOf t68) false (fun K_13 =>
  vFA 10 t74 fun u_11 =>
  K_13 u_11 h_18)
  (fun t75 h_19 =>
  gq (boolOf t68) false (fun K_14 =>
  vLoad none t75 h_19 fun u_12 =>
  K_14 u_12 h_19)
  (fun t76 h_20 =>
  gq (boolOf t68) false (fun K_15 =>
  vBin Try.prog .neq 3 t70 t76 fun u_13 =>
  K_15 u_13 h_20)
  (fun t77 h_21 =>
  vPick t68 (.bool true) t77 fun t78 =>
  gq (boolOf t78) false (fun K_16 =>
  K_16 t56 h_21)
  (fun t80 h_22 =>
  gq (boolOf t78) false (fun K_17 =>
  vFA 1 f.2 fun u_14 =>
  K_17 u_14 h_22)
  (fun t81 h_23 =>
  gq (boolOf t78) false (fun K_18 =>
  vLoad none t81 h_23 fun u_15 =>
  K_18 u_15 h_23)
  (fun t82 h_24 =>
  gq (boolOf t78) false (fun K_19 =>
  K_19 s.2 h_24)
  (fun t83 h_25 =>
  gq (boolOf t78) false (fun K_20 =>
  vIxS 12 t82 t83 fun u_16 =>
  K_20 u_16 h_25)
  (fun t84 h_26 =>
  gq (boolOf t78) false (fun K_21 =>
  vFA 11 t84 fun u_17 =>
  K_21 u_17 h_26)
  (fun t85 h_27 =>
  gq (boolOf t78) false (fun K_22 =>
  vLoad none t85 h_27 fun u_18 =>
  K_22 u_18 h_27)
  (fun t86 h_28 =>
  gq (boolOf t78) false (fun K_23 =>
  vBin Try.prog .neq 9 t80 t86 fun u_19 =>
  K_23 u_19 h_28)
  (fun t87 h_29 =>
  vPick t78 (.bool true) t87 fun t88 =>
  dIf t88 (xr (f.1, f.2, (.bool false)) h_29)
  (vBin Try.prog .add 3 s.2 (.int .i64 1) fun t44 =>
  kn f (s.1, t44) h_29)) h_28) h_27) h_26) h_25) h_24) h_23) h_22) h_21) h_20) h_19) h_18) h_17) h_16) h_15) h_14) h_13) h_12) h_10) h_9) h_8) h_7) h_6) h_5) h_4)
  Kp)
  Kp)
  (x2 (f.1, f.2, s.1) h)

def sh19 (a0 a1 : Value) (h : PH) (R : AEnd → PH → Prop) : Prop :=
  vNew (Value.cells a1) 52 h fun t3 h_1 =>
  vCall Try.prog 14 #[a0] h_1 (fun t19 h_2 =>
  vExt t19 0 fun t20 =>
  vExt t19 1 fun t21 =>
  vNew #[.int .i64 0, .int .i64 0, .int .i64 0, .int .i64 0] 37 h_2 fun t6 h_3 =>
  vStore 4 t6 t21 h_3 fun h_4 =>
  vLoad (some 2) t3 h_4 fun t23 =>
  vCall Try.prog 43 #[t23, (.int .i64 0)] h_4 (fun t24 h_5 =>
  vBin Try.prog .neq 3 t20 t24 fun t25 =>
  dIf t25 (R (.ret (.bool false)) h_5)
  (lf (b19_5 (fun c h => R (.pan c) h) (fun v h => exq (fun ρ => (ρ 0, ρ 3, ρ 4)) v (fun r h_6 =>
  lf (b19_10 (fun c h => R (.pan c) h) (fun v h => exq (fun ρ => (ρ 0, ρ 3, ρ 4)) v (fun r_1 h_7 =>
  vCall Try.prog 16 #[(r_1 0), (.int .i64 (-1))] h_7 (fun t91 h_8 =>
  vExt t91 0 fun t92 =>
  vExt t91 1 fun t93 =>
  vNew #[.int .i64 0, .int .i64 0, .int .i64 0, .int .i64 0, .int .i64 0, .int .i64 0, .int .i64 0, .int .i64 0, .int .i64 0, .int .i64 0] 43 h_8 fun t13 h_9 =>
  vStore 10 t13 t92 h_9 fun h_10 =>
  vFA 1 (r_1 3) fun t96 =>
  vLoad none t96 h_10 fun t97 =>
  vLenS t97 fun t98 =>
  vCall Try.prog 16 #[(r_1 0), t98] h_10 (fun t99 h_11 =>
  vExt t99 0 fun t100 =>
  vExt t99 1 fun t101 =>
  vNew #[.int .i64 0, .int .i64 0, .int .i64 0, .int .i64 0, .int .i64 0, .int .i64 0, .int .i64 0, .int .i64 0, .int .i64 0, .int .i64 0] 43 h_11 fun t15 h_12 =>
  vStore 10 t15 t100 h_12 fun h_13 =>
  vUn Try.prog .not t93 fun t103 =>
  gq (boolOf t103) true (fun K =>
  K t101 h_13)
  (fun t105 h_14 =>
  gq (boolOf t103) true (fun K_1 =>
  vUn Try.prog .not t105 fun u =>
  K_1 u h_14)
  (fun t106 h_15 =>
  vPick t103 t106 (.bool false) fun t107 =>
  R (.ret t107) h_15) h_14) h_13)
  (fun c h => R (.pan c) h))
  (fun c h => R (.pan c) h)) h) (fun v h => exq (fun ρ => (ρ 0, ρ 3, ρ 4)) v (fun r_1 h_16 =>
  R (.ret (r_1 4)) h_16) h)) ((r 0), (r 3)) ((r 4), (.int .i64 0)) h_6) h) (fun v h => exq (fun ρ => (ρ 0, ρ 3, ρ 4)) v (fun r h_17 =>
  R (.ret (r 4)) h_17) h)) (a0, t3, t6) ((.bool false), (.int .i64 0)) h_5))
  (fun c h => R (.pan c) h))
  (fun c h => R (.pan c) h)
def L19 (Kp : List PanicEntry → PH → Prop) : Loops := fun c Q ρ h =>
    sel (Nat.beq (loopId c) 5) (lf (b19_5 Kp (fun v h => exq (fun ρ => (ρ 0, ρ 3, ρ 4)) v (Q (.exit 0)) h) (fun v h => exq (fun ρ => (ρ 0, ρ 3, ρ 4)) v (Q .ret) h)) ((fun ρ => (ρ 0, ρ 3, ρ 6)) ρ) ((fun ρ => (ρ 4, ρ 7)) ρ) h)
    (sel (Nat.beq (loopId c) 10) (lf (b19_10 Kp (fun v h => exq (fun ρ => (ρ 0, ρ 3, ρ 4)) v (Q (.exit 2)) h) (fun v h => exq (fun ρ => (ρ 0, ρ 3, ρ 4)) v (Q .ret) h)) ((fun ρ => (ρ 0, ρ 3)) ρ) ((fun ρ => (ρ 4, ρ 8)) ρ) h)
    (False))
theorem B19_5 (Kp : List PanicEntry → PH → Prop) (KN : (Value × Value × Value) → (Value × Value) → PH → Prop) (XX : Exit → (Value × Value × Value) → PH → Prop) (ρ : Env) (h : PH) :
    den Try.prog qf (ordOf o19) Kp (L19 Kp) (loopAt c19 0) (lq KN XX (fun ρ => (ρ 0, ρ 3, ρ 6)) (fun ρ => (ρ 4, ρ 7)) (fun ρ => (ρ 0, ρ 3, ρ 4))) ρ h = b19_5 Kp (XX (.exit 0)) (XX .ret) ((fun ρ => (ρ 0, ρ 3, ρ 6)) ρ) KN ((fun ρ => (ρ 4, ρ 7)) ρ) h := by kernel_rfl
theorem B19_10 (Kp : List PanicEntry → PH → Prop) (KN : (Value × Value) → (Value × Value) → PH → Prop) (XX : Exit → (Value × Value × Value) → PH → Prop) (ρ : Env) (h : PH) :
    den Try.prog qf (ordOf o19) Kp (L19 Kp) (loopAt c19 1) (lq KN XX (fun ρ => (ρ 0, ρ 3)) (fun ρ => (ρ 4, ρ 8)) (fun ρ => (ρ 0, ρ 3, ρ 4))) ρ h = b19_10 Kp (XX (.exit 2)) (XX .ret) ((fun ρ => (ρ 0, ρ 3)) ρ) KN ((fun ρ => (ρ 4, ρ 8)) ρ) h := by kernel_rfl
theorem l19 (R : AEnd → PH → Prop) : LoopsOK Try.prog qf (ordOf o19) (fun c h => R (.pan c) h) (L19 (fun c h => R (.pan c) h)) c19 :=
  LoopsOK.mk 2 (by kernel_rfl) fun i hi Q ρ h H => match i, hi with
    | 0, _ => loop_gen (F := Value × Value × Value) (S := Value × Value) (X := Value × Value × Value) (φ := (fun ρ => (ρ 0, ρ 3, ρ 6))) (π := (fun ρ => (ρ 4, ρ 7))) (ξ := (fun ρ => (ρ 0, ρ 3, ρ 4))) (B := (fun (XX : Exit → (Value × Value × Value) → PH → Prop) => b19_5 (fun c h => R (.pan c) h) (XX (.exit 0)) (XX .ret))) (B19_5 _) (of_den (by kernel_rfl) H)
    | 1, _ => loop_gen (F := Value × Value) (S := Value × Value) (X := Value × Value × Value) (φ := (fun ρ => (ρ 0, ρ 3))) (π := (fun ρ => (ρ 4, ρ 8))) (ξ := (fun ρ => (ρ 0, ρ 3, ρ 4))) (B := (fun (XX : Exit → (Value × Value × Value) → PH → Prop) => b19_10 (fun c h => R (.pan c) h) (XX (.exit 2)) (XX .ret))) (B19_10 _) (of_den (by kernel_rfl) H)
    | n + 2, hi => absurd hi (by omega)
theorem e19 (a0 a1 : Value) (h : PH) (R : AEnd → PH → Prop) : denF Try.prog qf (ordOf o19) (L19 (fun c h => R (.pan c) h)) Try.f19.results.toList c19 #[a0, a1] h R = sh19 a0 a1 h R := by kernel_rfl
theorem k19 : codeOK Try.prog qf Try.f19.ntmps (ordOf o19) c19 = true := by kernel_rfl
theorem s19 : Try.f19.body = some c19 := by kernel_rfl
theorem call19 {a0 a1 : Value} {h : PH} {R : AEnd → PH → Prop} (H : sh19 a0 a1 h R) : ACalls Try.prog 19 #[a0, a1] h R :=
  ACalls_of_den mixed Try.func19 s19 (by kernel_rfl) k19 (l19 R) (of_den (e19 a0 a1 h R) H)

/- gavel/gavelref06.New -/
noncomputable def c20 : Code := bodyOf Try.f20
def o20 : List (Nat × List (Nat × List Nat)) := []
def b20_6 (Kp : List PanicEntry → PH → Prop) (x0 : (Value × Value) → PH → Prop) (f : Value × Value × Value) (kn : (Value × Value × Value) → Value → PH → Prop) (s : Value) (h : PH) : Prop :=
  vBin Try.prog .lss 3 s f.1 fun t27 =>
  dIf t27 (vFA 1 f.2.2 fun t30 =>
  vLoad none t30 h fun t31 =>
  vBuild [(0, 5), (5, 5), (10, 1), (11, 1)] #[.int .i64 0, .int .i64 0, .int .i64 0, .int .i64 0, .int .i64 0, .int .i64 0, .int .i64 0, .int .i64 0, .int .i64 0, .int .i64 0, .int .i64 0, .string ⟨#[]⟩] [] fun t32 =>
  (1 * 12 ≤ 2 ^ 24) ∧ vBuildS 83 12 1 #[.int .i64 0, .int .i64 0, .int .i64 0, .int .i64 0, .int .i64 0, .int .i64 0, .int .i64 0, .int .i64 0, .int .i64 0, .int .i64 0, .int .i64 0, .string ⟨#[]⟩] [(0, t32)] h fun t33 h_1 =>
  (0 < 12) ∧ (0 < 104) ∧ (Array.size #[(.int .i64 0 : Value), (.int .i64 0 : Value), (.int .i64 0 : Value), (.int .i64 0 : Value), (.int .i64 0 : Value), (.int .i64 0 : Value), (.int .i64 0 : Value), (.int .i64 0 : Value), (.int .i64 0 : Value), (.int .i64 0 : Value), (.int .i64 0 : Value), (.string ⟨#[]⟩ : Value)] = 12) ∧ vAppend false 83 12 104 t31 t33 h_1 fun t34 h_2 =>
  vFA 1 f.2.2 fun t35 =>
  vStore 1 t35 t34 h_2 fun h_3 =>
  vBin Try.prog .add 3 s (.int .i64 1) fun t29 =>
  kn f t29 h_3)
  (x0 (f.2.1, f.2.2) h)

def sh20 (a0 a1 : Value) (h : PH) (R : AEnd → PH → Prop) : Prop :=
  vNew #[.int .i64 0, .slice none 0 0] 52 h fun t4 h_1 =>
  vNew #[.int .i64 0, .slice none 0 0] 52 h_1 fun t6 h_2 =>
  vBin Try.prog .lss 3 a0 (.int .i64 1) fun t9 =>
  gq (boolOf t9) false (fun K =>
  K a0 h_2)
  (fun t11 h_3 =>
  gq (boolOf t9) false (fun K_1 =>
  vBin Try.prog .gtr 3 t11 (.int .i64 16) fun u =>
  K_1 u h_3)
  (fun t12 h_4 =>
  vPick t9 (.bool true) t12 fun t13 =>
  gq (boolOf t13) false (fun K_2 =>
  K_2 a1 h_4)
  (fun t15 h_5 =>
  gq (boolOf t13) false (fun K_3 =>
  vBin Try.prog .lss 3 t15 (.int .i64 1) fun u_1 =>
  K_3 u_1 h_5)
  (fun t16 h_6 =>
  vPick t13 (.bool true) t16 fun t17 =>
  gq (boolOf t17) false (fun K_4 =>
  K_4 a1 h_6)
  (fun t19 h_7 =>
  gq (boolOf t17) false (fun K_5 =>
  vBin Try.prog .gtr 3 t19 (.int .i64 4) fun u_2 =>
  K_5 u_2 h_7)
  (fun t20 h_8 =>
  vPick t17 (.bool true) t20 fun t21 =>
  dIf t21 (vLoad (some 2) t6 h_8 fun t22 =>
  vStore 2 t4 t22 h_8 fun h_9 =>
  vLoad (some 2) t4 h_9 fun rv =>
  R (.ret (.tuple #[rv, (.bool false)])) h_9)
  (vFA 0 t6 fun t24 =>
  vStore 1 t24 a1 h_8 fun h_10 =>
  lf (b20_6 (fun c h => R (.pan c) h) (fun v h => exq (fun ρ => (ρ 4, ρ 6)) v (fun r h_11 =>
  vLoad (some 2) (r 6) h_11 fun t36 =>
  vStore 2 (r 4) t36 h_11 fun h_12 =>
  vLoad (some 2) (r 4) h_12 fun rv_1 =>
  R (.ret (.tuple #[rv_1, (.bool true)])) h_12) h)) (a0, t4, t6) (.int .i64 0) h_10)) h_7) h_6) h_5) h_4) h_3) h_2
def L20 (Kp : List PanicEntry → PH → Prop) : Loops := fun c Q ρ h =>
    sel (Nat.beq (loopId c) 6) (lf (b20_6 Kp (fun v h => exq (fun ρ => (ρ 4, ρ 6)) v (Q (.exit 0)) h)) ((fun ρ => (ρ 0, ρ 4, ρ 6)) ρ) ((fun ρ => ρ 7) ρ) h)
    (False)
theorem B20_6 (Kp : List PanicEntry → PH → Prop) (KN : (Value × Value × Value) → (Value) → PH → Prop) (XX : Exit → (Value × Value) → PH → Prop) (ρ : Env) (h : PH) :
    den Try.prog qf (ordOf o20) Kp (L20 Kp) (loopAt c20 0) (lq KN XX (fun ρ => (ρ 0, ρ 4, ρ 6)) (fun ρ => ρ 7) (fun ρ => (ρ 4, ρ 6))) ρ h = b20_6 Kp (XX (.exit 0)) ((fun ρ => (ρ 0, ρ 4, ρ 6)) ρ) KN ((fun ρ => ρ 7) ρ) h := by kernel_rfl
theorem l20 (R : AEnd → PH → Prop) : LoopsOK Try.prog qf (ordOf o20) (fun c h => R (.pan c) h) (L20 (fun c h => R (.pan c) h)) c20 :=
  LoopsOK.mk 1 (by kernel_rfl) fun i hi Q ρ h H => match i, hi with
    | 0, _ => loop_gen (F := Value × Value × Value) (S := Value) (X := Value × Value) (φ := (fun ρ => (ρ 0, ρ 4, ρ 6))) (π := (fun ρ => ρ 7)) (ξ := (fun ρ => (ρ 4, ρ 6))) (B := (fun (XX : Exit → (Value × Value) → PH → Prop) => b20_6 (fun c h => R (.pan c) h) (XX (.exit 0)))) (B20_6 _) (of_den (by kernel_rfl) H)
    | n + 1, hi => absurd hi (by omega)
theorem e20 (a0 a1 : Value) (h : PH) (R : AEnd → PH → Prop) : denF Try.prog qf (ordOf o20) (L20 (fun c h => R (.pan c) h)) Try.f20.results.toList c20 #[a0, a1] h R = sh20 a0 a1 h R := by kernel_rfl
theorem k20 : codeOK Try.prog qf Try.f20.ntmps (ordOf o20) c20 = true := by kernel_rfl
theorem s20 : Try.f20.body = some c20 := by kernel_rfl
theorem call20 {a0 a1 : Value} {h : PH} {R : AEnd → PH → Prop} (H : sh20 a0 a1 h R) : ACalls Try.prog 20 #[a0, a1] h R :=
  ACalls_of_den mixed Try.func20 s20 (by kernel_rfl) k20 (l20 R) (of_den (e20 a0 a1 h R) H)

/- gavel/gavellaw06.told -/
noncomputable def c21 : Code := bodyOf Try.f21
def o21 : List (Nat × List (Nat × List Nat)) := [(7, [(0, []), (1, []), (2, []), (3, []), (4, []), (6, []), (7, []), (5, [0, 2, 7]), (8, []), (9, []), (10, []), (11, []), (12, [])]), (9, [(0, []), (1, []), (2, []), (3, []), (4, []), (6, []), (7, []), (5, [0, 2, 7]), (8, []), (9, []), (10, []), (11, []), (12, [])]), (15, [(0, []), (1, []), (2, []), (3, []), (4, []), (6, []), (7, []), (5, [0, 2, 7]), (8, []), (9, []), (10, []), (11, []), (12, [])]), (17, [(0, []), (1, []), (2, []), (3, []), (4, []), (6, []), (7, []), (5, [0, 2, 7]), (8, []), (9, []), (10, []), (11, []), (12, [])]), (21, [(0, []), (1, []), (2, []), (3, []), (4, []), (5, []), (6, []), (8, []), (9, []), (7, [0, 2, 4, 9]), (10, []), (11, []), (12, []), (13, []), (14, [])])]
def sh21 (a0 a1 : Value) (h : PH) (R : AEnd → PH → Prop) : Prop :=
  vNew (Value.cells a0) 52 h fun t2 h_1 =>
  vNew (Value.cells a1) 24 h_1 fun t3 h_2 =>
  vNew #[.int .i64 0, .slice none 0 0] 52 h_2 fun t4 h_3 =>
  vFA 0 t3 fun t6 =>
  vLoad none t6 h_3 fun t7 =>
  vCall Try.prog 27 #[t7, (.int .i64 11)] h_3 (fun t8 h_4 =>
  vBin Try.prog .eql 3 t8 (.int .i64 0) fun t10 =>
  dIf t10 (vLoad (some 2) t2 h_4 fun t11 =>
  vFA 1 t3 fun t12 =>
  vLoad none t12 h_4 fun t13 =>
  vFA 4 t3 fun t14 =>
  vLoad none t14 h_4 fun t15 =>
  vCall Try.prog 45 #[t11, t13, (.int .i64 0), t15] h_4 (fun t16 h_5 =>
  vExt t16 0 fun t17 =>
  vExt t16 1 fun t18 =>
  vStore 2 t4 t17 h_5 fun h_6 =>
  vLoad (some 2) t4 h_6 fun rv =>
  R (.ret (.tuple #[rv, t18])) h_6)
  (fun c h => R (.pan c) h))
  (vBin Try.prog .eql 3 t8 (.int .i64 1) fun t20 =>
  dIf t20 (vLoad (some 2) t2 h_4 fun t21 =>
  vFA 1 t3 fun t22 =>
  vLoad none t22 h_4 fun t23 =>
  vFA 4 t3 fun t24 =>
  vLoad none t24 h_4 fun t25 =>
  vCall Try.prog 46 #[t21, t23, (.int .i64 0), t25] h_4 (fun t26 h_7 =>
  vExt t26 0 fun t27 =>
  vExt t26 1 fun t28 =>
  vStore 2 t4 t27 h_7 fun h_8 =>
  vLoad (some 2) t4 h_8 fun rv_1 =>
  R (.ret (.tuple #[rv_1, t28])) h_8)
  (fun c h => R (.pan c) h))
  (vBin Try.prog .eql 3 t8 (.int .i64 2) fun t30 =>
  dIf t30 (vLoad (some 2) t2 h_4 fun t31 =>
  vFA 1 t3 fun t32 =>
  vLoad none t32 h_4 fun t33 =>
  vFA 3 t3 fun t34 =>
  vLoad none t34 h_4 fun t35 =>
  vFA 4 t3 fun t37 =>
  vLoad none t37 h_4 fun t38 =>
  vCall Try.prog 47 #[t35] h_4 (fun t36 h_9 =>
  (vLoad (some 2) t2 h_9 fun u =>
  t31 = u) ∧
  (vLoad none t32 h_9 fun u_1 =>
  t33 = u_1) ∧
  (vLoad none t37 h_9 fun u_2 =>
  t38 = u_2) ∧
  vCall Try.prog 45 #[t31, t33, t36, t38] h_9 (fun t39 h_10 =>
  vExt t39 0 fun t40 =>
  vExt t39 1 fun t41 =>
  vStore 2 t4 t40 h_10 fun h_11 =>
  vLoad (some 2) t4 h_11 fun rv_2 =>
  R (.ret (.tuple #[rv_2, t41])) h_11)
  (fun c h => R (.pan c) h))
  (fun c h => R (.pan c) h))
  (vBin Try.prog .eql 3 t8 (.int .i64 3) fun t43 =>
  dIf t43 (vLoad (some 2) t2 h_4 fun t44 =>
  vFA 1 t3 fun t45 =>
  vLoad none t45 h_4 fun t46 =>
  vFA 3 t3 fun t47 =>
  vLoad none t47 h_4 fun t48 =>
  vFA 4 t3 fun t50 =>
  vLoad none t50 h_4 fun t51 =>
  vCall Try.prog 47 #[t48] h_4 (fun t49 h_12 =>
  (vLoad (some 2) t2 h_12 fun u_3 =>
  t44 = u_3) ∧
  (vLoad none t45 h_12 fun u_4 =>
  t46 = u_4) ∧
  (vLoad none t50 h_12 fun u_5 =>
  t51 = u_5) ∧
  vCall Try.prog 46 #[t44, t46, t49, t51] h_12 (fun t52 h_13 =>
  vExt t52 0 fun t53 =>
  vExt t52 1 fun t54 =>
  vStore 2 t4 t53 h_13 fun h_14 =>
  vLoad (some 2) t4 h_14 fun rv_3 =>
  R (.ret (.tuple #[rv_3, t54])) h_14)
  (fun c h => R (.pan c) h))
  (fun c h => R (.pan c) h))
  (vBin Try.prog .eql 3 t8 (.int .i64 4) fun t56 =>
  dIf t56 (vLoad (some 2) t2 h_4 fun t57 =>
  vFA 1 t3 fun t58 =>
  vLoad none t58 h_4 fun t59 =>
  vFA 4 t3 fun t60 =>
  vLoad none t60 h_4 fun t61 =>
  vCall Try.prog 48 #[t57, t59, (.int .i64 0), t61] h_4 (fun t62 h_15 =>
  vExt t62 0 fun t63 =>
  vExt t62 1 fun t64 =>
  vStore 2 t4 t63 h_15 fun h_16 =>
  vLoad (some 2) t4 h_16 fun rv_4 =>
  R (.ret (.tuple #[rv_4, t64])) h_16)
  (fun c h => R (.pan c) h))
  (vBin Try.prog .eql 3 t8 (.int .i64 5) fun t66 =>
  dIf t66 (vLoad (some 2) t2 h_4 fun t67 =>
  vFA 1 t3 fun t68 =>
  vLoad none t68 h_4 fun t69 =>
  vFA 4 t3 fun t70 =>
  vLoad none t70 h_4 fun t71 =>
  vCall Try.prog 49 #[t67, t69, (.int .i64 0), t71] h_4 (fun t72 h_17 =>
  vExt t72 0 fun t73 =>
  vExt t72 1 fun t74 =>
  vStore 2 t4 t73 h_17 fun h_18 =>
  vLoad (some 2) t4 h_18 fun rv_5 =>
  R (.ret (.tuple #[rv_5, t74])) h_18)
  (fun c h => R (.pan c) h))
  (vBin Try.prog .eql 3 t8 (.int .i64 6) fun t76 =>
  dIf t76 (vLoad (some 2) t2 h_4 fun t77 =>
  vFA 1 t3 fun t78 =>
  vLoad none t78 h_4 fun t79 =>
  vFA 3 t3 fun t80 =>
  vLoad none t80 h_4 fun t81 =>
  vFA 4 t3 fun t83 =>
  vLoad none t83 h_4 fun t84 =>
  vCall Try.prog 47 #[t81] h_4 (fun t82 h_19 =>
  (vLoad (some 2) t2 h_19 fun u_6 =>
  t77 = u_6) ∧
  (vLoad none t78 h_19 fun u_7 =>
  t79 = u_7) ∧
  (vLoad none t83 h_19 fun u_8 =>
  t84 = u_8) ∧
  vCall Try.prog 48 #[t77, t79, t82, t84] h_19 (fun t85 h_20 =>
  vExt t85 0 fun t86 =>
  vExt t85 1 fun t87 =>
  vStore 2 t4 t86 h_20 fun h_21 =>
  vLoad (some 2) t4 h_21 fun rv_6 =>
  R (.ret (.tuple #[rv_6, t87])) h_21)
  (fun c h => R (.pan c) h))
  (fun c h => R (.pan c) h))
  (vBin Try.prog .eql 3 t8 (.int .i64 7) fun t89 =>
  dIf t89 (vLoad (some 2) t2 h_4 fun t90 =>
  vFA 1 t3 fun t91 =>
  vLoad none t91 h_4 fun t92 =>
  vFA 3 t3 fun t93 =>
  vLoad none t93 h_4 fun t94 =>
  vFA 4 t3 fun t96 =>
  vLoad none t96 h_4 fun t97 =>
  vCall Try.prog 47 #[t94] h_4 (fun t95 h_22 =>
  (vLoad (some 2) t2 h_22 fun u_9 =>
  t90 = u_9) ∧
  (vLoad none t91 h_22 fun u_10 =>
  t92 = u_10) ∧
  (vLoad none t96 h_22 fun u_11 =>
  t97 = u_11) ∧
  vCall Try.prog 49 #[t90, t92, t95, t97] h_22 (fun t98 h_23 =>
  vExt t98 0 fun t99 =>
  vExt t98 1 fun t100 =>
  vStore 2 t4 t99 h_23 fun h_24 =>
  vLoad (some 2) t4 h_24 fun rv_7 =>
  R (.ret (.tuple #[rv_7, t100])) h_24)
  (fun c h => R (.pan c) h))
  (fun c h => R (.pan c) h))
  (vBin Try.prog .eql 3 t8 (.int .i64 8) fun t102 =>
  dIf t102 (vLoad (some 2) t2 h_4 fun t103 =>
  vFA 1 t3 fun t104 =>
  vLoad none t104 h_4 fun t105 =>
  vFA 2 t3 fun t106 =>
  vLoad none t106 h_4 fun t107 =>
  vFA 4 t3 fun t108 =>
  vLoad none t108 h_4 fun t109 =>
  vCall Try.prog 50 #[t103, t105, t107, (.int .i64 0), t109] h_4 (fun t110 h_25 =>
  vExt t110 0 fun t111 =>
  vExt t110 1 fun t112 =>
  vStore 2 t4 t111 h_25 fun h_26 =>
  vLoad (some 2) t4 h_26 fun rv_8 =>
  R (.ret (.tuple #[rv_8, t112])) h_26)
  (fun c h => R (.pan c) h))
  (vBin Try.prog .eql 3 t8 (.int .i64 9) fun t114 =>
  dIf t114 (vLoad (some 2) t2 h_4 fun t115 =>
  vFA 1 t3 fun t116 =>
  vLoad none t116 h_4 fun t117 =>
  vFA 2 t3 fun t118 =>
  vLoad none t118 h_4 fun t119 =>
  vFA 3 t3 fun t120 =>
  vLoad none t120 h_4 fun t121 =>
  vFA 4 t3 fun t123 =>
  vLoad none t123 h_4 fun t124 =>
  vCall Try.prog 47 #[t121] h_4 (fun t122 h_27 =>
  (vLoad (some 2) t2 h_27 fun u_12 =>
  t115 = u_12) ∧
  (vLoad none t116 h_27 fun u_13 =>
  t117 = u_13) ∧
  (vLoad none t118 h_27 fun u_14 =>
  t119 = u_14) ∧
  (vLoad none t123 h_27 fun u_15 =>
  t124 = u_15) ∧
  vCall Try.prog 50 #[t115, t117, t119, t122, t124] h_27 (fun t125 h_28 =>
  vExt t125 0 fun t126 =>
  vExt t125 1 fun t127 =>
  vStore 2 t4 t126 h_28 fun h_29 =>
  vLoad (some 2) t4 h_29 fun rv_9 =>
  R (.ret (.tuple #[rv_9, t127])) h_29)
  (fun c h => R (.pan c) h))
  (fun c h => R (.pan c) h))
  (vLoad (some 2) t2 h_4 fun t128 =>
  vFA 1 t3 fun t129 =>
  vLoad none t129 h_4 fun t130 =>
  vFA 4 t3 fun t131 =>
  vLoad none t131 h_4 fun t132 =>
  vFA 5 t3 fun t133 =>
  vLoad none t133 h_4 fun t134 =>
  vCall Try.prog 51 #[t128, t130, t132, t134] h_4 (fun t135 h_30 =>
  vExt t135 0 fun t136 =>
  vExt t135 1 fun t137 =>
  vStore 2 t4 t136 h_30 fun h_31 =>
  vLoad (some 2) t4 h_31 fun rv_10 =>
  R (.ret (.tuple #[rv_10, t137])) h_31)
  (fun c h => R (.pan c) h))))))))))))
  (fun c h => R (.pan c) h)
theorem l21 (R : AEnd → PH → Prop) : LoopsOK Try.prog qf (ordOf o21) (fun c h => R (.pan c) h) noLoops c21 := noLoops_ok (by kernel_rfl)
theorem e21 (a0 a1 : Value) (h : PH) (R : AEnd → PH → Prop) : denF Try.prog qf (ordOf o21) noLoops Try.f21.results.toList c21 #[a0, a1] h R = sh21 a0 a1 h R := by kernel_rfl
theorem k21 : codeOK Try.prog qf Try.f21.ntmps (ordOf o21) c21 = true := by kernel_rfl
theorem s21 : Try.f21.body = some c21 := by kernel_rfl
theorem call21 {a0 a1 : Value} {h : PH} {R : AEnd → PH → Prop} (H : sh21 a0 a1 h R) : ACalls Try.prog 21 #[a0, a1] h R :=
  ACalls_of_den mixed Try.func21 s21 (by kernel_rfl) k21 (l21 R) (of_den (e21 a0 a1 h R) H)

end Go.Pw

/- Texts of this claim, one behind the other. -/
import Derived.Test.YtboeddfdbpjnjaaGreatM4
/- The functions of the program, told as predicate transformers: printed by wip/tools/shprint.py; each is what the model makes of the function, by the kernel's reckoning. -/
set_option linter.unusedVariables false
set_option maxRecDepth 100000
namespace Go.Pw
open Go Go.Proofs
/- slices.IndexFunc[[]gavel/api.Order,gavel/api.Order] -/
noncomputable def c142 : Code := bodyOf Tryz.f142
def o142 : List (Nat × List (Nat × List Nat)) := []
def b142_2 (Kp : List PanicEntry → PH → Prop) (x0 : Value → PH → Prop) (xr : Value → PH → Prop) (f : Value × Value × Value) (kn : (Value × Value × Value) → (Value × Value) → PH → Prop) (s : Value × Value) (h : PH) : Prop :=
  vBin Tryz.prog .lss 3 s.2 f.2.2 fun t9 =>
  dIf t9 (vIxS 6 f.1 s.2 fun t14 =>
  vLoad (some 6) t14 h fun t15 =>
  vCallV Tryz.prog f.2.1 #[t15] h (fun t16 h_1 =>
  dIf t16 (xr s.2 h_1)
  (vBin Tryz.prog .add 3 s.2 (.int .i64 1) fun t18 =>
  kn f (s.1, t18) h_1))
  Kp)
  (x0 s.1 h)

def sh142 (a0 a1 : Value) (h : PH) (R : AEnd → PH → Prop) : Prop :=
  vLenS a0 fun t7 =>
  lf (b142_2 (fun c h => R (.pan c) h) (fun v h => exq (fun ρ => ρ 4) v (fun r h_1 =>
  R (.ret (.int .i64 (-1))) h_1) h) (fun v h => exq (fun ρ => ρ 4) v (fun r h_2 =>
  R (.ret (r 4)) h_2) h)) (a0, a1, t7) ((.int .i64 0), (.int .i64 0)) h
def L142 (Kp : List PanicEntry → PH → Prop) : Loops := fun c Q ρ h =>
    sel (Nat.beq (loopId c) 2) (lf (b142_2 Kp (fun v h => exq (fun ρ => ρ 4) v (Q (.exit 0)) h) (fun v h => exq (fun ρ => ρ 4) v (Q .ret) h)) ((fun ρ => (ρ 0, ρ 1, ρ 7)) ρ) ((fun ρ => (ρ 4, ρ 8)) ρ) h)
    (False)
theorem B142_2 (Kp : List PanicEntry → PH → Prop) (KN : (Value × Value × Value) → (Value × Value) → PH → Prop) (XX : Exit → (Value) → PH → Prop) (ρ : Env) (h : PH) :
    den Tryz.prog qf (ordOf o142) Kp (L142 Kp) (loopAt c142 0) (lq KN XX (fun ρ => (ρ 0, ρ 1, ρ 7)) (fun ρ => (ρ 4, ρ 8)) (fun ρ => ρ 4)) ρ h = b142_2 Kp (XX (.exit 0)) (XX .ret) ((fun ρ => (ρ 0, ρ 1, ρ 7)) ρ) KN ((fun ρ => (ρ 4, ρ 8)) ρ) h := by kernel_rfl
theorem l142 (R : AEnd → PH → Prop) : LoopsOK Tryz.prog qf (ordOf o142) (fun c h => R (.pan c) h) (L142 (fun c h => R (.pan c) h)) c142 :=
  LoopsOK.mk 1 (by kernel_rfl) fun i hi Q ρ h H => match i, hi with
    | 0, _ => loop_gen (F := Value × Value × Value) (S := Value × Value) (X := Value) (φ := (fun ρ => (ρ 0, ρ 1, ρ 7))) (π := (fun ρ => (ρ 4, ρ 8))) (ξ := (fun ρ => ρ 4)) (B := (fun (XX : Exit → (Value) → PH → Prop) => b142_2 (fun c h => R (.pan c) h) (XX (.exit 0)) (XX .ret))) (B142_2 _) (of_den (by kernel_rfl) H)
    | n + 1, hi => absurd hi (by omega)
theorem e142 (a0 a1 : Value) (h : PH) (R : AEnd → PH → Prop) : denF Tryz.prog qf (ordOf o142) (L142 (fun c h => R (.pan c) h)) Tryz.f142.results.toList c142 #[a0, a1] h R = sh142 a0 a1 h R := by kernel_rfl
theorem k142 : codeOK Tryz.prog qf Tryz.f142.ntmps (ordOf o142) c142 = true := by kernel_rfl
theorem s142 : Tryz.f142.body = some c142 := by kernel_rfl
theorem call142 {a0 a1 : Value} {h : PH} {R : AEnd → PH → Prop} (H : sh142 a0 a1 h R) : ACalls Tryz.prog 142 #[a0, a1] h R :=
  ACalls_of_den mixed Tryz.func142 s142 (by kernel_rfl) k142 (l142 R) (of_den (e142 a0 a1 h R) H)

/- (*gavel/call.Book).at$1 -/
noncomputable def c143 : Code := bodyOf Tryz.f143
def o143 : List (Nat × List (Nat × List Nat)) := []
def sh143 (a0 a1 : Value) (h : PH) (R : AEnd → PH → Prop) : Prop :=
  vNew (Value.cells a0) 78 h fun t2 h_1 =>
  vFA 0 t2 fun t4 =>
  vLoad none t4 h_1 fun t5 =>
  vLoad none a1 h_1 fun t6 =>
  vBin Tryz.prog .eql 3 t5 t6 fun t7 =>
  R (.ret t7) h_1
theorem l143 (R : AEnd → PH → Prop) : LoopsOK Tryz.prog qf (ordOf o143) (fun c h => R (.pan c) h) noLoops c143 := noLoops_ok (by kernel_rfl)
theorem e143 (a0 a1 : Value) (h : PH) (R : AEnd → PH → Prop) : denF Tryz.prog qf (ordOf o143) noLoops Tryz.f143.results.toList c143 #[a0, a1] h R = sh143 a0 a1 h R := by kernel_rfl
theorem k143 : codeOK Tryz.prog qf Tryz.f143.ntmps (ordOf o143) c143 = true := by kernel_rfl
theorem s143 : Tryz.f143.body = some c143 := by kernel_rfl
theorem call143 {a0 a1 : Value} {h : PH} {R : AEnd → PH → Prop} (H : sh143 a0 a1 h R) : ACalls Tryz.prog 143 #[a0, a1] h R :=
  ACalls_of_den mixed Tryz.func143 s143 (by kernel_rfl) k143 (l143 R) (of_den (e143 a0 a1 h R) H)

/- (*gavel/clock.Auction).Demand -/
noncomputable def c144 : Code := bodyOf Tryz.f144
def o144 : List (Nat × List (Nat × List Nat)) := []
def b144_4 (Kp : List PanicEntry → PH → Prop) (x0 : Value → PH → Prop) (f : Value × Value) (kn : (Value × Value) → (Value × Value) → PH → Prop) (s : Value × Value) (h : PH) : Prop :=
  vBin Tryz.prog .lss 3 s.2 f.2 fun t14 =>
  dIf t14 (vIxS 2 f.1 s.2 fun t15 =>
  vLoad (some 2) t15 h fun t16 =>
  vNew #[.int .i64 0, .int .i64 0] 157 h fun t5 h_1 =>
  vStore 2 t5 t16 h_1 fun h_2 =>
  vFA 1 t5 fun t18 =>
  vLoad none t18 h_2 fun t19 =>
  vBin Tryz.prog .add 3 s.1 t19 fun t20 =>
  vBin Tryz.prog .add 3 s.2 (.int .i64 1) fun t21 =>
  kn f (t20, t21) h_2)
  (x0 s.1 h)

def sh144 (a0 : Value) (h : PH) (R : AEnd → PH → Prop) : Prop :=
  vBin Tryz.prog .neq 96 a0 (.pointer none) fun t7 =>
  dIf t7 (vNil a0 fun t9 =>
  vFA 5 t9 fun t10 =>
  vLoad none t10 h fun t11 =>
  vLenS t11 fun t12 =>
  lf (b144_4 (fun c h => R (.pan c) h) (fun v h => exq (fun ρ => ρ 3) v (fun r h_1 =>
  R (.ret (r 3)) h_1) h)) (t11, t12) ((.int .i64 0), (.int .i64 0)) h)
  (R (.ret (.int .i64 0)) h)
def L144 (Kp : List PanicEntry → PH → Prop) : Loops := fun c Q ρ h =>
    sel (Nat.beq (loopId c) 4) (lf (b144_4 Kp (fun v h => exq (fun ρ => ρ 3) v (Q (.exit 0)) h)) ((fun ρ => (ρ 11, ρ 12)) ρ) ((fun ρ => (ρ 3, ρ 13)) ρ) h)
    (False)
theorem B144_4 (Kp : List PanicEntry → PH → Prop) (KN : (Value × Value) → (Value × Value) → PH → Prop) (XX : Exit → (Value) → PH → Prop) (ρ : Env) (h : PH) :
    den Tryz.prog qf (ordOf o144) Kp (L144 Kp) (loopAt c144 0) (lq KN XX (fun ρ => (ρ 11, ρ 12)) (fun ρ => (ρ 3, ρ 13)) (fun ρ => ρ 3)) ρ h = b144_4 Kp (XX (.exit 0)) ((fun ρ => (ρ 11, ρ 12)) ρ) KN ((fun ρ => (ρ 3, ρ 13)) ρ) h := by kernel_rfl
theorem l144 (R : AEnd → PH → Prop) : LoopsOK Tryz.prog qf (ordOf o144) (fun c h => R (.pan c) h) (L144 (fun c h => R (.pan c) h)) c144 :=
  LoopsOK.mk 1 (by kernel_rfl) fun i hi Q ρ h H => match i, hi with
    | 0, _ => loop_gen (F := Value × Value) (S := Value × Value) (X := Value) (φ := (fun ρ => (ρ 11, ρ 12))) (π := (fun ρ => (ρ 3, ρ 13))) (ξ := (fun ρ => ρ 3)) (B := (fun (XX : Exit → (Value) → PH → Prop) => b144_4 (fun c h => R (.pan c) h) (XX (.exit 0)))) (B144_4 _) (of_den (by kernel_rfl) H)
    | n + 1, hi => absurd hi (by omega)
theorem e144 (a0 : Value) (h : PH) (R : AEnd → PH → Prop) : denF Tryz.prog qf (ordOf o144) (L144 (fun c h => R (.pan c) h)) Tryz.f144.results.toList c144 #[a0] h R = sh144 a0 h R := by kernel_rfl
theorem k144 : codeOK Tryz.prog qf Tryz.f144.ntmps (ordOf o144) c144 = true := by kernel_rfl
theorem s144 : Tryz.f144.body = some c144 := by kernel_rfl
theorem call144 {a0 : Value} {h : PH} {R : AEnd → PH → Prop} (H : sh144 a0 h R) : ACalls Tryz.prog 144 #[a0] h R :=
  ACalls_of_den mixed Tryz.func144 s144 (by kernel_rfl) k144 (l144 R) (of_den (e144 a0 h R) H)

/- (*gavel/call.Book).Clear -/
noncomputable def c145 : Code := bodyOf Tryz.f145
def o145 : List (Nat × List (Nat × List Nat)) := [(7, [(0, []), (1, []), (2, []), (3, []), (4, []), (5, []), (6, []), (11, []), (12, []), (7, [3, 12]), (8, []), (9, []), (10, []), (13, []), (14, []), (15, []), (16, [])])]
def b145_5 (Kp : List PanicEntry → PH → Prop) (x0 : (Value × Value × Value × Value) → PH → Prop) (f : Value × Value × Value × Value × Value × Value) (kn : (Value × Value × Value × Value × Value × Value) → Value → PH → Prop) (s : Value) (h : PH) : Prop :=
  vBin Tryz.prog .lss 3 s f.2.2.2.2.2 fun t27 =>
  dIf t27 (vIxS 3 f.2.2.2.2.1 s fun t28 =>
  vLoad (some 3) t28 h fun t29 =>
  vNew #[.int .i64 0, .int .i64 0, .int .i64 0] 218 h fun t6 h_1 =>
  vStore 3 t6 t29 h_1 fun h_2 =>
  vNil f.1 fun t31 =>
  vFA 0 t31 fun t32 =>
  vLoad none t32 h_2 fun t33 =>
  vFA 0 t6 fun t35 =>
  vLoad none t35 h_2 fun t36 =>
  vFA 2 t6 fun t41 =>
  vLoad none t41 h_2 fun t42 =>
  vCall Tryz.prog 94 #[f.1, t36] h_2 (fun t37 h_3 =>
  (vLoad none t32 h_3 fun u =>
  t33 = u) ∧
  (vLoad none t41 h_3 fun u_1 =>
  t42 = u_1) ∧
  vIxS 6 t33 t37 fun t38 =>
  vFA 3 t38 fun t39 =>
  vLoad none t39 h_3 fun t40 =>
  vBin Tryz.prog .sub 3 t40 t42 fun t43 =>
  vIxS 6 t33 t37 fun t44 =>
  vFA 3 t44 fun t45 =>
  vStore 1 t45 t43 h_3 fun h_4 =>
  vBin Tryz.prog .add 3 s (.int .i64 1) fun t46 =>
  kn f t46 h_4)
  Kp)
  (x0 (f.1, f.2.1, f.2.2.1, f.2.2.2.1) h)

def sh145 (a0 : Value) (h : PH) (R : AEnd → PH → Prop) : Prop :=
  vBin Tryz.prog .eql 93 a0 (.pointer none) fun t8 =>
  dIf t8 (R (.ret (.tuple #[(.int .i64 0), (.int .i64 0), (.slice none 0 0)])) h)
  (vNil a0 fun t11 =>
  vFA 0 t11 fun t12 =>
  vLoad none t12 h fun t13 =>
  vCall Tryz.prog 170 #[t13] h (fun t14 h_1 =>
  vExt t14 0 fun t15 =>
  vExt t14 1 fun t16 =>
  vNil a0 fun t18 =>
  vFA 0 t18 fun t19 =>
  vLoad none t19 h_1 fun t20 =>
  vCall Tryz.prog 171 #[t20, t15, t16] h_1 (fun t23 h_2 =>
  vLenS t23 fun t25 =>
  lf (b145_5 (fun c h => R (.pan c) h) (fun v h => exq (fun ρ => (ρ 0, ρ 2, ρ 3, ρ 4)) v (fun r h_3 =>
  vNil (r 0) fun t49 =>
  vFA 0 t49 fun t50 =>
  vLoad none t50 h_3 fun t51 =>
  vCall Tryz.prog 172 #[t51, (.func (.func 173) #[] #[])] h_3 (fun t52 h_4 =>
  vNil (r 0) fun t53 =>
  vFA 0 t53 fun t54 =>
  vStore 1 t54 t52 h_4 fun h_5 =>
  R (.ret (.tuple #[(r 2), (r 3), (r 4)])) h_5)
  (fun c h => R (.pan c) h)) h)) (a0, t15, t16, t23, t23, t25) (.int .i64 0) h_2)
  (fun c h => R (.pan c) h))
  (fun c h => R (.pan c) h))
def L145 (Kp : List PanicEntry → PH → Prop) : Loops := fun c Q ρ h =>
    sel (Nat.beq (loopId c) 5) (lf (b145_5 Kp (fun v h => exq (fun ρ => (ρ 0, ρ 2, ρ 3, ρ 4)) v (Q (.exit 0)) h)) ((fun ρ => (ρ 0, ρ 2, ρ 3, ρ 4, ρ 24, ρ 25)) ρ) ((fun ρ => ρ 26) ρ) h)
    (False)
theorem B145_5 (Kp : List PanicEntry → PH → Prop) (KN : (Value × Value × Value × Value × Value × Value) → (Value) → PH → Prop) (XX : Exit → (Value × Value × Value × Value) → PH → Prop) (ρ : Env) (h : PH) :
    den Tryz.prog qf (ordOf o145) Kp (L145 Kp) (loopAt c145 0) (lq KN XX (fun ρ => (ρ 0, ρ 2, ρ 3, ρ 4, ρ 24, ρ 25)) (fun ρ => ρ 26) (fun ρ => (ρ 0, ρ 2, ρ 3, ρ 4))) ρ h = b145_5 Kp (XX (.exit 0)) ((fun ρ => (ρ 0, ρ 2, ρ 3, ρ 4, ρ 24, ρ 25)) ρ) KN ((fun ρ => ρ 26) ρ) h := by kernel_rfl
theorem l145 (R : AEnd → PH → Prop) : LoopsOK Tryz.prog qf (ordOf o145) (fun c h => R (.pan c) h) (L145 (fun c h => R (.pan c) h)) c145 :=
  LoopsOK.mk 1 (by kernel_rfl) fun i hi Q ρ h H => match i, hi with
    | 0, _ => loop_gen (F := Value × Value × Value × Value × Value × Value) (S := Value) (X := Value × Value × Value × Value) (φ := (fun ρ => (ρ 0, ρ 2, ρ 3, ρ 4, ρ 24, ρ 25))) (π := (fun ρ => ρ 26)) (ξ := (fun ρ => (ρ 0, ρ 2, ρ 3, ρ 4))) (B := (fun (XX : Exit → (Value × Value × Value × Value) → PH → Prop) => b145_5 (fun c h => R (.pan c) h) (XX (.exit 0)))) (B145_5 _) (of_den (by kernel_rfl) H)
    | n + 1, hi => absurd hi (by omega)
theorem e145 (a0 : Value) (h : PH) (R : AEnd → PH → Prop) : denF Tryz.prog qf (ordOf o145) (L145 (fun c h => R (.pan c) h)) Tryz.f145.results.toList c145 #[a0] h R = sh145 a0 h R := by kernel_rfl
theorem k145 : codeOK Tryz.prog qf Tryz.f145.ntmps (ordOf o145) c145 = true := by kernel_rfl
theorem s145 : Tryz.f145.body = some c145 := by kernel_rfl
theorem call145 {a0 : Value} {h : PH} {R : AEnd → PH → Prop} (H : sh145 a0 h R) : ACalls Tryz.prog 145 #[a0] h R :=
  ACalls_of_den mixed Tryz.func145 s145 (by kernel_rfl) k145 (l145 R) (of_den (e145 a0 h R) H)

/- (*gavel/house.House).trade -/
noncomputable def c146 : Code := bodyOf Tryz.f146
def o146 : List (Nat × List (Nat × List Nat)) := []
def sh146 (a0 a1 a2 a3 a4 a5 : Value) (h : PH) (R : AEnd → PH → Prop) : Prop :=
  vBin Tryz.prog .gtr 3 a5 (.int .i64 0) fun t13 =>
  dIf t13 (vNil a0 fun t15 =>
  vFA 0 t15 fun t16 =>
  vLoad none t16 h fun t17 =>
  vCall Tryz.prog 174 #[t17, a1, a2, a3, a5] h (fun t22 h_1 =>
  vBin Tryz.prog .gtr 3 a4 (.int .i64 0) fun t24 =>
  dIf t24 (vNil a0 fun t26 =>
  vFA 0 t26 fun t27 =>
  vLoad none t27 h_1 fun t28 =>
  vBin Tryz.prog .mul 3 a4 a5 fun t33 =>
  vCall Tryz.prog 175 #[t28, a2, a1, t33] h_1 (fun t34 h_2 =>
  R (.ret (.tuple #[])) h_2)
  (fun c h => R (.pan c) h))
  (R (.ret (.tuple #[])) h_1))
  (fun c h => R (.pan c) h))
  (R (.ret (.tuple #[])) h)
theorem l146 (R : AEnd → PH → Prop) : LoopsOK Tryz.prog qf (ordOf o146) (fun c h => R (.pan c) h) noLoops c146 := noLoops_ok (by kernel_rfl)
theorem e146 (a0 a1 a2 a3 a4 a5 : Value) (h : PH) (R : AEnd → PH → Prop) : denF Tryz.prog qf (ordOf o146) noLoops Tryz.f146.results.toList c146 #[a0, a1, a2, a3, a4, a5] h R = sh146 a0 a1 a2 a3 a4 a5 h R := by kernel_rfl
theorem k146 : codeOK Tryz.prog qf Tryz.f146.ntmps (ordOf o146) c146 = true := by kernel_rfl
theorem s146 : Tryz.f146.body = some c146 := by kernel_rfl
theorem call146 {a0 a1 a2 a3 a4 a5 : Value} {h : PH} {R : AEnd → PH → Prop} (H : sh146 a0 a1 a2 a3 a4 a5 h R) : ACalls Tryz.prog 146 #[a0, a1, a2, a3, a4, a5] h R :=
  ACalls_of_den mixed Tryz.func146 s146 (by kernel_rfl) k146 (l146 R) (of_den (e146 a0 a1 a2 a3 a4 a5 h R) H)

/- (*gavel/clock.Auction).Next -/
noncomputable def c147 : Code := bodyOf Tryz.f147
def o147 : List (Nat × List (Nat × List Nat)) := [(5, [(0, []), (1, []), (2, []), (3, []), (4, []), (5, []), (6, []), (7, []), (8, []), (9, []), (10, []), (11, []), (12, []), (13, []), (14, []), (15, [])]), (11, [(0, []), (2, []), (3, []), (4, []), (5, []), (1, [5]), (6, []), (7, [])]), (13, [(0, []), (2, []), (3, []), (4, []), (5, []), (6, []), (1, [5]), (7, []), (8, [])])]
def b147_3 (Kp : List PanicEntry → PH → Prop) (x1 : Value → PH → Prop) (f : Value × Value) (kn : (Value × Value) → Value → PH → Prop) (s : Value) (h : PH) : Prop :=
  vBin Tryz.prog .lss 3 s f.2 fun t18 =>
  dIf t18 (vNil f.1 fun t21 =>
  vFA 5 t21 fun t22 =>
  vLoad none t22 h fun t23 =>
  vNil f.1 fun t26 =>
  vFA 5 t26 fun t27 =>
  vLoad none t27 h fun t28 =>
  vIxS 2 t28 s fun t30 =>
  vFA 1 t30 fun t31 =>
  vLoad none t31 h fun t32 =>
  vIxS 2 t23 s fun t33 =>
  vFA 0 t33 fun t34 =>
  vStore 1 t34 t32 h fun h_1 =>
  vBin Tryz.prog .add 3 s (.int .i64 1) fun t35 =>
  kn f t35 h_1)
  (x1 f.1 h)

def sh147 (a0 : Value) (h : PH) (R : AEnd → PH → Prop) : Prop :=
  vBin Tryz.prog .eql 96 a0 (.pointer none) fun t38 =>
  dIf t38 (R (.ret (.tuple #[(.bool false), (.int .i64 1)])) h)
  (vNil a0 fun t41 =>
  vFA 4 t41 fun t42 =>
  vLoad none t42 h fun t43 =>
  vBin Tryz.prog .neq 3 t43 (.int .i64 0) fun t44 =>
  dIf t44 (R (.ret (.tuple #[(.bool false), (.int .i64 70)])) h)
  (vNil a0 fun t49 =>
  vFA 0 t49 fun t50 =>
  vLoad none t50 h fun t51 =>
  vCall Tryz.prog 144 #[a0] h (fun t47 h_1 =>
  (vLoad none t50 h_1 fun u =>
  t51 = u) ∧
  vBin Tryz.prog .leq 3 t47 t51 fun t52 =>
  dIf t52 (vNil a0 fun t54 =>
  vFA 4 t54 fun t55 =>
  vStore 1 t55 (.int .i64 1) h_1 fun h_2 =>
  vNil a0 fun t69 =>
  vFA 4 t69 fun t70 =>
  vLoad none t70 h_2 fun t71 =>
  vBin Tryz.prog .neq 3 t71 (.int .i64 0) fun t72 =>
  R (.ret (.tuple #[t72, (.int .i64 0)])) h_2)
  (vNil a0 fun t60 =>
  vFA 2 t60 fun t61 =>
  vLoad none t61 h_1 fun t62 =>
  vBin Tryz.prog .sub 3 (.int .i64 1099511627776) t62 fun t63 =>
  vCall Tryz.prog 109 #[a0] h_1 (fun t58 h_3 =>
  (vLoad none t61 h_3 fun u_1 =>
  t62 = u_1) ∧
  vBin Tryz.prog .gtr 3 t58 t63 fun t64 =>
  dIf t64 (vNil a0 fun t66 =>
  vFA 4 t66 fun t67 =>
  vStore 1 t67 (.int .i64 2) h_3 fun h_4 =>
  vNil a0 fun t69_1 =>
  vFA 4 t69_1 fun t70_1 =>
  vLoad none t70_1 h_4 fun t71_1 =>
  vBin Tryz.prog .neq 3 t71_1 (.int .i64 0) fun t72_1 =>
  R (.ret (.tuple #[t72_1, (.int .i64 0)])) h_4)
  (vNil a0 fun t6 =>
  vFA 3 t6 fun t7 =>
  vLoad none t7 h_3 fun t8 =>
  vBin Tryz.prog .add 3 t8 (.int .i64 1) fun t9 =>
  vNil a0 fun t10 =>
  vFA 3 t10 fun t11 =>
  vStore 1 t11 t9 h_3 fun h_5 =>
  vNil a0 fun t13 =>
  vFA 5 t13 fun t14 =>
  vLoad none t14 h_5 fun t15 =>
  vLenS t15 fun t16 =>
  lf (b147_3 (fun c h => R (.pan c) h) (fun v h => exq (fun ρ => ρ 0) v (fun r h_6 =>
  vNil (r 0) fun t69_2 =>
  vFA 4 t69_2 fun t70_2 =>
  vLoad none t70_2 h_6 fun t71_2 =>
  vBin Tryz.prog .neq 3 t71_2 (.int .i64 0) fun t72_2 =>
  R (.ret (.tuple #[t72_2, (.int .i64 0)])) h_6) h)) (a0, t16) (.int .i64 0) h_5))
  (fun c h => R (.pan c) h)))
  (fun c h => R (.pan c) h)))
def L147 (Kp : List PanicEntry → PH → Prop) : Loops := fun c Q ρ h =>
    sel (Nat.beq (loopId c) 3) (lf (b147_3 Kp (fun v h => exq (fun ρ => ρ 0) v (Q (.exit 1)) h)) ((fun ρ => (ρ 0, ρ 16)) ρ) ((fun ρ => ρ 17) ρ) h)
    (False)
theorem B147_3 (Kp : List PanicEntry → PH → Prop) (KN : (Value × Value) → (Value) → PH → Prop) (XX : Exit → (Value) → PH → Prop) (ρ : Env) (h : PH) :
    den Tryz.prog qf (ordOf o147) Kp (L147 Kp) (loopAt c147 0) (lq KN XX (fun ρ => (ρ 0, ρ 16)) (fun ρ => ρ 17) (fun ρ => ρ 0)) ρ h = b147_3 Kp (XX (.exit 1)) ((fun ρ => (ρ 0, ρ 16)) ρ) KN ((fun ρ => ρ 17) ρ) h := by kernel_rfl
theorem l147 (R : AEnd → PH → Prop) : LoopsOK Tryz.prog qf (ordOf o147) (fun c h => R (.pan c) h) (L147 (fun c h => R (.pan c) h)) c147 :=
  LoopsOK.mk 1 (by kernel_rfl) fun i hi Q ρ h H => match i, hi with
    | 0, _ => loop_gen (F := Value × Value) (S := Value) (X := Value) (φ := (fun ρ => (ρ 0, ρ 16))) (π := (fun ρ => ρ 17)) (ξ := (fun ρ => ρ 0)) (B := (fun (XX : Exit → (Value) → PH → Prop) => b147_3 (fun c h => R (.pan c) h) (XX (.exit 1)))) (B147_3 _) (of_den (by kernel_rfl) H)
    | n + 1, hi => absurd hi (by omega)
theorem e147 (a0 : Value) (h : PH) (R : AEnd → PH → Prop) : denF Tryz.prog qf (ordOf o147) (L147 (fun c h => R (.pan c) h)) Tryz.f147.results.toList c147 #[a0] h R = sh147 a0 h R := by kernel_rfl
theorem k147 : codeOK Tryz.prog qf Tryz.f147.ntmps (ordOf o147) c147 = true := by kernel_rfl
theorem s147 : Tryz.f147.body = some c147 := by kernel_rfl
theorem call147 {a0 : Value} {h : PH} {R : AEnd → PH → Prop} (H : sh147 a0 h R) : ACalls Tryz.prog 147 #[a0] h R :=
  ACalls_of_den mixed Tryz.func147 s147 (by kernel_rfl) k147 (l147 R) (of_den (e147 a0 h R) H)

/- (*gavel/clock.Auction).Sale -/
noncomputable def c148 : Code := bodyOf Tryz.f148
def o148 : List (Nat × List (Nat × List Nat)) := [(8, [(0, []), (1, []), (2, []), (3, []), (4, []), (5, [3]), (6, []), (7, [])]), (26, [(0, []), (1, []), (2, []), (3, []), (4, []), (5, []), (6, []), (7, []), (8, []), (9, []), (10, [])]), (28, [(0, []), (2, []), (3, []), (4, []), (5, []), (7, []), (1, [5]), (6, []), (8, []), (9, []), (10, [])])]
def b148_11 (Kp : List PanicEntry → PH → Prop) (x0 : (Value × Value) → PH → Prop) (f : Value × Value × Value × Value) (kn : (Value × Value × Value × Value) → Value → PH → Prop) (s : Value) (h : PH) : Prop :=
  vBin Tryz.prog .lss 3 s f.2.2.2 fun t57 =>
  dIf t57 (vIxS 2 f.2.2.1 s fun t59 =>
  vLoad (some 2) t59 h fun t60 =>
  vNew #[.int .i64 0, .int .i64 0] 157 h fun t8 h_1 =>
  vStore 2 t8 t60 h_1 fun h_2 =>
  vFA 1 t8 fun t63 =>
  vLoad none t63 h_2 fun t64 =>
  vIxS 1 f.2.1 s fun t65 =>
  vStore 1 t65 t64 h_2 fun h_3 =>
  vBin Tryz.prog .add 3 s (.int .i64 1) fun t66 =>
  kn f t66 h_3)
  (x0 (f.1, f.2.1) h)

def b148_18 (Kp : List PanicEntry → PH → Prop) (x2 : (Value × Value × Value × Value) → PH → Prop) (f : Value × Value × Value × Value × Value × Value) (kn : (Value × Value × Value × Value × Value × Value) → Value → PH → Prop) (s : Value) (h : PH) : Prop :=
  vBin Tryz.prog .lss 3 s f.2.2.2.2.2 fun t82 =>
  dIf t82 (vIxS 2 f.2.2.2.2.1 s fun t84 =>
  vLoad (some 2) t84 h fun t85 =>
  vNew #[.int .i64 0, .int .i64 0] 157 h fun t11 h_1 =>
  vStore 2 t11 t85 h_1 fun h_2 =>
  vFA 0 t11 fun t88 =>
  vLoad none t88 h_2 fun t89 =>
  vFA 1 t11 fun t90 =>
  vLoad none t90 h_2 fun t91 =>
  vBin Tryz.prog .sub 3 t89 t91 fun t92 =>
  vIxS 1 f.2.2.2.1 s fun t93 =>
  vStore 1 t93 t92 h_2 fun h_3 =>
  vBin Tryz.prog .add 3 s (.int .i64 1) fun t94 =>
  kn f t94 h_3)
  (x2 (f.1, f.2.1, f.2.2.1, f.2.2.2.1) h)

def b148_24 (Kp : List PanicEntry → PH → Prop) (x4 : (Value × Value) → PH → Prop) (f : Value × Value × Value × Value × Value) (kn : (Value × Value × Value × Value × Value) → Value → PH → Prop) (s : Value) (h : PH) : Prop :=
  vBin Tryz.prog .lss 3 s f.2.2.2.2 fun t107 =>
  dIf t107 (vIxS 2 f.2.2.2.1 s fun t109 =>
  vLoad (some 2) t109 h fun t110 =>
  vNew #[.int .i64 0, .int .i64 0] 157 h fun t15 h_1 =>
  vStore 2 t15 t110 h_1 fun h_2 =>
  vFA 1 t15 fun t113 =>
  vLoad none t113 h_2 fun t114 =>
  vIxS 1 f.2.2.1 s fun t117 =>
  vLoad none t117 h_2 fun t118 =>
  vBin Tryz.prog .add 3 t114 t118 fun t119 =>
  vIxS 1 f.2.1 s fun t120 =>
  vStore 1 t120 t119 h_2 fun h_3 =>
  vBin Tryz.prog .add 3 s (.int .i64 1) fun t121 =>
  kn f t121 h_3)
  (x4 (f.1, f.2.1) h)

def sh148 (a0 : Value) (h : PH) (R : AEnd → PH → Prop) : Prop :=
  vBin Tryz.prog .eql 96 a0 (.pointer none) fun t17 =>
  dIf t17 (R (.ret (.tuple #[(.int .i64 0), (.slice none 0 0), (.int .i64 1)])) h)
  (vNil a0 fun t19 =>
  vFA 4 t19 fun t20 =>
  vLoad none t20 h fun t21 =>
  vBin Tryz.prog .eql 3 t21 (.int .i64 0) fun t22 =>
  dIf t22 (R (.ret (.tuple #[(.int .i64 0), (.slice none 0 0), (.int .i64 3)])) h)
  (vNil a0 fun t24 =>
  vFA 5 t24 fun t25 =>
  vLoad none t25 h fun t26 =>
  vLenS t26 fun t27 =>
  vMakeS 3 1 8 #[.int .i64 0] t27 t27 h fun t28 h_1 =>
  vNil a0 fun t30 =>
  vFA 4 t30 fun t31 =>
  vLoad none t31 h_1 fun t32 =>
  vBin Tryz.prog .eql 3 t32 (.int .i64 2) fun t33 =>
  dIf t33 (R (.ret (.tuple #[(.int .i64 0), t28, (.int .i64 0)])) h_1)
  (vNil a0 fun t36 =>
  vFA 0 t36 fun t37 =>
  vLoad none t37 h_1 fun t38 =>
  vCall Tryz.prog 144 #[a0] h_1 (fun t40 h_2 =>
  (vLoad none t37 h_2 fun u =>
  t38 = u) ∧
  vBin Tryz.prog .sub 3 t38 t40 fun t41 =>
  vNil a0 fun t43 =>
  vFA 3 t43 fun t44 =>
  vLoad none t44 h_2 fun t45 =>
  vBin Tryz.prog .eql 3 t45 (.int .i64 1) fun t46 =>
  gq (boolOf t46) false (fun K =>
  K t41 h_2)
  (fun t48 h_3 =>
  gq (boolOf t46) false (fun K_1 =>
  vBin Tryz.prog .eql 3 t48 (.int .i64 0) fun u_1 =>
  K_1 u_1 h_3)
  (fun t49 h_4 =>
  vPick t46 (.bool true) t49 fun t50 =>
  dIf t50 (vNil a0 fun t52 =>
  vFA 5 t52 fun t53 =>
  vLoad none t53 h_4 fun t54 =>
  vLenS t54 fun t55 =>
  lf (b148_11 (fun c h => R (.pan c) h) (fun v h => exq (fun ρ => (ρ 0, ρ 5)) v (fun r h_5 =>
  vCall Tryz.prog 109 #[(r 0)] h_5 (fun t68 h_6 =>
  R (.ret (.tuple #[t68, (r 5), (.int .i64 0)])) h_6)
  (fun c h => R (.pan c) h)) h)) (a0, t28, t54, t55) (.int .i64 0) h_4)
  (vNil a0 fun t71 =>
  vFA 5 t71 fun t72 =>
  vLoad none t72 h_4 fun t73 =>
  vLenS t73 fun t74 =>
  vMakeS 3 1 8 #[.int .i64 0] t74 t74 h_4 fun t75 h_7 =>
  vNil a0 fun t77 =>
  vFA 5 t77 fun t78 =>
  vLoad none t78 h_7 fun t79 =>
  vLenS t79 fun t80 =>
  lf (b148_18 (fun c h => R (.pan c) h) (fun v h => exq (fun ρ => (ρ 0, ρ 5, ρ 6, ρ 9)) v (fun r_1 h_8 =>
  vCall Tryz.prog 176 #[(r_1 6), (r_1 9)] h_8 (fun t98 h_9 =>
  vExt t98 0 fun t99 =>
  vExt t98 1 fun t100 =>
  vNil (r_1 0) fun t102 =>
  vFA 5 t102 fun t103 =>
  vLoad none t103 h_9 fun t104 =>
  vLenS t104 fun t105 =>
  lf (b148_24 (fun c h => R (.pan c) h) (fun v h => exq (fun ρ => (ρ 0, ρ 5)) v (fun r_2 h_10 =>
  vNil (r_2 0) fun t125 =>
  vFA 2 t125 fun t126 =>
  vLoad none t126 h_10 fun t127 =>
  vCall Tryz.prog 109 #[(r_2 0)] h_10 (fun t123 h_11 =>
  (vLoad none t126 h_11 fun u_2 =>
  t127 = u_2) ∧
  vBin Tryz.prog .sub 3 t123 t127 fun t128 =>
  R (.ret (.tuple #[t128, (r_2 5), (.int .i64 0)])) h_11)
  (fun c h => R (.pan c) h)) h)) ((r_1 0), (r_1 5), t99, t104, t105) (.int .i64 0) h_9)
  (fun c h => R (.pan c) h)) h)) (a0, t28, t41, t75, t79, t80) (.int .i64 0) h_7)) h_3) h_2)
  (fun c h => R (.pan c) h))))
def L148 (Kp : List PanicEntry → PH → Prop) : Loops := fun c Q ρ h =>
    sel (Nat.beq (loopId c) 11) (lf (b148_11 Kp (fun v h => exq (fun ρ => (ρ 0, ρ 5)) v (Q (.exit 0)) h)) ((fun ρ => (ρ 0, ρ 5, ρ 54, ρ 55)) ρ) ((fun ρ => ρ 56) ρ) h)
    (sel (Nat.beq (loopId c) 18) (lf (b148_18 Kp (fun v h => exq (fun ρ => (ρ 0, ρ 5, ρ 6, ρ 9)) v (Q (.exit 2)) h)) ((fun ρ => (ρ 0, ρ 5, ρ 6, ρ 9, ρ 79, ρ 80)) ρ) ((fun ρ => ρ 81) ρ) h)
    (sel (Nat.beq (loopId c) 24) (lf (b148_24 Kp (fun v h => exq (fun ρ => (ρ 0, ρ 5)) v (Q (.exit 4)) h)) ((fun ρ => (ρ 0, ρ 5, ρ 12, ρ 104, ρ 105)) ρ) ((fun ρ => ρ 106) ρ) h)
    (False)))
theorem B148_11 (Kp : List PanicEntry → PH → Prop) (KN : (Value × Value × Value × Value) → (Value) → PH → Prop) (XX : Exit → (Value × Value) → PH → Prop) (ρ : Env) (h : PH) :
    den Tryz.prog qf (ordOf o148) Kp (L148 Kp) (loopAt c148 0) (lq KN XX (fun ρ => (ρ 0, ρ 5, ρ 54, ρ 55)) (fun ρ => ρ 56) (fun ρ => (ρ 0, ρ 5))) ρ h = b148_11 Kp (XX (.exit 0)) ((fun ρ => (ρ 0, ρ 5, ρ 54, ρ 55)) ρ) KN ((fun ρ => ρ 56) ρ) h := by kernel_rfl
theorem B148_18 (Kp : List PanicEntry → PH → Prop) (KN : (Value × Value × Value × Value × Value × Value) → (Value) → PH → Prop) (XX : Exit → (Value × Value × Value × Value) → PH → Prop) (ρ : Env) (h : PH) :
    den Tryz.prog qf (ordOf o148) Kp (L148 Kp) (loopAt c148 1) (lq KN XX (fun ρ => (ρ 0, ρ 5, ρ 6, ρ 9, ρ 79, ρ 80)) (fun ρ => ρ 81) (fun ρ => (ρ 0, ρ 5, ρ 6, ρ 9))) ρ h = b148_18 Kp (XX (.exit 2)) ((fun ρ => (ρ 0, ρ 5, ρ 6, ρ 9, ρ 79, ρ 80)) ρ) KN ((fun ρ => ρ 81) ρ) h := by kernel_rfl
theorem B148_24 (Kp : List PanicEntry → PH → Prop) (KN : (Value × Value × Value × Value × Value) → (Value) → PH → Prop) (XX : Exit → (Value × Value) → PH → Prop) (ρ : Env) (h : PH) :
    den Tryz.prog qf (ordOf o148) Kp (L148 Kp) (loopAt c148 2) (lq KN XX (fun ρ => (ρ 0, ρ 5, ρ 12, ρ 104, ρ 105)) (fun ρ => ρ 106) (fun ρ => (ρ 0, ρ 5))) ρ h = b148_24 Kp (XX (.exit 4)) ((fun ρ => (ρ 0, ρ 5, ρ 12, ρ 104, ρ 105)) ρ) KN ((fun ρ => ρ 106) ρ) h := by kernel_rfl
theorem l148 (R : AEnd → PH → Prop) : LoopsOK Tryz.prog qf (ordOf o148) (fun c h => R (.pan c) h) (L148 (fun c h => R (.pan c) h)) c148 :=
  LoopsOK.mk 3 (by kernel_rfl) fun i hi Q ρ h H => match i, hi with
    | 0, _ => loop_gen (F := Value × Value × Value × Value) (S := Value) (X := Value × Value) (φ := (fun ρ => (ρ 0, ρ 5, ρ 54, ρ 55))) (π := (fun ρ => ρ 56)) (ξ := (fun ρ => (ρ 0, ρ 5))) (B := (fun (XX : Exit → (Value × Value) → PH → Prop) => b148_11 (fun c h => R (.pan c) h) (XX (.exit 0)))) (B148_11 _) (of_den (by kernel_rfl) H)
    | 1, _ => loop_gen (F := Value × Value × Value × Value × Value × Value) (S := Value) (X := Value × Value × Value × Value) (φ := (fun ρ => (ρ 0, ρ 5, ρ 6, ρ 9, ρ 79, ρ 80))) (π := (fun ρ => ρ 81)) (ξ := (fun ρ => (ρ 0, ρ 5, ρ 6, ρ 9))) (B := (fun (XX : Exit → (Value × Value × Value × Value) → PH → Prop) => b148_18 (fun c h => R (.pan c) h) (XX (.exit 2)))) (B148_18 _) (of_den (by kernel_rfl) H)
    | 2, _ => loop_gen (F := Value × Value × Value × Value × Value) (S := Value) (X := Value × Value) (φ := (fun ρ => (ρ 0, ρ 5, ρ 12, ρ 104, ρ 105))) (π := (fun ρ => ρ 106)) (ξ := (fun ρ => (ρ 0, ρ 5))) (B := (fun (XX : Exit → (Value × Value) → PH → Prop) => b148_24 (fun c h => R (.pan c) h) (XX (.exit 4)))) (B148_24 _) (of_den (by kernel_rfl) H)
    | n + 3, hi => absurd hi (by omega)
theorem e148 (a0 : Value) (h : PH) (R : AEnd → PH → Prop) : denF Tryz.prog qf (ordOf o148) (L148 (fun c h => R (.pan c) h)) Tryz.f148.results.toList c148 #[a0] h R = sh148 a0 h R := by kernel_rfl
theorem k148 : codeOK Tryz.prog qf Tryz.f148.ntmps (ordOf o148) c148 = true := by kernel_rfl
theorem s148 : Tryz.f148.body = some c148 := by kernel_rfl
theorem call148 {a0 : Value} {h : PH} {R : AEnd → PH → Prop} (H : sh148 a0 h R) : ACalls Tryz.prog 148 #[a0] h R :=
  ACalls_of_den mixed Tryz.func148 s148 (by kernel_rfl) k148 (l148 R) (of_den (e148 a0 h R) H)

/- gavel/ledger.amount -/
noncomputable def c149 : Code := bodyOf Tryz.f149
def o149 : List (Nat × List (Nat × List Nat)) := []
def sh149 (a0 : Value) (h : PH) (R : AEnd → PH → Prop) : Prop :=
  vBin Tryz.prog .geq 3 a0 (.int .i64 1) fun t4 =>
  gq (boolOf t4) true (fun K =>
  K a0 h)
  (fun t6 h_1 =>
  gq (boolOf t4) true (fun K_1 =>
  vBin Tryz.prog .leq 3 t6 (.int .i64 1099511627776) fun u =>
  K_1 u h_1)
  (fun t7 h_2 =>
  vPick t4 t7 (.bool false) fun t8 =>
  R (.ret t8) h_2) h_1) h
theorem l149 (R : AEnd → PH → Prop) : LoopsOK Tryz.prog qf (ordOf o149) (fun c h => R (.pan c) h) noLoops c149 := noLoops_ok (by kernel_rfl)
theorem e149 (a0 : Value) (h : PH) (R : AEnd → PH → Prop) : denF Tryz.prog qf (ordOf o149) noLoops Tryz.f149.results.toList c149 #[a0] h R = sh149 a0 h R := by kernel_rfl
theorem k149 : codeOK Tryz.prog qf Tryz.f149.ntmps (ordOf o149) c149 = true := by kernel_rfl
theorem s149 : Tryz.f149.body = some c149 := by kernel_rfl
theorem call149 {a0 : Value} {h : PH} {R : AEnd → PH → Prop} (H : sh149 a0 h R) : ACalls Tryz.prog 149 #[a0] h R :=
  ACalls_of_den mixed Tryz.func149 s149 (by kernel_rfl) k149 (l149 R) (of_den (e149 a0 h R) H)

/- math.IsInf -/
noncomputable def c150 : Code := bodyOf Tryz.f150
def o150 : List (Nat × List (Nat × List Nat)) := []
def sh150 (a0 a1 : Value) (h : PH) (R : AEnd → PH → Prop) : Prop :=
  vBin Tryz.prog .eql 3 a1 (.int .i64 0) fun t6 =>
  dIf t6 (vCall Tryz.prog 177 #[a0] h (fun t8 h_1 =>
  vBin Tryz.prog .gtr 23 t8 (.float .f64 9218868437227405311) fun t14 =>
  R (.ret t14) h_1)
  (fun c h => R (.pan c) h))
  (vBin Tryz.prog .lss 3 a1 (.int .i64 0) fun t10 =>
  dIf t10 (vUn Tryz.prog .neg a0 fun t12 =>
  vBin Tryz.prog .gtr 23 t12 (.float .f64 9218868437227405311) fun t14_1 =>
  R (.ret t14_1) h)
  (vBin Tryz.prog .gtr 23 a0 (.float .f64 9218868437227405311) fun t14_2 =>
  R (.ret t14_2) h))
theorem l150 (R : AEnd → PH → Prop) : LoopsOK Tryz.prog qf (ordOf o150) (fun c h => R (.pan c) h) noLoops c150 := noLoops_ok (by kernel_rfl)
theorem e150 (a0 a1 : Value) (h : PH) (R : AEnd → PH → Prop) : denF Tryz.prog qf (ordOf o150) noLoops Tryz.f150.results.toList c150 #[a0, a1] h R = sh150 a0 a1 h R := by kernel_rfl
theorem k150 : codeOK Tryz.prog qf Tryz.f150.ntmps (ordOf o150) c150 = true := by kernel_rfl
theorem s150 : Tryz.f150.body = some c150 := by kernel_rfl
theorem call150 {a0 a1 : Value} {h : PH} {R : AEnd → PH → Prop} (H : sh150 a0 a1 h R) : ACalls Tryz.prog 150 #[a0, a1] h R :=
  ACalls_of_den mixed Tryz.func150 s150 (by kernel_rfl) k150 (l150 R) (of_den (e150 a0 a1 h R) H)

/- math.Trunc -/
noncomputable def c151 : Code := bodyOf Tryz.f151
def o151 : List (Nat × List (Nat × List Nat)) := []
def sh151 (a0 : Value) (h : PH) (R : AEnd → PH → Prop) : Prop :=
  dIf (.bool true) (vLib Tryz.prog 178 #[a0] h fun t4 h_1 =>
  R (.ret t4) h_1)
  (vCall Tryz.prog 179 #[a0] h (fun t6 h_2 =>
  R (.ret t6) h_2)
  (fun c h => R (.pan c) h))
theorem l151 (R : AEnd → PH → Prop) : LoopsOK Tryz.prog qf (ordOf o151) (fun c h => R (.pan c) h) noLoops c151 := noLoops_ok (by kernel_rfl)
theorem e151 (a0 : Value) (h : PH) (R : AEnd → PH → Prop) : denF Tryz.prog qf (ordOf o151) noLoops Tryz.f151.results.toList c151 #[a0] h R = sh151 a0 h R := by kernel_rfl
theorem k151 : codeOK Tryz.prog qf Tryz.f151.ntmps (ordOf o151) c151 = true := by kernel_rfl
theorem s151 : Tryz.f151.body = some c151 := by kernel_rfl
theorem call151 {a0 : Value} {h : PH} {R : AEnd → PH → Prop} (H : sh151 a0 h R) : ACalls Tryz.prog 151 #[a0] h R :=
  ACalls_of_den mixed Tryz.func151 s151 (by kernel_rfl) k151 (l151 R) (of_den (e151 a0 h R) H)

/- (*gavel/ledger.Ledger).Hold -/
noncomputable def c152 : Code := bodyOf Tryz.f152
def o152 : List (Nat × List (Nat × List Nat)) := [(4, [(0, []), (1, []), (2, []), (3, []), (4, []), (5, []), (6, []), (7, []), (8, []), (9, []), (10, []), (11, []), (12, [])])]
def sh152 (a0 a1 a2 : Value) (h : PH) (R : AEnd → PH → Prop) : Prop :=
  vCall Tryz.prog 105 #[a0, a1, (.int .i64 0), a2] h (fun t13 h_1 =>
  vExt t13 0 fun t14 =>
  vExt t13 1 fun t15 =>
  vBin Tryz.prog .neq 30 t15 (.int .i64 0) fun t17 =>
  dIf t17 (R (.ret t15) h_1)
  (vNil t14 fun t20 =>
  vFA 0 t20 fun t21 =>
  vFA 0 t21 fun t22 =>
  vLoad none t22 h_1 fun t23 =>
  vNil t14 fun t25 =>
  vFA 0 t25 fun t26 =>
  vFA 1 t26 fun t27 =>
  vLoad none t27 h_1 fun t28 =>
  vBin Tryz.prog .sub 3 t23 t28 fun t29 =>
  vBin Tryz.prog .lss 3 t29 a2 fun t31 =>
  dIf t31 (R (.ret (.int .i64 61)) h_1)
  (vNil t14 fun t33 =>
  vFA 0 t33 fun t34 =>
  vFA 1 t34 fun t35 =>
  vLoad none t35 h_1 fun t36 =>
  vBin Tryz.prog .add 3 t36 a2 fun t38 =>
  vNil t14 fun t39 =>
  vFA 0 t39 fun t40 =>
  vFA 1 t40 fun t41 =>
  vStore 1 t41 t38 h_1 fun h_2 =>
  R (.ret (.int .i64 0)) h_2)))
  (fun c h => R (.pan c) h)
theorem l152 (R : AEnd → PH → Prop) : LoopsOK Tryz.prog qf (ordOf o152) (fun c h => R (.pan c) h) noLoops c152 := noLoops_ok (by kernel_rfl)
theorem e152 (a0 a1 a2 : Value) (h : PH) (R : AEnd → PH → Prop) : denF Tryz.prog qf (ordOf o152) noLoops Tryz.f152.results.toList c152 #[a0, a1, a2] h R = sh152 a0 a1 a2 h R := by kernel_rfl
theorem k152 : codeOK Tryz.prog qf Tryz.f152.ntmps (ordOf o152) c152 = true := by kernel_rfl
theorem s152 : Tryz.f152.body = some c152 := by kernel_rfl
theorem call152 {a0 a1 a2 : Value} {h : PH} {R : AEnd → PH → Prop} (H : sh152 a0 a1 a2 h R) : ACalls Tryz.prog 152 #[a0, a1, a2] h R :=
  ACalls_of_den mixed Tryz.func152 s152 (by kernel_rfl) k152 (l152 R) (of_den (e152 a0 a1 a2 h R) H)

/- (*gavel/ledger.Ledger).Free -/
noncomputable def c153 : Code := bodyOf Tryz.f153
def o153 : List (Nat × List (Nat × List Nat)) := []
def sh153 (a0 a1 a2 : Value) (h : PH) (R : AEnd → PH → Prop) : Prop :=
  vCall Tryz.prog 105 #[a0, a1, (.int .i64 0), a2] h (fun t13 h_1 =>
  vExt t13 0 fun t14 =>
  vExt t13 1 fun t15 =>
  vBin Tryz.prog .neq 30 t15 (.int .i64 0) fun t17 =>
  dIf t17 (R (.ret t15) h_1)
  (vNil t14 fun t20 =>
  vFA 0 t20 fun t21 =>
  vFA 1 t21 fun t22 =>
  vLoad none t22 h_1 fun t23 =>
  vBin Tryz.prog .lss 3 t23 a2 fun t25 =>
  dIf t25 (R (.ret (.int .i64 61)) h_1)
  (vNil t14 fun t27 =>
  vFA 0 t27 fun t28 =>
  vFA 1 t28 fun t29 =>
  vLoad none t29 h_1 fun t30 =>
  vBin Tryz.prog .sub 3 t30 a2 fun t32 =>
  vNil t14 fun t33 =>
  vFA 0 t33 fun t34 =>
  vFA 1 t34 fun t35 =>
  vStore 1 t35 t32 h_1 fun h_2 =>
  R (.ret (.int .i64 0)) h_2)))
  (fun c h => R (.pan c) h)
theorem l153 (R : AEnd → PH → Prop) : LoopsOK Tryz.prog qf (ordOf o153) (fun c h => R (.pan c) h) noLoops c153 := noLoops_ok (by kernel_rfl)
theorem e153 (a0 a1 a2 : Value) (h : PH) (R : AEnd → PH → Prop) : denF Tryz.prog qf (ordOf o153) noLoops Tryz.f153.results.toList c153 #[a0, a1, a2] h R = sh153 a0 a1 a2 h R := by kernel_rfl
theorem k153 : codeOK Tryz.prog qf Tryz.f153.ntmps (ordOf o153) c153 = true := by kernel_rfl
theorem s153 : Tryz.f153.body = some c153 := by kernel_rfl
theorem call153 {a0 a1 a2 : Value} {h : PH} {R : AEnd → PH → Prop} (H : sh153 a0 a1 a2 h R) : ACalls Tryz.prog 153 #[a0, a1, a2] h R :=
  ACalls_of_den mixed Tryz.func153 s153 (by kernel_rfl) k153 (l153 R) (of_den (e153 a0 a1 a2 h R) H)

end Go.Pw
/- The functions of the program, told as predicate transformers: printed by wip/tools/shprint.py; each is what the model makes of the function, by the kernel's reckoning. -/
set_option linter.unusedVariables false
set_option maxRecDepth 100000
namespace Go.Pw
open Go Go.Proofs
/- (*gavel/ledger.Ledger).Unlock -/
noncomputable def c154 : Code := bodyOf Tryz.f154
def o154 : List (Nat × List (Nat × List Nat)) := [(6, [(0, []), (1, []), (2, []), (3, []), (4, []), (5, []), (6, []), (7, []), (8, []), (9, []), (10, []), (11, []), (12, []), (13, [])])]
def sh154 (a0 a1 a2 a3 : Value) (h : PH) (R : AEnd → PH → Prop) : Prop :=
  vCall Tryz.prog 105 #[a0, a1, a2, a3] h (fun t16 h_1 =>
  vExt t16 0 fun t17 =>
  vExt t16 1 fun t18 =>
  vBin Tryz.prog .neq 30 t18 (.int .i64 0) fun t20 =>
  dIf t20 (R (.ret t18) h_1)
  (vNil t17 fun t24 =>
  vFA 0 t24 fun t25 =>
  vFA 6 t25 fun t26 =>
  vIxA 4 1 t26 a2 fun t27 =>
  vLoad none t27 h_1 fun t28 =>
  vBin Tryz.prog .lss 3 t28 a3 fun t30 =>
  dIf t30 (R (.ret (.int .i64 61)) h_1)
  (vNil t17 fun t33 =>
  vFA 0 t33 fun t34 =>
  vFA 6 t34 fun t35 =>
  vIxA 4 1 t35 a2 fun t36 =>
  vLoad none t36 h_1 fun t37 =>
  vBin Tryz.prog .sub 3 t37 a3 fun t39 =>
  vNil t17 fun t40 =>
  vFA 0 t40 fun t41 =>
  vFA 6 t41 fun t42 =>
  vIxA 4 1 t42 a2 fun t43 =>
  vStore 1 t43 t39 h_1 fun h_2 =>
  R (.ret (.int .i64 0)) h_2)))
  (fun c h => R (.pan c) h)
theorem l154 (R : AEnd → PH → Prop) : LoopsOK Tryz.prog qf (ordOf o154) (fun c h => R (.pan c) h) noLoops c154 := noLoops_ok (by kernel_rfl)
theorem e154 (a0 a1 a2 a3 : Value) (h : PH) (R : AEnd → PH → Prop) : denF Tryz.prog qf (ordOf o154) noLoops Tryz.f154.results.toList c154 #[a0, a1, a2, a3] h R = sh154 a0 a1 a2 a3 h R := by kernel_rfl
theorem k154 : codeOK Tryz.prog qf Tryz.f154.ntmps (ordOf o154) c154 = true := by kernel_rfl
theorem s154 : Tryz.f154.body = some c154 := by kernel_rfl
theorem call154 {a0 a1 a2 a3 : Value} {h : PH} {R : AEnd → PH → Prop} (H : sh154 a0 a1 a2 a3 h R) : ACalls Tryz.prog 154 #[a0, a1, a2, a3] h R :=
  ACalls_of_den mixed Tryz.func154 s154 (by kernel_rfl) k154 (l154 R) (of_den (e154 a0 a1 a2 a3 h R) H)

/- (*gavel/call.Book).mine -/
noncomputable def c155 : Code := bodyOf Tryz.f155
def o155 : List (Nat × List (Nat × List Nat)) := []
def sh155 (a0 a1 a2 : Value) (h : PH) (R : AEnd → PH → Prop) : Prop :=
  vBin Tryz.prog .eql 93 a0 (.pointer none) fun t10 =>
  dIf t10 (R (.ret (.tuple #[(.int .i64 0), (.int .i64 1)])) h)
  (vCall Tryz.prog 94 #[a0, a1] h (fun t13 h_1 =>
  vBin Tryz.prog .lss 3 t13 (.int .i64 0) fun t16 =>
  dIf t16 (R (.ret (.tuple #[(.int .i64 0), (.int .i64 3)])) h_1)
  (vNil a0 fun t19 =>
  vFA 0 t19 fun t20 =>
  vLoad none t20 h_1 fun t21 =>
  vIxS 6 t21 t13 fun t23 =>
  vFA 1 t23 fun t24 =>
  vLoad none t24 h_1 fun t25 =>
  vBin Tryz.prog .neq 3 t25 a2 fun t27 =>
  dIf t27 (R (.ret (.tuple #[(.int .i64 0), (.int .i64 80)])) h_1)
  (R (.ret (.tuple #[t13, (.int .i64 0)])) h_1)))
  (fun c h => R (.pan c) h))
theorem l155 (R : AEnd → PH → Prop) : LoopsOK Tryz.prog qf (ordOf o155) (fun c h => R (.pan c) h) noLoops c155 := noLoops_ok (by kernel_rfl)
theorem e155 (a0 a1 a2 : Value) (h : PH) (R : AEnd → PH → Prop) : denF Tryz.prog qf (ordOf o155) noLoops Tryz.f155.results.toList c155 #[a0, a1, a2] h R = sh155 a0 a1 a2 h R := by kernel_rfl
theorem k155 : codeOK Tryz.prog qf Tryz.f155.ntmps (ordOf o155) c155 = true := by kernel_rfl
theorem s155 : Tryz.f155.body = some c155 := by kernel_rfl
theorem call155 {a0 a1 a2 : Value} {h : PH} {R : AEnd → PH → Prop} (H : sh155 a0 a1 a2 h R) : ACalls Tryz.prog 155 #[a0, a1, a2] h R :=
  ACalls_of_den mixed Tryz.func155 s155 (by kernel_rfl) k155 (l155 R) (of_den (e155 a0 a1 a2 h R) H)

/- slices.Delete[[]gavel/api.Order,gavel/api.Order] -/
noncomputable def c156 : Code := bodyOf Tryz.f156
def o156 : List (Nat × List (Nat × List Nat)) := [(5, [(0, []), (1, []), (2, []), (3, []), (4, []), (5, []), (6, []), (7, [])])]
def sh156 (a0 a1 a2 : Value) (h : PH) (R : AEnd → PH → Prop) : Prop :=
  vLenS a0 fun t12 =>
  vSl3 6 (some a1) (some a2) t12 a0 fun t13 =>
  vBin Tryz.prog .eql 3 a1 a2 fun t16 =>
  dIf t16 (R (.ret a0) h)
  (vLenS a0 fun t19 =>
  vSl 6 none (some a1) a0 fun t22 =>
  vSl 6 (some a2) none a0 fun t25 =>
  (0 < 6) ∧ (0 < 48) ∧ (Array.size #[(.int .i64 0 : Value), (.int .i64 0 : Value), (.int .i64 0 : Value), (.int .i64 0 : Value), (.int .i64 0 : Value), (.bool false : Value)] = 6) ∧ vAppend false 78 6 48 t22 t25 h fun t26 h_1 =>
  vLenS t26 fun t29 =>
  vSl 6 (some t29) (some t19) t26 fun t31 =>
  vClear #[.int .i64 0, .int .i64 0, .int .i64 0, .int .i64 0, .int .i64 0, .bool false] t31 h_1 fun h_2 =>
  R (.ret t26) h_2)
theorem l156 (R : AEnd → PH → Prop) : LoopsOK Tryz.prog qf (ordOf o156) (fun c h => R (.pan c) h) noLoops c156 := noLoops_ok (by kernel_rfl)
theorem e156 (a0 a1 a2 : Value) (h : PH) (R : AEnd → PH → Prop) : denF Tryz.prog qf (ordOf o156) noLoops Tryz.f156.results.toList c156 #[a0, a1, a2] h R = sh156 a0 a1 a2 h R := by kernel_rfl
theorem k156 : codeOK Tryz.prog qf Tryz.f156.ntmps (ordOf o156) c156 = true := by kernel_rfl
theorem s156 : Tryz.f156.body = some c156 := by kernel_rfl
theorem call156 {a0 a1 a2 : Value} {h : PH} {R : AEnd → PH → Prop} (H : sh156 a0 a1 a2 h R) : ACalls Tryz.prog 156 #[a0, a1, a2] h R :=
  ACalls_of_den mixed Tryz.func156 s156 (by kernel_rfl) k156 (l156 R) (of_den (e156 a0 a1 a2 h R) H)

/- gavel/gavelref08.Clear -/
/- gavel/gavelref07.Next -/
/- gavel/gavelref07.Sale -/
/- gavel/gavelref09.trade -/
/- gavel/gavelref07.Price -/
/- gavel/gavelref05.None -/
/- gavel/gavelref05.Endless -/
/- gavel/gavelref08.own -/
/- gavel/gavelref08.Right -/
end Go.Pw
/- The functions of the program, told as predicate transformers: printed by wip/tools/shprint.py; each is what the model makes of the function, by the kernel's reckoning. -/
set_option linter.unusedVariables false
set_option maxRecDepth 100000
namespace Go.Pw
open Go Go.Proofs
/- gavel/gavelref08.without -/
/- gavel/gavelref07.Last -/
/- (*gavel/wire.reader).text -/
/- gavel/call.Cross -/
noncomputable def c170 : Code := bodyOf Tryz.f170
def o170 : List (Nat × List (Nat × List Nat)) := []
def b170_7 (Kp : List PanicEntry → PH → Prop) (x2 : (Value × Value × Value × Value × Value × Value × Value × Value × Value) → PH → Prop) (f : Value × Value × Value × Value × Value × Value × Value × Value × Value) (kn : (Value × Value × Value × Value × Value × Value × Value × Value × Value) → (Value × Value × Value) → PH → Prop) (s : Value × Value × Value) (h : PH) : Prop :=
  vBin Tryz.prog .lss 3 s.2.2 f.2.2.2.2.2.2.2.2 fun t22 =>
  dIf t22 (vIxS 6 f.2.2.2.2.2.2.2.1 s.2.2 fun t23 =>
  vLoad (some 6) t23 h fun t24 =>
  vNew #[.int .i64 0, .int .i64 0, .int .i64 0, .int .i64 0, .int .i64 0, .bool false] 78 h fun t9 h_1 =>
  vStore 6 t9 t24 h_1 fun h_2 =>
  vFA 5 t9 fun t26 =>
  vLoad none t26 h_2 fun t27 =>
  gq (boolOf t27) true (fun K =>
  vFA 2 t9 fun u =>
  K u h_2)
  (fun t29 h_3 =>
  gq (boolOf t27) true (fun K_1 =>
  vLoad none t29 h_3 fun u_1 =>
  K_1 u_1 h_3)
  (fun t30 h_4 =>
  gq (boolOf t27) true (fun K_2 =>
  vFA 2 f.2.2.2.1 fun u_2 =>
  K_2 u_2 h_4)
  (fun t31 h_5 =>
  gq (boolOf t27) true (fun K_3 =>
  vLoad none t31 h_5 fun u_3 =>
  K_3 u_3 h_5)
  (fun t32 h_6 =>
  gq (boolOf t27) true (fun K_4 =>
  vBin Tryz.prog .geq 3 t30 t32 fun u_4 =>
  K_4 u_4 h_6)
  (fun t33 h_7 =>
  vPick t27 t33 (.bool false) fun t34 =>
  dIf t34 (vFA 3 t9 fun t36 =>
  vLoad none t36 h_7 fun t37 =>
  vBin Tryz.prog .add 3 s.1 t37 fun t38 =>
  vBin Tryz.prog .add 3 s.2.2 (.int .i64 1) fun t54 =>
  kn f (t38, s.2.1, t54) h_7)
  (vFA 5 t9 fun t40 =>
  vLoad none t40 h_7 fun t41 =>
  vUn Tryz.prog .not t41 fun t42 =>
  gq (boolOf t42) true (fun K_5 =>
  vFA 2 t9 fun u_5 =>
  K_5 u_5 h_7)
  (fun t44 h_8 =>
  gq (boolOf t42) true (fun K_6 =>
  vLoad none t44 h_8 fun u_6 =>
  K_6 u_6 h_8)
  (fun t45 h_9 =>
  gq (boolOf t42) true (fun K_7 =>
  vFA 2 f.2.2.2.1 fun u_7 =>
  K_7 u_7 h_9)
  (fun t46 h_10 =>
  gq (boolOf t42) true (fun K_8 =>
  vLoad none t46 h_10 fun u_8 =>
  K_8 u_8 h_10)
  (fun t47 h_11 =>
  gq (boolOf t42) true (fun K_9 =>
  vBin Tryz.prog .leq 3 t45 t47 fun u_9 =>
  K_9 u_9 h_11)
  (fun t48 h_12 =>
  vPick t42 t48 (.bool false) fun t49 =>
  dIf t49 (vFA 3 t9 fun t51 =>
  vLoad none t51 h_12 fun t52 =>
  vBin Tryz.prog .add 3 s.2.1 t52 fun t53 =>
  vBin Tryz.prog .add 3 s.2.2 (.int .i64 1) fun t54_1 =>
  kn f (s.1, t53, t54_1) h_12)
  (vBin Tryz.prog .add 3 s.2.2 (.int .i64 1) fun t54_2 =>
  kn f (s.1, s.2.1, t54_2) h_12)) h_11) h_10) h_9) h_8) h_7)) h_6) h_5) h_4) h_3) h_2)
  (x2 (f.1, f.2.1, f.2.2.1, f.2.2.2.1, s.1, s.2.1, f.2.2.2.2.1, f.2.2.2.2.2.1, f.2.2.2.2.2.2.1) h)

def b170_3 (Kp : List PanicEntry → PH → Prop) (x0 : (Value × Value) → PH → Prop) (f : Value × Value × Value) (kn : (Value × Value × Value) → (Value × Value × Value) → PH → Prop) (s : Value × Value × Value) (h : PH) : Prop :=
  vBin Tryz.prog .lss 3 s.2.2 f.2.2 fun t16 =>
  dIf t16 (vIxS 6 f.2.1 s.2.2 fun t17 =>
  vLoad (some 6) t17 h fun t18 =>
  vNew #[.int .i64 0, .int .i64 0, .int .i64 0, .int .i64 0, .int .i64 0, .bool false] 78 h fun t5 h_1 =>
  vStore 6 t5 t18 h_1 fun h_2 =>
  vLenS f.1 fun t20 =>
  lf (b170_7 Kp (fun v h => exq (fun ρ => (ρ 0, ρ 2, ρ 3, ρ 5, ρ 6, ρ 7, ρ 13, ρ 14, ρ 15)) v (fun r h_3 =>
  vMinMax false (r 6) (r 7) fun t57 =>
  vBin Tryz.prog .gtr 3 t57 (r 3) fun t60 =>
  gq (boolOf t60) false (fun K =>
  K t57 h_3)
  (fun t62 h_4 =>
  gq (boolOf t60) false (fun K_1 =>
  K_1 (r 3) h_4)
  (fun t63 h_5 =>
  gq (boolOf t60) false (fun K_2 =>
  vBin Tryz.prog .eql 3 t62 t63 fun u =>
  K_2 u h_5)
  (fun t64 h_6 =>
  gq (boolOf t60) false (fun K_3 =>
  K_3 t64 h_6)
  (fun t65 h_7 =>
  gq (boolOf t65) true (fun K_4 =>
  K_4 t57 h_7)
  (fun t66 h_8 =>
  gq (boolOf t65) true (fun K_5 =>
  vBin Tryz.prog .gtr 3 t66 (.int .i64 0) fun u_1 =>
  K_5 u_1 h_8)
  (fun t67 h_9 =>
  gq (boolOf t60) false (fun K_6 =>
  vPick t65 t67 (.bool false) fun u_2 =>
  K_6 u_2 h_9)
  (fun t68 h_10 =>
  gq (boolOf t60) false (fun K_7 =>
  K_7 t68 h_10)
  (fun t69 h_11 =>
  gq (boolOf t69) true (fun K_8 =>
  vFA 2 (r 5) fun u_3 =>
  K_8 u_3 h_11)
  (fun t70 h_12 =>
  gq (boolOf t69) true (fun K_9 =>
  vLoad none t70 h_12 fun u_4 =>
  K_9 u_4 h_12)
  (fun t71 h_13 =>
  gq (boolOf t69) true (fun K_10 =>
  K_10 (r 2) h_13)
  (fun t72 h_14 =>
  gq (boolOf t69) true (fun K_11 =>
  vBin Tryz.prog .lss 3 t71 t72 fun u_5 =>
  K_11 u_5 h_14)
  (fun t73 h_15 =>
  gq (boolOf t60) false (fun K_12 =>
  vPick t69 t73 (.bool false) fun u_6 =>
  K_12 u_6 h_15)
  (fun t74 h_16 =>
  vPick t60 (.bool true) t74 fun t75 =>
  dIf t75 (vFA 2 (r 5) fun t76 =>
  vLoad none t76 h_16 fun t77 =>
  vBin Tryz.prog .add 3 (r 15) (.int .i64 1) fun t79 =>
  kn ((r 0), (r 13), (r 14)) (t77, t57, t79) h_16)
  (vBin Tryz.prog .add 3 (r 15) (.int .i64 1) fun t79_1 =>
  kn ((r 0), (r 13), (r 14)) ((r 2), (r 3), t79_1) h_16)) h_15) h_14) h_13) h_12) h_11) h_10) h_9) h_8) h_7) h_6) h_5) h_4) h_3) h)) (f.1, s.1, s.2.1, t5, f.2.1, f.2.2, s.2.2, f.1, t20) ((.int .i64 0), (.int .i64 0), (.int .i64 0)) h_2)
  (x0 (s.1, s.2.1) h)

def sh170 (a0 : Value) (h : PH) (R : AEnd → PH → Prop) : Prop :=
  vCall Tryz.prog 184 #[a0] h (fun t12 h_1 =>
  vLenS t12 fun t14 =>
  lf (b170_3 (fun c h => R (.pan c) h) (fun v h => exq (fun ρ => (ρ 2, ρ 3)) v (fun r h_2 =>
  R (.ret (.tuple #[(r 2), (r 3)])) h_2) h)) (t12, t12, t14) ((.int .i64 0), (.int .i64 0), (.int .i64 0)) h_1)
  (fun c h => R (.pan c) h)
def L170 (Kp : List PanicEntry → PH → Prop) : Loops := fun c Q ρ h =>
    sel (Nat.beq (loopId c) 3) (lf (b170_3 Kp (fun v h => exq (fun ρ => (ρ 2, ρ 3)) v (Q (.exit 0)) h)) ((fun ρ => (ρ 0, ρ 13, ρ 14)) ρ) ((fun ρ => (ρ 2, ρ 3, ρ 15)) ρ) h)
    (sel (Nat.beq (loopId c) 7) (lf (b170_7 Kp (fun v h => exq (fun ρ => (ρ 0, ρ 2, ρ 3, ρ 5, ρ 6, ρ 7, ρ 13, ρ 14, ρ 15)) v (Q (.exit 2)) h)) ((fun ρ => (ρ 0, ρ 2, ρ 3, ρ 5, ρ 13, ρ 14, ρ 15, ρ 19, ρ 20)) ρ) ((fun ρ => (ρ 6, ρ 7, ρ 21)) ρ) h)
    (False))
theorem B170_3 (Kp : List PanicEntry → PH → Prop) (KN : (Value × Value × Value) → (Value × Value × Value) → PH → Prop) (XX : Exit → (Value × Value) → PH → Prop) (ρ : Env) (h : PH) :
    den Tryz.prog qf (ordOf o170) Kp (L170 Kp) (loopAt c170 0) (lq KN XX (fun ρ => (ρ 0, ρ 13, ρ 14)) (fun ρ => (ρ 2, ρ 3, ρ 15)) (fun ρ => (ρ 2, ρ 3))) ρ h = b170_3 Kp (XX (.exit 0)) ((fun ρ => (ρ 0, ρ 13, ρ 14)) ρ) KN ((fun ρ => (ρ 2, ρ 3, ρ 15)) ρ) h := by kernel_rfl
theorem B170_7 (Kp : List PanicEntry → PH → Prop) (KN : (Value × Value × Value × Value × Value × Value × Value × Value × Value) → (Value × Value × Value) → PH → Prop) (XX : Exit → (Value × Value × Value × Value × Value × Value × Value × Value × Value) → PH → Prop) (ρ : Env) (h : PH) :
    den Tryz.prog qf (ordOf o170) Kp (L170 Kp) (loopAt c170 1) (lq KN XX (fun ρ => (ρ 0, ρ 2, ρ 3, ρ 5, ρ 13, ρ 14, ρ 15, ρ 19, ρ 20)) (fun ρ => (ρ 6, ρ 7, ρ 21)) (fun ρ => (ρ 0, ρ 2, ρ 3, ρ 5, ρ 6, ρ 7, ρ 13, ρ 14, ρ 15))) ρ h = b170_7 Kp (XX (.exit 2)) ((fun ρ => (ρ 0, ρ 2, ρ 3, ρ 5, ρ 13, ρ 14, ρ 15, ρ 19, ρ 20)) ρ) KN ((fun ρ => (ρ 6, ρ 7, ρ 21)) ρ) h := by kernel_rfl
theorem l170 (R : AEnd → PH → Prop) : LoopsOK Tryz.prog qf (ordOf o170) (fun c h => R (.pan c) h) (L170 (fun c h => R (.pan c) h)) c170 :=
  LoopsOK.mk 2 (by kernel_rfl) fun i hi Q ρ h H => match i, hi with
    | 0, _ => loop_gen (F := Value × Value × Value) (S := Value × Value × Value) (X := Value × Value) (φ := (fun ρ => (ρ 0, ρ 13, ρ 14))) (π := (fun ρ => (ρ 2, ρ 3, ρ 15))) (ξ := (fun ρ => (ρ 2, ρ 3))) (B := (fun (XX : Exit → (Value × Value) → PH → Prop) => b170_3 (fun c h => R (.pan c) h) (XX (.exit 0)))) (B170_3 _) (of_den (by kernel_rfl) H)
    | 1, _ => loop_gen (F := Value × Value × Value × Value × Value × Value × Value × Value × Value) (S := Value × Value × Value) (X := Value × Value × Value × Value × Value × Value × Value × Value × Value) (φ := (fun ρ => (ρ 0, ρ 2, ρ 3, ρ 5, ρ 13, ρ 14, ρ 15, ρ 19, ρ 20))) (π := (fun ρ => (ρ 6, ρ 7, ρ 21))) (ξ := (fun ρ => (ρ 0, ρ 2, ρ 3, ρ 5, ρ 6, ρ 7, ρ 13, ρ 14, ρ 15))) (B := (fun (XX : Exit → (Value × Value × Value × Value × Value × Value × Value × Value × Value) → PH → Prop) => b170_7 (fun c h => R (.pan c) h) (XX (.exit 2)))) (B170_7 _) (of_den (by kernel_rfl) H)
    | n + 2, hi => absurd hi (by omega)
theorem e170 (a0 : Value) (h : PH) (R : AEnd → PH → Prop) : denF Tryz.prog qf (ordOf o170) (L170 (fun c h => R (.pan c) h)) Tryz.f170.results.toList c170 #[a0] h R = sh170 a0 h R := by kernel_rfl
theorem k170 : codeOK Tryz.prog qf Tryz.f170.ntmps (ordOf o170) c170 = true := by kernel_rfl
theorem s170 : Tryz.f170.body = some c170 := by kernel_rfl
theorem call170 {a0 : Value} {h : PH} {R : AEnd → PH → Prop} (H : sh170 a0 h R) : ACalls Tryz.prog 170 #[a0] h R :=
  ACalls_of_den mixed Tryz.func170 s170 (by kernel_rfl) k170 (l170 R) (of_den (e170 a0 h R) H)

/- gavel/call.Fills -/
noncomputable def c171 : Code := bodyOf Tryz.f171
def o171 : List (Nat × List (Nat × List Nat)) := []
def b171_8 (Kp : List PanicEntry → PH → Prop) (x2 : (Value × Value × Value × Value × Value × Value × Value × Value) → PH → Prop) (f : Value × Value × Value × Value × Value × Value × Value × Value × Value × Value) (kn : (Value × Value × Value × Value × Value × Value × Value × Value × Value × Value) → (Value × Value) → PH → Prop) (s : Value × Value) (h : PH) : Prop :=
  vBin Tryz.prog .lss 3 s.2 f.2.2.2.2.2.2.2.2.2 fun t28 =>
  dIf t28 (vIxS 6 f.2.2.2.2.2.2.2.2.1 s.2 fun t29 =>
  vLoad (some 6) t29 h fun t30 =>
  vNew #[.int .i64 0, .int .i64 0, .int .i64 0, .int .i64 0, .int .i64 0, .bool false] 78 h fun t12 h_1 =>
  vStore 6 t12 t30 h_1 fun h_2 =>
  vFA 5 t12 fun t31 =>
  vLoad none t31 h_2 fun t32 =>
  vBin Tryz.prog .eql 4 t32 f.2.2.2.2.1 fun t34 =>
  gq (boolOf t34) true (fun K =>
  K f.2.2.2.2.1 h_2)
  (fun t36 h_3 =>
  gq (boolOf t34) true (fun K_1 =>
  K_1 t36 h_3)
  (fun t37 h_4 =>
  gq (boolOf t37) true (fun K_2 =>
  vFA 2 t12 fun u =>
  K_2 u h_4)
  (fun t38 h_5 =>
  gq (boolOf t37) true (fun K_3 =>
  vLoad none t38 h_5 fun u_1 =>
  K_3 u_1 h_5)
  (fun t39 h_6 =>
  gq (boolOf t37) true (fun K_4 =>
  K_4 f.2.1 h_6)
  (fun t40 h_7 =>
  gq (boolOf t37) true (fun K_5 =>
  vBin Tryz.prog .geq 3 t39 t40 fun u_2 =>
  K_5 u_2 h_7)
  (fun t41 h_8 =>
  gq (boolOf t34) true (fun K_6 =>
  vPick t37 t41 (.bool false) fun u_3 =>
  K_6 u_3 h_8)
  (fun t42 h_9 =>
  gq (boolOf t34) true (fun K_7 =>
  K_7 t42 h_9)
  (fun t43 h_10 =>
  gq (boolOf t43) false (fun K_8 =>
  K_8 f.2.2.2.2.1 h_10)
  (fun t44 h_11 =>
  gq (boolOf t43) false (fun K_9 =>
  vUn Tryz.prog .not t44 fun u_4 =>
  K_9 u_4 h_11)
  (fun t45 h_12 =>
  gq (boolOf t43) false (fun K_10 =>
  K_10 t45 h_12)
  (fun t46 h_13 =>
  gq (boolOf t46) true (fun K_11 =>
  vFA 2 t12 fun u_5 =>
  K_11 u_5 h_13)
  (fun t47 h_14 =>
  gq (boolOf t46) true (fun K_12 =>
  vLoad none t47 h_14 fun u_6 =>
  K_12 u_6 h_14)
  (fun t48 h_15 =>
  gq (boolOf t46) true (fun K_13 =>
  K_13 f.2.1 h_15)
  (fun t49 h_16 =>
  gq (boolOf t46) true (fun K_14 =>
  vBin Tryz.prog .leq 3 t48 t49 fun u_7 =>
  K_14 u_7 h_16)
  (fun t50 h_17 =>
  gq (boolOf t43) false (fun K_15 =>
  vPick t46 t50 (.bool false) fun u_8 =>
  K_15 u_8 h_17)
  (fun t51 h_18 =>
  gq (boolOf t34) true (fun K_16 =>
  vPick t43 (.bool true) t51 fun u_9 =>
  K_16 u_9 h_18)
  (fun t52 h_19 =>
  vPick t34 t52 (.bool false) fun t53 =>
  dIf t53 (vLoad (some 6) t12 h_19 fun t55 =>
  (1 * 6 ≤ 2 ^ 24) ∧ vBuildS 78 6 1 #[.int .i64 0, .int .i64 0, .int .i64 0, .int .i64 0, .int .i64 0, .bool false] [(0, t55)] h_19 fun t56 h_20 =>
  (0 < 6) ∧ (0 < 48) ∧ (Array.size #[(.int .i64 0 : Value), (.int .i64 0 : Value), (.int .i64 0 : Value), (.int .i64 0 : Value), (.int .i64 0 : Value), (.bool false : Value)] = 6) ∧ vAppend false 78 6 48 s.1 t56 h_20 fun t57 h_21 =>
  vBin Tryz.prog .add 3 s.2 (.int .i64 1) fun t58 =>
  kn f (t57, t58) h_21)
  (vBin Tryz.prog .add 3 s.2 (.int .i64 1) fun t58_1 =>
  kn f (s.1, t58_1) h_19)) h_18) h_17) h_16) h_15) h_14) h_13) h_12) h_11) h_10) h_9) h_8) h_7) h_6) h_5) h_4) h_3) h_2)
  (x2 (f.1, f.2.1, f.2.2.1, f.2.2.2.1, s.1, f.2.2.2.2.2.1, f.2.2.2.2.2.2.1, f.2.2.2.2.2.2.2.1) h)

def b171_16 (Kp : List PanicEntry → PH → Prop) (x4 : (Value × Value × Value × Value × Value × Value × Value) → PH → Prop) (f : Value × Value × Value × Value × Value × Value × Value × Value) (kn : (Value × Value × Value × Value × Value × Value × Value × Value) → (Value × Value × Value) → PH → Prop) (s : Value × Value × Value) (h : PH) : Prop :=
  vBin Tryz.prog .lss 3 s.2.2 f.2.2.2.2.2.2.2 fun t65 =>
  dIf t65 (vIxS 6 f.2.2.2.2.2.2.1 s.2.2 fun t66 =>
  vLoad (some 6) t66 h fun t67 =>
  vNew #[.int .i64 0, .int .i64 0, .int .i64 0, .int .i64 0, .int .i64 0, .bool false] 78 h fun t15 h_1 =>
  vStore 6 t15 t67 h_1 fun h_2 =>
  vFA 3 t15 fun t69 =>
  vLoad none t69 h_2 fun t70 =>
  vMinMax false s.2.1 t70 fun t71 =>
  vBin Tryz.prog .gtr 3 t71 (.int .i64 0) fun t73 =>
  dIf t73 (vFA 0 t15 fun t75 =>
  vLoad none t75 h_2 fun t76 =>
  vFA 1 t15 fun t77 =>
  vLoad none t77 h_2 fun t78 =>
  vBuild [(0, 1), (1, 1), (2, 1)] #[.int .i64 0, .int .i64 0, .int .i64 0] [(0, t76), (1, t78), (2, t71)] fun t80 =>
  (1 * 3 ≤ 2 ^ 24) ∧ vBuildS 218 3 1 #[.int .i64 0, .int .i64 0, .int .i64 0] [(0, t80)] h_2 fun t81 h_3 =>
  (0 < 3) ∧ (0 < 24) ∧ (Array.size #[(.int .i64 0 : Value), (.int .i64 0 : Value), (.int .i64 0 : Value)] = 3) ∧ vAppend false 218 3 24 s.1 t81 h_3 fun t82 h_4 =>
  vBin Tryz.prog .sub 3 s.2.1 t71 fun t85 =>
  vBin Tryz.prog .add 3 s.2.2 (.int .i64 1) fun t86 =>
  kn f (t82, t85, t86) h_4)
  (vBin Tryz.prog .add 3 s.2.2 (.int .i64 1) fun t86_1 =>
  kn f (s.1, s.2.1, t86_1) h_2))
  (x4 (f.1, f.2.1, f.2.2.1, s.1, f.2.2.2.1, f.2.2.2.2.1, f.2.2.2.2.2.1) h)

def b171_4 (Kp : List PanicEntry → PH → Prop) (x0 : Value → PH → Prop) (f : Value × Value × Value × Value × Value) (kn : (Value × Value × Value × Value × Value) → (Value × Value) → PH → Prop) (s : Value × Value) (h : PH) : Prop :=
  vBin Tryz.prog .lss 3 s.2 f.2.2.2.2 fun t22 =>
  dIf t22 (vIxS 1 f.2.2.2.1 s.2 fun t23 =>
  vLoad none t23 h fun t24 =>
  vLenS f.1 fun t26 =>
  lf (b171_8 Kp (fun v h => exq (fun ρ => (ρ 0, ρ 1, ρ 2, ρ 7, ρ 10, ρ 19, ρ 20, ρ 21)) v (fun r h_1 =>
  vCall Tryz.prog 185 #[(r 10), (.func (.func 186) #[] #[])] h_1 (fun t60 h_2 =>
  vLenS (r 10) fun t63 =>
  lf (b171_16 Kp (fun v h => exq (fun ρ => (ρ 0, ρ 1, ρ 2, ρ 7, ρ 19, ρ 20, ρ 21)) v (fun r_1 h_3 =>
  vBin Tryz.prog .add 3 (r_1 21) (.int .i64 1) fun t87 =>
  kn ((r_1 0), (r_1 1), (r_1 2), (r_1 19), (r_1 20)) ((r_1 7), t87) h_3) h)) ((r 0), (r 1), (r 2), (r 19), (r 20), (r 21), (r 10), t63) ((r 7), (r 2), (.int .i64 0)) h_2)
  Kp) h)) (f.1, f.2.1, f.2.2.1, s.1, t24, f.2.2.2.1, f.2.2.2.2, s.2, f.1, t26) ((.slice none 0 0), (.int .i64 0)) h)
  (x0 s.1 h)

def sh171 (a0 a1 a2 : Value) (h : PH) (R : AEnd → PH → Prop) : Prop :=
  vCall Tryz.prog 184 #[a0] h (fun t18 h_1 =>
  (2 * 1 ≤ 2 ^ 24) ∧ vBuildS 4 1 2 #[.bool false] [(0, (.bool true)), (1, (.bool false))] h_1 fun t19 h_2 =>
  vLenS t19 fun t20 =>
  lf (b171_4 (fun c h => R (.pan c) h) (fun v h => exq (fun ρ => ρ 7) v (fun r h_3 =>
  R (.ret (r 7)) h_3) h)) (t18, a1, a2, t19, t20) ((.slice none 0 0), (.int .i64 0)) h_2)
  (fun c h => R (.pan c) h)
def L171 (Kp : List PanicEntry → PH → Prop) : Loops := fun c Q ρ h =>
    sel (Nat.beq (loopId c) 4) (lf (b171_4 Kp (fun v h => exq (fun ρ => ρ 7) v (Q (.exit 0)) h)) ((fun ρ => (ρ 0, ρ 1, ρ 2, ρ 19, ρ 20)) ρ) ((fun ρ => (ρ 7, ρ 21)) ρ) h)
    (sel (Nat.beq (loopId c) 8) (lf (b171_8 Kp (fun v h => exq (fun ρ => (ρ 0, ρ 1, ρ 2, ρ 7, ρ 10, ρ 19, ρ 20, ρ 21)) v (Q (.exit 2)) h)) ((fun ρ => (ρ 0, ρ 1, ρ 2, ρ 7, ρ 9, ρ 19, ρ 20, ρ 21, ρ 25, ρ 26)) ρ) ((fun ρ => (ρ 10, ρ 27)) ρ) h)
    (sel (Nat.beq (loopId c) 16) (lf (b171_16 Kp (fun v h => exq (fun ρ => (ρ 0, ρ 1, ρ 2, ρ 7, ρ 19, ρ 20, ρ 21)) v (Q (.exit 4)) h)) ((fun ρ => (ρ 0, ρ 1, ρ 2, ρ 19, ρ 20, ρ 21, ρ 62, ρ 63)) ρ) ((fun ρ => (ρ 7, ρ 13, ρ 64)) ρ) h)
    (False)))
theorem B171_4 (Kp : List PanicEntry → PH → Prop) (KN : (Value × Value × Value × Value × Value) → (Value × Value) → PH → Prop) (XX : Exit → (Value) → PH → Prop) (ρ : Env) (h : PH) :
    den Tryz.prog qf (ordOf o171) Kp (L171 Kp) (loopAt c171 0) (lq KN XX (fun ρ => (ρ 0, ρ 1, ρ 2, ρ 19, ρ 20)) (fun ρ => (ρ 7, ρ 21)) (fun ρ => ρ 7)) ρ h = b171_4 Kp (XX (.exit 0)) ((fun ρ => (ρ 0, ρ 1, ρ 2, ρ 19, ρ 20)) ρ) KN ((fun ρ => (ρ 7, ρ 21)) ρ) h := by kernel_rfl
theorem B171_8 (Kp : List PanicEntry → PH → Prop) (KN : (Value × Value × Value × Value × Value × Value × Value × Value × Value × Value) → (Value × Value) → PH → Prop) (XX : Exit → (Value × Value × Value × Value × Value × Value × Value × Value) → PH → Prop) (ρ : Env) (h : PH) :
    den Tryz.prog qf (ordOf o171) Kp (L171 Kp) (loopAt c171 1) (lq KN XX (fun ρ => (ρ 0, ρ 1, ρ 2, ρ 7, ρ 9, ρ 19, ρ 20, ρ 21, ρ 25, ρ 26)) (fun ρ => (ρ 10, ρ 27)) (fun ρ => (ρ 0, ρ 1, ρ 2, ρ 7, ρ 10, ρ 19, ρ 20, ρ 21))) ρ h = b171_8 Kp (XX (.exit 2)) ((fun ρ => (ρ 0, ρ 1, ρ 2, ρ 7, ρ 9, ρ 19, ρ 20, ρ 21, ρ 25, ρ 26)) ρ) KN ((fun ρ => (ρ 10, ρ 27)) ρ) h := by kernel_rfl
theorem B171_16 (Kp : List PanicEntry → PH → Prop) (KN : (Value × Value × Value × Value × Value × Value × Value × Value) → (Value × Value × Value) → PH → Prop) (XX : Exit → (Value × Value × Value × Value × Value × Value × Value) → PH → Prop) (ρ : Env) (h : PH) :
    den Tryz.prog qf (ordOf o171) Kp (L171 Kp) (loopAt c171 2) (lq KN XX (fun ρ => (ρ 0, ρ 1, ρ 2, ρ 19, ρ 20, ρ 21, ρ 62, ρ 63)) (fun ρ => (ρ 7, ρ 13, ρ 64)) (fun ρ => (ρ 0, ρ 1, ρ 2, ρ 7, ρ 19, ρ 20, ρ 21))) ρ h = b171_16 Kp (XX (.exit 4)) ((fun ρ => (ρ 0, ρ 1, ρ 2, ρ 19, ρ 20, ρ 21, ρ 62, ρ 63)) ρ) KN ((fun ρ => (ρ 7, ρ 13, ρ 64)) ρ) h := by kernel_rfl
theorem l171 (R : AEnd → PH → Prop) : LoopsOK Tryz.prog qf (ordOf o171) (fun c h => R (.pan c) h) (L171 (fun c h => R (.pan c) h)) c171 :=
  LoopsOK.mk 3 (by kernel_rfl) fun i hi Q ρ h H => match i, hi with
    | 0, _ => loop_gen (F := Value × Value × Value × Value × Value) (S := Value × Value) (X := Value) (φ := (fun ρ => (ρ 0, ρ 1, ρ 2, ρ 19, ρ 20))) (π := (fun ρ => (ρ 7, ρ 21))) (ξ := (fun ρ => ρ 7)) (B := (fun (XX : Exit → (Value) → PH → Prop) => b171_4 (fun c h => R (.pan c) h) (XX (.exit 0)))) (B171_4 _) (of_den (by kernel_rfl) H)
    | 1, _ => loop_gen (F := Value × Value × Value × Value × Value × Value × Value × Value × Value × Value) (S := Value × Value) (X := Value × Value × Value × Value × Value × Value × Value × Value) (φ := (fun ρ => (ρ 0, ρ 1, ρ 2, ρ 7, ρ 9, ρ 19, ρ 20, ρ 21, ρ 25, ρ 26))) (π := (fun ρ => (ρ 10, ρ 27))) (ξ := (fun ρ => (ρ 0, ρ 1, ρ 2, ρ 7, ρ 10, ρ 19, ρ 20, ρ 21))) (B := (fun (XX : Exit → (Value × Value × Value × Value × Value × Value × Value × Value) → PH → Prop) => b171_8 (fun c h => R (.pan c) h) (XX (.exit 2)))) (B171_8 _) (of_den (by kernel_rfl) H)
    | 2, _ => loop_gen (F := Value × Value × Value × Value × Value × Value × Value × Value) (S := Value × Value × Value) (X := Value × Value × Value × Value × Value × Value × Value) (φ := (fun ρ => (ρ 0, ρ 1, ρ 2, ρ 19, ρ 20, ρ 21, ρ 62, ρ 63))) (π := (fun ρ => (ρ 7, ρ 13, ρ 64))) (ξ := (fun ρ => (ρ 0, ρ 1, ρ 2, ρ 7, ρ 19, ρ 20, ρ 21))) (B := (fun (XX : Exit → (Value × Value × Value × Value × Value × Value × Value) → PH → Prop) => b171_16 (fun c h => R (.pan c) h) (XX (.exit 4)))) (B171_16 _) (of_den (by kernel_rfl) H)
    | n + 3, hi => absurd hi (by omega)
theorem e171 (a0 a1 a2 : Value) (h : PH) (R : AEnd → PH → Prop) : denF Tryz.prog qf (ordOf o171) (L171 (fun c h => R (.pan c) h)) Tryz.f171.results.toList c171 #[a0, a1, a2] h R = sh171 a0 a1 a2 h R := by kernel_rfl
theorem k171 : codeOK Tryz.prog qf Tryz.f171.ntmps (ordOf o171) c171 = true := by kernel_rfl
theorem s171 : Tryz.f171.body = some c171 := by kernel_rfl
theorem call171 {a0 a1 a2 : Value} {h : PH} {R : AEnd → PH → Prop} (H : sh171 a0 a1 a2 h R) : ACalls Tryz.prog 171 #[a0, a1, a2] h R :=
  ACalls_of_den mixed Tryz.func171 s171 (by kernel_rfl) k171 (l171 R) (of_den (e171 a0 a1 a2 h R) H)

/- slices.DeleteFunc[[]gavel/api.Order,gavel/api.Order] -/
noncomputable def c172 : Code := bodyOf Tryz.f172
def o172 : List (Nat × List (Nat × List Nat)) := []
def b172_5 (Kp : List PanicEntry → PH → Prop) (x0 : (Value × Value) → PH → Prop) (f : Value × Value) (kn : (Value × Value) → (Value × Value) → PH → Prop) (s : Value × Value) (h : PH) : Prop :=
  vLenS f.1 fun t18 =>
  vBin Tryz.prog .lss 3 s.2 t18 fun t19 =>
  dIf t19 (vIxS 6 f.1 s.2 fun t24 =>
  vLoad (some 6) t24 h fun t25 =>
  vNew #[.int .i64 0, .int .i64 0, .int .i64 0, .int .i64 0, .int .i64 0, .bool false] 78 h fun t7 h_1 =>
  vStore 6 t7 t25 h_1 fun h_2 =>
  vLoad (some 6) t7 h_2 fun t27 =>
  vCallV Tryz.prog f.2 #[t27] h_2 (fun t28 h_3 =>
  vUn Tryz.prog .not t28 fun t29 =>
  dIf t29 (vLoad (some 6) t7 h_3 fun t32 =>
  vIxS 6 f.1 s.1 fun t33 =>
  vStore 6 t33 t32 h_3 fun h_4 =>
  vBin Tryz.prog .add 3 s.1 (.int .i64 1) fun t35 =>
  vBin Tryz.prog .add 3 s.2 (.int .i64 1) fun t21 =>
  kn f (t35, t21) h_4)
  (vBin Tryz.prog .add 3 s.2 (.int .i64 1) fun t21_1 =>
  kn f (s.1, t21_1) h_3))
  Kp)
  (x0 (f.1, s.1) h)

def sh172 (a0 a1 : Value) (h : PH) (R : AEnd → PH → Prop) : Prop :=
  vCall Tryz.prog 142 #[a0, a1] h (fun t10 h_1 =>
  vBin Tryz.prog .eql 3 t10 (.int .i64 (-1)) fun t12 =>
  dIf t12 (R (.ret a0) h_1)
  (vBin Tryz.prog .add 3 t10 (.int .i64 1) fun t15 =>
  lf (b172_5 (fun c h => R (.pan c) h) (fun v h => exq (fun ρ => (ρ 0, ρ 5)) v (fun r h_2 =>
  vSl 6 (some (r 5)) none (r 0) fun t38 =>
  vClear #[.int .i64 0, .int .i64 0, .int .i64 0, .int .i64 0, .int .i64 0, .bool false] t38 h_2 fun h_3 =>
  vSl 6 none (some (r 5)) (r 0) fun t41 =>
  R (.ret t41) h_3) h)) (a0, a1) (t10, t15) h_1))
  (fun c h => R (.pan c) h)
def L172 (Kp : List PanicEntry → PH → Prop) : Loops := fun c Q ρ h =>
    sel (Nat.beq (loopId c) 5) (lf (b172_5 Kp (fun v h => exq (fun ρ => (ρ 0, ρ 5)) v (Q (.exit 0)) h)) ((fun ρ => (ρ 0, ρ 1)) ρ) ((fun ρ => (ρ 5, ρ 6)) ρ) h)
    (False)
theorem B172_5 (Kp : List PanicEntry → PH → Prop) (KN : (Value × Value) → (Value × Value) → PH → Prop) (XX : Exit → (Value × Value) → PH → Prop) (ρ : Env) (h : PH) :
    den Tryz.prog qf (ordOf o172) Kp (L172 Kp) (loopAt c172 0) (lq KN XX (fun ρ => (ρ 0, ρ 1)) (fun ρ => (ρ 5, ρ 6)) (fun ρ => (ρ 0, ρ 5))) ρ h = b172_5 Kp (XX (.exit 0)) ((fun ρ => (ρ 0, ρ 1)) ρ) KN ((fun ρ => (ρ 5, ρ 6)) ρ) h := by kernel_rfl
theorem l172 (R : AEnd → PH → Prop) : LoopsOK Tryz.prog qf (ordOf o172) (fun c h => R (.pan c) h) (L172 (fun c h => R (.pan c) h)) c172 :=
  LoopsOK.mk 1 (by kernel_rfl) fun i hi Q ρ h H => match i, hi with
    | 0, _ => loop_gen (F := Value × Value) (S := Value × Value) (X := Value × Value) (φ := (fun ρ => (ρ 0, ρ 1))) (π := (fun ρ => (ρ 5, ρ 6))) (ξ := (fun ρ => (ρ 0, ρ 5))) (B := (fun (XX : Exit → (Value × Value) → PH → Prop) => b172_5 (fun c h => R (.pan c) h) (XX (.exit 0)))) (B172_5 _) (of_den (by kernel_rfl) H)
    | n + 1, hi => absurd hi (by omega)
theorem e172 (a0 a1 : Value) (h : PH) (R : AEnd → PH → Prop) : denF Tryz.prog qf (ordOf o172) (L172 (fun c h => R (.pan c) h)) Tryz.f172.results.toList c172 #[a0, a1] h R = sh172 a0 a1 h R := by kernel_rfl
theorem k172 : codeOK Tryz.prog qf Tryz.f172.ntmps (ordOf o172) c172 = true := by kernel_rfl
theorem s172 : Tryz.f172.body = some c172 := by kernel_rfl
theorem call172 {a0 a1 : Value} {h : PH} {R : AEnd → PH → Prop} (H : sh172 a0 a1 h R) : ACalls Tryz.prog 172 #[a0, a1] h R :=
  ACalls_of_den mixed Tryz.func172 s172 (by kernel_rfl) k172 (l172 R) (of_den (e172 a0 a1 h R) H)

/- (*gavel/call.Book).Clear$1 -/
noncomputable def c173 : Code := bodyOf Tryz.f173
def o173 : List (Nat × List (Nat × List Nat)) := []
def sh173 (a0 : Value) (h : PH) (R : AEnd → PH → Prop) : Prop :=
  vNew (Value.cells a0) 78 h fun t1 h_1 =>
  vFA 3 t1 fun t3 =>
  vLoad none t3 h_1 fun t4 =>
  vBin Tryz.prog .eql 3 t4 (.int .i64 0) fun t5 =>
  R (.ret t5) h_1
theorem l173 (R : AEnd → PH → Prop) : LoopsOK Tryz.prog qf (ordOf o173) (fun c h => R (.pan c) h) noLoops c173 := noLoops_ok (by kernel_rfl)
theorem e173 (a0 : Value) (h : PH) (R : AEnd → PH → Prop) : denF Tryz.prog qf (ordOf o173) noLoops Tryz.f173.results.toList c173 #[a0] h R = sh173 a0 h R := by kernel_rfl
theorem k173 : codeOK Tryz.prog qf Tryz.f173.ntmps (ordOf o173) c173 = true := by kernel_rfl
theorem s173 : Tryz.f173.body = some c173 := by kernel_rfl
theorem call173 {a0 : Value} {h : PH} {R : AEnd → PH → Prop} (H : sh173 a0 h R) : ACalls Tryz.prog 173 #[a0] h R :=
  ACalls_of_den mixed Tryz.func173 s173 (by kernel_rfl) k173 (l173 R) (of_den (e173 a0 h R) H)

/- (*gavel/ledger.Ledger).Hand -/
noncomputable def c174 : Code := bodyOf Tryz.f174
def o174 : List (Nat × List (Nat × List Nat)) := [(10, [(0, []), (1, []), (2, []), (3, []), (4, []), (5, []), (6, []), (7, []), (8, []), (9, []), (10, []), (11, []), (12, []), (13, [])]), (11, [(0, []), (1, []), (2, []), (3, []), (4, []), (5, []), (6, []), (7, []), (8, []), (9, []), (10, []), (11, []), (12, []), (13, [])]), (12, [(0, []), (1, []), (2, []), (3, []), (4, []), (5, []), (6, []), (7, []), (8, []), (9, []), (10, []), (11, []), (12, []), (13, [])])]
def sh174 (a0 a1 a2 a3 a4 : Value) (h : PH) (R : AEnd → PH → Prop) : Prop :=
  vCall Tryz.prog 57 #[a0, a1] h (fun t19 h_1 =>
  vExt t19 0 fun t20 =>
  vExt t19 1 fun t21 =>
  vBin Tryz.prog .neq 30 t21 (.int .i64 0) fun t23 =>
  dIf t23 (R (.ret t21) h_1)
  (vCall Tryz.prog 105 #[a0, a2, a3, a4] h_1 (fun t30 h_2 =>
  vExt t30 0 fun t31 =>
  vExt t30 1 fun t32 =>
  vBin Tryz.prog .neq 30 t32 (.int .i64 0) fun t34 =>
  dIf t34 (R (.ret t32) h_2)
  (vNil a0 fun t37 =>
  vFA 1 t37 fun t38 =>
  vLoad none t38 h_2 fun t39 =>
  vIxS 12 t39 a1 fun t41 =>
  vNil t41 fun t44 =>
  vFA 0 t44 fun t45 =>
  vFA 6 t45 fun t46 =>
  vIxA 4 1 t46 a3 fun t47 =>
  vLoad none t47 h_2 fun t48 =>
  vBin Tryz.prog .lss 3 t48 a4 fun t50 =>
  dIf t50 (R (.ret (.int .i64 61)) h_2)
  (vNil t41 fun t53 =>
  vFA 0 t53 fun t54 =>
  vFA 6 t54 fun t55 =>
  vIxA 4 1 t55 a3 fun t56 =>
  vLoad none t56 h_2 fun t57 =>
  vBin Tryz.prog .sub 3 t57 a4 fun t59 =>
  vNil t41 fun t60 =>
  vFA 0 t60 fun t61 =>
  vFA 6 t61 fun t62 =>
  vIxA 4 1 t62 a3 fun t63 =>
  vStore 1 t63 t59 h_2 fun h_3 =>
  vNil t41 fun t66 =>
  vFA 0 t66 fun t67 =>
  vFA 2 t67 fun t68 =>
  vIxA 4 1 t68 a3 fun t69 =>
  vLoad none t69 h_3 fun t70 =>
  vBin Tryz.prog .sub 3 t70 a4 fun t72 =>
  vNil t41 fun t73 =>
  vFA 0 t73 fun t74 =>
  vFA 2 t74 fun t75 =>
  vIxA 4 1 t75 a3 fun t76 =>
  vStore 1 t76 t72 h_3 fun h_4 =>
  vNil t31 fun t79 =>
  vFA 0 t79 fun t80 =>
  vFA 2 t80 fun t81 =>
  vIxA 4 1 t81 a3 fun t82 =>
  vLoad none t82 h_4 fun t83 =>
  vBin Tryz.prog .add 3 t83 a4 fun t85 =>
  vNil t31 fun t86 =>
  vFA 0 t86 fun t87 =>
  vFA 2 t87 fun t88 =>
  vIxA 4 1 t88 a3 fun t89 =>
  vStore 1 t89 t85 h_4 fun h_5 =>
  R (.ret (.int .i64 0)) h_5)))
  (fun c h => R (.pan c) h)))
  (fun c h => R (.pan c) h)
theorem l174 (R : AEnd → PH → Prop) : LoopsOK Tryz.prog qf (ordOf o174) (fun c h => R (.pan c) h) noLoops c174 := noLoops_ok (by kernel_rfl)
theorem e174 (a0 a1 a2 a3 a4 : Value) (h : PH) (R : AEnd → PH → Prop) : denF Tryz.prog qf (ordOf o174) noLoops Tryz.f174.results.toList c174 #[a0, a1, a2, a3, a4] h R = sh174 a0 a1 a2 a3 a4 h R := by kernel_rfl
theorem k174 : codeOK Tryz.prog qf Tryz.f174.ntmps (ordOf o174) c174 = true := by kernel_rfl
theorem s174 : Tryz.f174.body = some c174 := by kernel_rfl
theorem call174 {a0 a1 a2 a3 a4 : Value} {h : PH} {R : AEnd → PH → Prop} (H : sh174 a0 a1 a2 a3 a4 h R) : ACalls Tryz.prog 174 #[a0, a1, a2, a3, a4] h R :=
  ACalls_of_den mixed Tryz.func174 s174 (by kernel_rfl) k174 (l174 R) (of_den (e174 a0 a1 a2 a3 a4 h R) H)

/- (*gavel/ledger.Ledger).Move -/
noncomputable def c175 : Code := bodyOf Tryz.f175
def o175 : List (Nat × List (Nat × List Nat)) := []
def sh175 (a0 a1 a2 a3 : Value) (h : PH) (R : AEnd → PH → Prop) : Prop :=
  vCall Tryz.prog 57 #[a0, a1] h (fun t17 h_1 =>
  vExt t17 0 fun t18 =>
  vExt t17 1 fun t19 =>
  vBin Tryz.prog .neq 30 t19 (.int .i64 0) fun t21 =>
  dIf t21 (R (.ret t19) h_1)
  (vCall Tryz.prog 105 #[a0, a2, (.int .i64 0), a3] h_1 (fun t27 h_2 =>
  vExt t27 0 fun t28 =>
  vExt t27 1 fun t29 =>
  vBin Tryz.prog .neq 30 t29 (.int .i64 0) fun t31 =>
  dIf t31 (R (.ret t29) h_2)
  (vNil a0 fun t34 =>
  vFA 1 t34 fun t35 =>
  vLoad none t35 h_2 fun t36 =>
  vIxS 12 t36 a1 fun t38 =>
  vNil t38 fun t40 =>
  vFA 0 t40 fun t41 =>
  vFA 1 t41 fun t42 =>
  vLoad none t42 h_2 fun t43 =>
  vBin Tryz.prog .lss 3 t43 a3 fun t45 =>
  dIf t45 (R (.ret (.int .i64 61)) h_2)
  (vNil t38 fun t47 =>
  vFA 0 t47 fun t48 =>
  vFA 1 t48 fun t49 =>
  vLoad none t49 h_2 fun t50 =>
  vBin Tryz.prog .sub 3 t50 a3 fun t52 =>
  vNil t38 fun t53 =>
  vFA 0 t53 fun t54 =>
  vFA 1 t54 fun t55 =>
  vStore 1 t55 t52 h_2 fun h_3 =>
  vNil t38 fun t57 =>
  vFA 0 t57 fun t58 =>
  vFA 0 t58 fun t59 =>
  vLoad none t59 h_3 fun t60 =>
  vBin Tryz.prog .sub 3 t60 a3 fun t62 =>
  vNil t38 fun t63 =>
  vFA 0 t63 fun t64 =>
  vFA 0 t64 fun t65 =>
  vStore 1 t65 t62 h_3 fun h_4 =>
  vNil t28 fun t67 =>
  vFA 0 t67 fun t68 =>
  vFA 0 t68 fun t69 =>
  vLoad none t69 h_4 fun t70 =>
  vBin Tryz.prog .add 3 t70 a3 fun t72 =>
  vNil t28 fun t73 =>
  vFA 0 t73 fun t74 =>
  vFA 0 t74 fun t75 =>
  vStore 1 t75 t72 h_4 fun h_5 =>
  R (.ret (.int .i64 0)) h_5)))
  (fun c h => R (.pan c) h)))
  (fun c h => R (.pan c) h)
theorem l175 (R : AEnd → PH → Prop) : LoopsOK Tryz.prog qf (ordOf o175) (fun c h => R (.pan c) h) noLoops c175 := noLoops_ok (by kernel_rfl)
theorem e175 (a0 a1 a2 a3 : Value) (h : PH) (R : AEnd → PH → Prop) : denF Tryz.prog qf (ordOf o175) noLoops Tryz.f175.results.toList c175 #[a0, a1, a2, a3] h R = sh175 a0 a1 a2 a3 h R := by kernel_rfl
theorem k175 : codeOK Tryz.prog qf Tryz.f175.ntmps (ordOf o175) c175 = true := by kernel_rfl
theorem s175 : Tryz.f175.body = some c175 := by kernel_rfl
theorem call175 {a0 a1 a2 a3 : Value} {h : PH} {R : AEnd → PH → Prop} (H : sh175 a0 a1 a2 a3 h R) : ACalls Tryz.prog 175 #[a0, a1, a2, a3] h R :=
  ACalls_of_den mixed Tryz.func175 s175 (by kernel_rfl) k175 (l175 R) (of_den (e175 a0 a1 a2 a3 h R) H)

/- gavel/clock.Shares -/
noncomputable def c176 : Code := bodyOf Tryz.f176
def o176 : List (Nat × List (Nat × List Nat)) := []
def b176_3 (Kp : List PanicEntry → PH → Prop) (x0 : (Value × Value × Value × Value × Value) → PH → Prop) (xr : (Value × Value × Value × Value × Value) → PH → Prop) (f : Value × Value × Value × Value) (kn : (Value × Value × Value × Value) → (Value × Value × Value × Value) → PH → Prop) (s : Value × Value × Value × Value) (h : PH) : Prop :=
  vBin Tryz.prog .lss 3 s.2.2.2 f.2.2.2 fun t18 =>
  dIf t18 (vIxS 1 f.2.2.1 s.2.2.2 fun t19 =>
  vLoad none t19 h fun t20 =>
  vBin Tryz.prog .lss 3 t20 (.int .i64 0) fun t22 =>
  gq (boolOf t22) false (fun K =>
  K t20 h)
  (fun t24 h_1 =>
  gq (boolOf t22) false (fun K_1 =>
  vBin Tryz.prog .gtr 3 t24 (.int .i64 1048576) fun u =>
  K_1 u h_1)
  (fun t25 h_2 =>
  vPick t22 (.bool true) t25 fun t26 =>
  dIf t26 (xr (f.1, f.2.1, (.slice none 0 0), (.int .i64 1), s.2.2.1) h_2)
  (vBin Tryz.prog .add 3 s.2.2.1 t20 fun t29 =>
  vBin Tryz.prog .add 3 s.2.2.2 (.int .i64 1) fun t30 =>
  kn f (s.1, s.2.1, t29, t30) h_2)) h_1) h)
  (x0 (f.1, f.2.1, s.1, s.2.1, s.2.2.1) h)

def b176_14 (Kp : List PanicEntry → PH → Prop) (x2 : (Value × Value × Value) → PH → Prop) (f : Value × Value × Value × Value × Value × Value) (kn : (Value × Value × Value × Value × Value × Value) → (Value × Value) → PH → Prop) (s : Value × Value) (h : PH) : Prop :=
  vBin Tryz.prog .lss 3 s.2 f.2.2.2.2.2 fun t54 =>
  dIf t54 (vIxS 1 f.2.2.2.2.1 s.2 fun t56 =>
  vLoad none t56 h fun t57 =>
  vBin Tryz.prog .gtr 3 f.2.2.1 (.int .i64 0) fun t59 =>
  dIf t59 (vBin Tryz.prog .mul 3 f.1 t57 fun t64 =>
  vBin Tryz.prog .quo 3 t64 f.2.2.1 fun t66 =>
  vIxS 1 f.2.2.2.1 s.2 fun t67 =>
  vStore 1 t67 t66 h fun h_1 =>
  vIxS 1 f.2.2.2.1 s.2 fun t71 =>
  vLoad none t71 h_1 fun t72 =>
  vBin Tryz.prog .sub 3 s.1 t72 fun t73 =>
  vBin Tryz.prog .add 3 s.2 (.int .i64 1) fun t74 =>
  kn f (t73, t74) h_1)
  (vBin Tryz.prog .add 3 s.2 (.int .i64 1) fun t74_1 =>
  kn f (s.1, t74_1) h))
  (x2 (f.2.1, f.2.2.2.1, s.1) h)

def b176_21 (Kp : List PanicEntry → PH → Prop) (x4 : Value → PH → Prop) (f : Value × Value × Value) (kn : (Value × Value × Value) → (Value × Value) → PH → Prop) (s : Value × Value) (h : PH) : Prop :=
  vBin Tryz.prog .lss 3 s.2 f.2.2 fun t78 =>
  dIf t78 (vIxS 1 f.2.1 s.2 fun t80 =>
  vLoad none t80 h fun t81 =>
  vBin Tryz.prog .gtr 3 s.1 (.int .i64 0) fun t83 =>
  gq (boolOf t83) true (fun K =>
  K f.1 h)
  (fun t85 h_1 =>
  gq (boolOf t83) true (fun K_1 =>
  K_1 s.2 h_1)
  (fun t86 h_2 =>
  gq (boolOf t83) true (fun K_2 =>
  vIxS 1 t85 t86 fun u =>
  K_2 u h_2)
  (fun t87 h_3 =>
  gq (boolOf t83) true (fun K_3 =>
  vLoad none t87 h_3 fun u_1 =>
  K_3 u_1 h_3)
  (fun t88 h_4 =>
  gq (boolOf t83) true (fun K_4 =>
  K_4 t81 h_4)
  (fun t89 h_5 =>
  gq (boolOf t83) true (fun K_5 =>
  vBin Tryz.prog .lss 3 t88 t89 fun u_2 =>
  K_5 u_2 h_5)
  (fun t90 h_6 =>
  vPick t83 t90 (.bool false) fun t91 =>
  dIf t91 (vIxS 1 f.1 s.2 fun t94 =>
  vLoad none t94 h_6 fun t95 =>
  vBin Tryz.prog .add 3 t95 (.int .i64 1) fun t96 =>
  vIxS 1 f.1 s.2 fun t97 =>
  vStore 1 t97 t96 h_6 fun h_7 =>
  vBin Tryz.prog .sub 3 s.1 (.int .i64 1) fun t99 =>
  vBin Tryz.prog .add 3 s.2 (.int .i64 1) fun t100 =>
  kn f (t99, t100) h_7)
  (vBin Tryz.prog .add 3 s.2 (.int .i64 1) fun t100_1 =>
  kn f (s.1, t100_1) h_6)) h_5) h_4) h_3) h_2) h_1) h)
  (x4 f.1 h)

def sh176 (a0 a1 : Value) (h : PH) (R : AEnd → PH → Prop) : Prop :=
  vLenS a1 fun t16 =>
  lf (b176_3 (fun c h => R (.pan c) h) (fun v h => exq (fun ρ => (ρ 0, ρ 1, ρ 4, ρ 5, ρ 6)) v (fun r h_1 =>
  vLenS (r 1) fun t32 =>
  vBin Tryz.prog .gtr 3 t32 (.int .i64 16) fun t33 =>
  gq (boolOf t33) false (fun K =>
  K (r 0) h_1)
  (fun t35 h_2 =>
  gq (boolOf t33) false (fun K_1 =>
  vBin Tryz.prog .lss 3 t35 (.int .i64 0) fun u =>
  K_1 u h_2)
  (fun t36 h_3 =>
  vPick t33 (.bool true) t36 fun t37 =>
  gq (boolOf t37) false (fun K_2 =>
  K_2 (r 0) h_3)
  (fun t39 h_4 =>
  gq (boolOf t37) false (fun K_3 =>
  vBin Tryz.prog .gtr 3 t39 (.int .i64 1048576) fun u_1 =>
  K_3 u_1 h_4)
  (fun t40 h_5 =>
  vPick t37 (.bool true) t40 fun t41 =>
  gq (boolOf t41) false (fun K_4 =>
  K_4 (r 0) h_5)
  (fun t43 h_6 =>
  gq (boolOf t41) false (fun K_5 =>
  K_5 (r 6) h_6)
  (fun t44 h_7 =>
  gq (boolOf t41) false (fun K_6 =>
  vBin Tryz.prog .gtr 3 t43 t44 fun u_2 =>
  K_6 u_2 h_7)
  (fun t45 h_8 =>
  vPick t41 (.bool true) t45 fun t46 =>
  dIf t46 (R (.ret (.tuple #[(.slice none 0 0), (.int .i64 1)])) h_8)
  (vLenS (r 1) fun t48 =>
  vMakeS 3 1 8 #[.int .i64 0] t48 t48 h_8 fun t49 h_9 =>
  vLenS (r 1) fun t52 =>
  lf (b176_14 (fun c h => R (.pan c) h) (fun v h => exq (fun ρ => (ρ 1, ρ 9, ρ 10)) v (fun r_1 h_10 =>
  vLenS (r_1 1) fun t76 =>
  lf (b176_21 (fun c h => R (.pan c) h) (fun v h => exq (fun ρ => ρ 9) v (fun r_2 h_11 =>
  R (.ret (.tuple #[(r_2 9), (.int .i64 0)])) h_11) h)) ((r_1 9), (r_1 1), t76) ((r_1 10), (.int .i64 0)) h_10) h)) ((r 0), (r 1), (r 6), t49, (r 1), t52) ((r 0), (.int .i64 0)) h_9)) h_7) h_6) h_5) h_4) h_3) h_2) h_1) h) (fun v h => exq (fun ρ => (ρ 0, ρ 1, ρ 4, ρ 5, ρ 6)) v (fun r h_12 =>
  R (.ret (.tuple #[(r 4), (r 5)])) h_12) h)) (a0, a1, a1, t16) ((.slice none 0 0), (.int .i64 0), (.int .i64 0), (.int .i64 0)) h
def L176 (Kp : List PanicEntry → PH → Prop) : Loops := fun c Q ρ h =>
    sel (Nat.beq (loopId c) 3) (lf (b176_3 Kp (fun v h => exq (fun ρ => (ρ 0, ρ 1, ρ 4, ρ 5, ρ 6)) v (Q (.exit 0)) h) (fun v h => exq (fun ρ => (ρ 0, ρ 1, ρ 4, ρ 5, ρ 6)) v (Q .ret) h)) ((fun ρ => (ρ 0, ρ 1, ρ 15, ρ 16)) ρ) ((fun ρ => (ρ 4, ρ 5, ρ 6, ρ 17)) ρ) h)
    (sel (Nat.beq (loopId c) 14) (lf (b176_14 Kp (fun v h => exq (fun ρ => (ρ 1, ρ 9, ρ 10)) v (Q (.exit 2)) h)) ((fun ρ => (ρ 0, ρ 1, ρ 6, ρ 9, ρ 51, ρ 52)) ρ) ((fun ρ => (ρ 10, ρ 53)) ρ) h)
    (sel (Nat.beq (loopId c) 21) (lf (b176_21 Kp (fun v h => exq (fun ρ => ρ 9) v (Q (.exit 4)) h)) ((fun ρ => (ρ 9, ρ 75, ρ 76)) ρ) ((fun ρ => (ρ 10, ρ 77)) ρ) h)
    (False)))
theorem B176_3 (Kp : List PanicEntry → PH → Prop) (KN : (Value × Value × Value × Value) → (Value × Value × Value × Value) → PH → Prop) (XX : Exit → (Value × Value × Value × Value × Value) → PH → Prop) (ρ : Env) (h : PH) :
    den Tryz.prog qf (ordOf o176) Kp (L176 Kp) (loopAt c176 0) (lq KN XX (fun ρ => (ρ 0, ρ 1, ρ 15, ρ 16)) (fun ρ => (ρ 4, ρ 5, ρ 6, ρ 17)) (fun ρ => (ρ 0, ρ 1, ρ 4, ρ 5, ρ 6))) ρ h = b176_3 Kp (XX (.exit 0)) (XX .ret) ((fun ρ => (ρ 0, ρ 1, ρ 15, ρ 16)) ρ) KN ((fun ρ => (ρ 4, ρ 5, ρ 6, ρ 17)) ρ) h := by kernel_rfl
theorem B176_14 (Kp : List PanicEntry → PH → Prop) (KN : (Value × Value × Value × Value × Value × Value) → (Value × Value) → PH → Prop) (XX : Exit → (Value × Value × Value) → PH → Prop) (ρ : Env) (h : PH) :
    den Tryz.prog qf (ordOf o176) Kp (L176 Kp) (loopAt c176 1) (lq KN XX (fun ρ => (ρ 0, ρ 1, ρ 6, ρ 9, ρ 51, ρ 52)) (fun ρ => (ρ 10, ρ 53)) (fun ρ => (ρ 1, ρ 9, ρ 10))) ρ h = b176_14 Kp (XX (.exit 2)) ((fun ρ => (ρ 0, ρ 1, ρ 6, ρ 9, ρ 51, ρ 52)) ρ) KN ((fun ρ => (ρ 10, ρ 53)) ρ) h := by kernel_rfl
theorem B176_21 (Kp : List PanicEntry → PH → Prop) (KN : (Value × Value × Value) → (Value × Value) → PH → Prop) (XX : Exit → (Value) → PH → Prop) (ρ : Env) (h : PH) :
    den Tryz.prog qf (ordOf o176) Kp (L176 Kp) (loopAt c176 2) (lq KN XX (fun ρ => (ρ 9, ρ 75, ρ 76)) (fun ρ => (ρ 10, ρ 77)) (fun ρ => ρ 9)) ρ h = b176_21 Kp (XX (.exit 4)) ((fun ρ => (ρ 9, ρ 75, ρ 76)) ρ) KN ((fun ρ => (ρ 10, ρ 77)) ρ) h := by kernel_rfl
theorem l176 (R : AEnd → PH → Prop) : LoopsOK Tryz.prog qf (ordOf o176) (fun c h => R (.pan c) h) (L176 (fun c h => R (.pan c) h)) c176 :=
  LoopsOK.mk 3 (by kernel_rfl) fun i hi Q ρ h H => match i, hi with
    | 0, _ => loop_gen (F := Value × Value × Value × Value) (S := Value × Value × Value × Value) (X := Value × Value × Value × Value × Value) (φ := (fun ρ => (ρ 0, ρ 1, ρ 15, ρ 16))) (π := (fun ρ => (ρ 4, ρ 5, ρ 6, ρ 17))) (ξ := (fun ρ => (ρ 0, ρ 1, ρ 4, ρ 5, ρ 6))) (B := (fun (XX : Exit → (Value × Value × Value × Value × Value) → PH → Prop) => b176_3 (fun c h => R (.pan c) h) (XX (.exit 0)) (XX .ret))) (B176_3 _) (of_den (by kernel_rfl) H)
    | 1, _ => loop_gen (F := Value × Value × Value × Value × Value × Value) (S := Value × Value) (X := Value × Value × Value) (φ := (fun ρ => (ρ 0, ρ 1, ρ 6, ρ 9, ρ 51, ρ 52))) (π := (fun ρ => (ρ 10, ρ 53))) (ξ := (fun ρ => (ρ 1, ρ 9, ρ 10))) (B := (fun (XX : Exit → (Value × Value × Value) → PH → Prop) => b176_14 (fun c h => R (.pan c) h) (XX (.exit 2)))) (B176_14 _) (of_den (by kernel_rfl) H)
    | 2, _ => loop_gen (F := Value × Value × Value) (S := Value × Value) (X := Value) (φ := (fun ρ => (ρ 9, ρ 75, ρ 76))) (π := (fun ρ => (ρ 10, ρ 77))) (ξ := (fun ρ => ρ 9)) (B := (fun (XX : Exit → (Value) → PH → Prop) => b176_21 (fun c h => R (.pan c) h) (XX (.exit 4)))) (B176_21 _) (of_den (by kernel_rfl) H)
    | n + 3, hi => absurd hi (by omega)
theorem e176 (a0 a1 : Value) (h : PH) (R : AEnd → PH → Prop) : denF Tryz.prog qf (ordOf o176) (L176 (fun c h => R (.pan c) h)) Tryz.f176.results.toList c176 #[a0, a1] h R = sh176 a0 a1 h R := by kernel_rfl
theorem k176 : codeOK Tryz.prog qf Tryz.f176.ntmps (ordOf o176) c176 = true := by kernel_rfl
theorem s176 : Tryz.f176.body = some c176 := by kernel_rfl
theorem call176 {a0 a1 : Value} {h : PH} {R : AEnd → PH → Prop} (H : sh176 a0 a1 h R) : ACalls Tryz.prog 176 #[a0, a1] h R :=
  ACalls_of_den mixed Tryz.func176 s176 (by kernel_rfl) k176 (l176 R) (of_den (e176 a0 a1 h R) H)

/- math.Abs -/
noncomputable def c177 : Code := bodyOf Tryz.f177
def o177 : List (Nat × List (Nat × List Nat)) := []
def sh177 (a0 : Value) (h : PH) (R : AEnd → PH → Prop) : Prop :=
  vLib Tryz.prog 78 #[a0] h fun t4 h_1 =>
  vBin Tryz.prog .andNot 102 t4 (.int .u64 9223372036854775808) fun t5 =>
  vLib Tryz.prog 42 #[t5] h_1 fun t6 h_2 =>
  R (.ret t6) h_2
theorem l177 (R : AEnd → PH → Prop) : LoopsOK Tryz.prog qf (ordOf o177) (fun c h => R (.pan c) h) noLoops c177 := noLoops_ok (by kernel_rfl)
theorem e177 (a0 : Value) (h : PH) (R : AEnd → PH → Prop) : denF Tryz.prog qf (ordOf o177) noLoops Tryz.f177.results.toList c177 #[a0] h R = sh177 a0 h R := by kernel_rfl
theorem k177 : codeOK Tryz.prog qf Tryz.f177.ntmps (ordOf o177) c177 = true := by kernel_rfl
theorem s177 : Tryz.f177.body = some c177 := by kernel_rfl
theorem call177 {a0 : Value} {h : PH} {R : AEnd → PH → Prop} (H : sh177 a0 h R) : ACalls Tryz.prog 177 #[a0] h R :=
  ACalls_of_den mixed Tryz.func177 s177 (by kernel_rfl) k177 (l177 R) (of_den (e177 a0 h R) H)

/- math.trunc -/
end Go.Pw
/- The functions of the program, told as predicate transformers: printed by wip/tools/shprint.py; each is what the model makes of the function, by the kernel's reckoning. -/
set_option linter.unusedVariables false
set_option maxRecDepth 100000
namespace Go.Pw
open Go Go.Proofs
/- gavel/gavelref08.Cross -/
/- gavel/gavelref08.Fills -/
/- gavel/gavelref07.Sum -/
/- gavel/gavelref07.Shares -/
/- gavel/call.rights -/
noncomputable def c184 : Code := bodyOf Tryz.f184
def o184 : List (Nat × List (Nat × List Nat)) := []
def sh184 (a0 : Value) (h : PH) (R : AEnd → PH → Prop) : Prop :=
  vLenS a0 fun t4 =>
  vBin Tryz.prog .gtr 3 t4 (.int .i64 64) fun t5 =>
  dIf t5 (R (.ret (.slice none 0 0)) h)
  (vCall Tryz.prog 91 #[a0] h (fun t7 h_1 =>
  vCall Tryz.prog 172 #[t7, (.func (.func 190) #[] #[])] h_1 (fun t8 h_2 =>
  R (.ret t8) h_2)
  (fun c h => R (.pan c) h))
  (fun c h => R (.pan c) h))
theorem l184 (R : AEnd → PH → Prop) : LoopsOK Tryz.prog qf (ordOf o184) (fun c h => R (.pan c) h) noLoops c184 := noLoops_ok (by kernel_rfl)
theorem e184 (a0 : Value) (h : PH) (R : AEnd → PH → Prop) : denF Tryz.prog qf (ordOf o184) noLoops Tryz.f184.results.toList c184 #[a0] h R = sh184 a0 h R := by kernel_rfl
theorem k184 : codeOK Tryz.prog qf Tryz.f184.ntmps (ordOf o184) c184 = true := by kernel_rfl
theorem s184 : Tryz.f184.body = some c184 := by kernel_rfl
theorem call184 {a0 : Value} {h : PH} {R : AEnd → PH → Prop} (H : sh184 a0 h R) : ACalls Tryz.prog 184 #[a0] h R :=
  ACalls_of_den mixed Tryz.func184 s184 (by kernel_rfl) k184 (l184 R) (of_den (e184 a0 h R) H)

/- slices.SortStableFunc[[]gavel/api.Order,gavel/api.Order] -/
noncomputable def c185 : Code := bodyOf Tryz.f185
def o185 : List (Nat × List (Nat × List Nat)) := []
def sh185 (a0 a1 : Value) (h : PH) (R : AEnd → PH → Prop) : Prop :=
  vLenS a0 fun t6 =>
  vCall Tryz.prog 191 #[a0, t6, a1] h (fun t8 h_1 =>
  R (.ret (.tuple #[])) h_1)
  (fun c h => R (.pan c) h)
theorem l185 (R : AEnd → PH → Prop) : LoopsOK Tryz.prog qf (ordOf o185) (fun c h => R (.pan c) h) noLoops c185 := noLoops_ok (by kernel_rfl)
theorem e185 (a0 a1 : Value) (h : PH) (R : AEnd → PH → Prop) : denF Tryz.prog qf (ordOf o185) noLoops Tryz.f185.results.toList c185 #[a0, a1] h R = sh185 a0 a1 h R := by kernel_rfl
theorem k185 : codeOK Tryz.prog qf Tryz.f185.ntmps (ordOf o185) c185 = true := by kernel_rfl
theorem s185 : Tryz.f185.body = some c185 := by kernel_rfl
theorem call185 {a0 a1 : Value} {h : PH} {R : AEnd → PH → Prop} (H : sh185 a0 a1 h R) : ACalls Tryz.prog 185 #[a0, a1] h R :=
  ACalls_of_den mixed Tryz.func185 s185 (by kernel_rfl) k185 (l185 R) (of_den (e185 a0 a1 h R) H)

/- gavel/call.ahead -/
noncomputable def c186 : Code := bodyOf Tryz.f186
def o186 : List (Nat × List (Nat × List Nat)) := []
def sh186 (a0 a1 : Value) (h : PH) (R : AEnd → PH → Prop) : Prop :=
  vNew (Value.cells a0) 78 h fun t2 h_1 =>
  vNew (Value.cells a1) 78 h_1 fun t3 h_2 =>
  vFA 2 t2 fun t6 =>
  vLoad none t6 h_2 fun t7 =>
  vFA 2 t3 fun t8 =>
  vLoad none t8 h_2 fun t9 =>
  vCall Tryz.prog 192 #[t7, t9] h_2 (fun t10 h_3 =>
  vFA 5 t2 fun t11 =>
  vLoad none t11 h_3 fun t12 =>
  dIf t12 (vUn Tryz.prog .neg t10 fun t14 =>
  vFA 4 t2 fun t16 =>
  vLoad none t16 h_3 fun t17 =>
  vFA 4 t3 fun t18 =>
  vLoad none t18 h_3 fun t19 =>
  vCall Tryz.prog 192 #[t17, t19] h_3 (fun t20 h_4 =>
  (2 * 1 ≤ 2 ^ 24) ∧ vBuildS 3 1 2 #[.int .i64 0] [(0, t14), (1, t20)] h_4 fun t21 h_5 =>
  vCall Tryz.prog 193 #[t21] h_5 (fun t22 h_6 =>
  R (.ret t22) h_6)
  (fun c h => R (.pan c) h))
  (fun c h => R (.pan c) h))
  (vFA 4 t2 fun t16_1 =>
  vLoad none t16_1 h_3 fun t17_1 =>
  vFA 4 t3 fun t18_1 =>
  vLoad none t18_1 h_3 fun t19_1 =>
  vCall Tryz.prog 192 #[t17_1, t19_1] h_3 (fun t20_1 h_7 =>
  (2 * 1 ≤ 2 ^ 24) ∧ vBuildS 3 1 2 #[.int .i64 0] [(0, t10), (1, t20_1)] h_7 fun t21_1 h_8 =>
  vCall Tryz.prog 193 #[t21_1] h_8 (fun t22_1 h_9 =>
  R (.ret t22_1) h_9)
  (fun c h => R (.pan c) h))
  (fun c h => R (.pan c) h)))
  (fun c h => R (.pan c) h)
theorem l186 (R : AEnd → PH → Prop) : LoopsOK Tryz.prog qf (ordOf o186) (fun c h => R (.pan c) h) noLoops c186 := noLoops_ok (by kernel_rfl)
theorem e186 (a0 a1 : Value) (h : PH) (R : AEnd → PH → Prop) : denF Tryz.prog qf (ordOf o186) noLoops Tryz.f186.results.toList c186 #[a0, a1] h R = sh186 a0 a1 h R := by kernel_rfl
theorem k186 : codeOK Tryz.prog qf Tryz.f186.ntmps (ordOf o186) c186 = true := by kernel_rfl
theorem s186 : Tryz.f186.body = some c186 := by kernel_rfl
theorem call186 {a0 a1 : Value} {h : PH} {R : AEnd → PH → Prop} (H : sh186 a0 a1 h R) : ACalls Tryz.prog 186 #[a0, a1] h R :=
  ACalls_of_den mixed Tryz.func186 s186 (by kernel_rfl) k186 (l186 R) (of_den (e186 a0 a1 h R) H)

/- math.Copysign -/
/- gavel/gavelref08.Traded -/
/- gavel/gavelref08.before -/
/- gavel/call.rights$1 -/
noncomputable def c190 : Code := bodyOf Tryz.f190
def o190 : List (Nat × List (Nat × List Nat)) := []
def sh190 (a0 : Value) (h : PH) (R : AEnd → PH → Prop) : Prop :=
  vNew (Value.cells a0) 78 h fun t1 h_1 =>
  vLoad (some 6) t1 h_1 fun t3 =>
  vCall Tryz.prog 93 #[t3] h_1 (fun t4 h_2 =>
  vUn Tryz.prog .not t4 fun t5 =>
  R (.ret t5) h_2)
  (fun c h => R (.pan c) h)
theorem l190 (R : AEnd → PH → Prop) : LoopsOK Tryz.prog qf (ordOf o190) (fun c h => R (.pan c) h) noLoops c190 := noLoops_ok (by kernel_rfl)
theorem e190 (a0 : Value) (h : PH) (R : AEnd → PH → Prop) : denF Tryz.prog qf (ordOf o190) noLoops Tryz.f190.results.toList c190 #[a0] h R = sh190 a0 h R := by kernel_rfl
theorem k190 : codeOK Tryz.prog qf Tryz.f190.ntmps (ordOf o190) c190 = true := by kernel_rfl
theorem s190 : Tryz.f190.body = some c190 := by kernel_rfl
theorem call190 {a0 : Value} {h : PH} {R : AEnd → PH → Prop} (H : sh190 a0 h R) : ACalls Tryz.prog 190 #[a0] h R :=
  ACalls_of_den mixed Tryz.func190 s190 (by kernel_rfl) k190 (l190 R) (of_den (e190 a0 h R) H)

/- slices.stableCmpFunc[gavel/api.Order] -/
noncomputable def c191 : Code := bodyOf Tryz.f191
def o191 : List (Nat × List (Nat × List Nat)) := []
def b191_2 (Kp : List PanicEntry → PH → Prop) (x0 : (Value × Value × Value × Value × Value) → PH → Prop) (f : Value × Value × Value × Value) (kn : (Value × Value × Value × Value) → (Value × Value) → PH → Prop) (s : Value × Value) (h : PH) : Prop :=
  vBin Tryz.prog .leq 3 s.2 f.2.1 fun t13 =>
  dIf t13 (vCall Tryz.prog 194 #[f.1, s.1, s.2, f.2.2.1] h (fun t18 h_1 =>
  vBin Tryz.prog .add 3 s.2 f.2.2.2 fun t22 =>
  kn f (s.2, t22) h_1)
  Kp)
  (x0 (f.1, f.2.1, f.2.2.1, f.2.2.2, s.1) h)

def b191_9 (Kp : List PanicEntry → PH → Prop) (x4 : (Value × Value × Value × Value × Value) → PH → Prop) (f : Value × Value × Value × Value) (kn : (Value × Value × Value × Value) → (Value × Value) → PH → Prop) (s : Value × Value) (h : PH) : Prop :=
  vBin Tryz.prog .leq 3 s.2 f.2.1 fun t35 =>
  dIf t35 (vBin Tryz.prog .add 3 s.1 f.2.2.2 fun t40 =>
  vCall Tryz.prog 195 #[f.1, s.1, t40, s.2, f.2.2.1] h (fun t43 h_1 =>
  vBin Tryz.prog .mul 3 (.int .i64 2) f.2.2.2 fun t47 =>
  vBin Tryz.prog .add 3 s.2 t47 fun t48 =>
  kn f (s.2, t48) h_1)
  Kp)
  (x4 (f.1, f.2.1, f.2.2.1, f.2.2.2, s.1) h)

def b191_7 (Kp : List PanicEntry → PH → Prop) (x2 : Unit → PH → Prop) (f : Value × Value × Value) (kn : (Value × Value × Value) → Value → PH → Prop) (s : Value) (h : PH) : Prop :=
  vBin Tryz.prog .lss 3 s f.2.1 fun t30 =>
  dIf t30 (vBin Tryz.prog .mul 3 (.int .i64 2) s fun t32 =>
  lf (b191_9 Kp (fun v h => exq (fun ρ => (ρ 0, ρ 1, ρ 2, ρ 6, ρ 7)) v (fun r h_1 =>
  vBin Tryz.prog .add 3 (r 7) (r 6) fun t51 =>
  vBin Tryz.prog .lss 3 t51 (r 1) fun t54 =>
  dIf t54 (vCall Tryz.prog 195 #[(r 0), (r 7), t51, (r 1), (r 2)] h_1 (fun t60 h_2 =>
  vBin Tryz.prog .mul 3 (r 6) (.int .i64 2) fun t62 =>
  kn ((r 0), (r 1), (r 2)) t62 h_2)
  Kp)
  (vBin Tryz.prog .mul 3 (r 6) (.int .i64 2) fun t62_1 =>
  kn ((r 0), (r 1), (r 2)) t62_1 h_1)) h)) (f.1, f.2.1, f.2.2, s) ((.int .i64 0), t32) h)
  (x2 () h)

def sh191 (a0 a1 a2 : Value) (h : PH) (R : AEnd → PH → Prop) : Prop :=
  lf (b191_2 (fun c h => R (.pan c) h) (fun v h => exq (fun ρ => (ρ 0, ρ 1, ρ 2, ρ 6, ρ 7)) v (fun r h_1 =>
  vCall Tryz.prog 194 #[(r 0), (r 7), (r 1), (r 2)] h_1 (fun t27 h_2 =>
  lf (b191_7 (fun c h => R (.pan c) h) (fun v h => exq (fun ρ => ()) v (fun r_1 h_3 =>
  R (.ret (.tuple #[])) h_3) h)) ((r 0), (r 1), (r 2)) (r 6) h_2)
  (fun c h => R (.pan c) h)) h)) (a0, a1, a2, (.int .i64 20)) ((.int .i64 0), (.int .i64 20)) h
def L191 (Kp : List PanicEntry → PH → Prop) : Loops := fun c Q ρ h =>
    sel (Nat.beq (loopId c) 2) (lf (b191_2 Kp (fun v h => exq (fun ρ => (ρ 0, ρ 1, ρ 2, ρ 6, ρ 7)) v (Q (.exit 0)) h)) ((fun ρ => (ρ 0, ρ 1, ρ 2, ρ 6)) ρ) ((fun ρ => (ρ 7, ρ 8)) ρ) h)
    (sel (Nat.beq (loopId c) 7) (lf (b191_7 Kp (fun v h => exq (fun ρ => ()) v (Q (.exit 2)) h)) ((fun ρ => (ρ 0, ρ 1, ρ 2)) ρ) ((fun ρ => ρ 6) ρ) h)
    (sel (Nat.beq (loopId c) 9) (lf (b191_9 Kp (fun v h => exq (fun ρ => (ρ 0, ρ 1, ρ 2, ρ 6, ρ 7)) v (Q (.exit 4)) h)) ((fun ρ => (ρ 0, ρ 1, ρ 2, ρ 6)) ρ) ((fun ρ => (ρ 7, ρ 8)) ρ) h)
    (False)))
theorem B191_2 (Kp : List PanicEntry → PH → Prop) (KN : (Value × Value × Value × Value) → (Value × Value) → PH → Prop) (XX : Exit → (Value × Value × Value × Value × Value) → PH → Prop) (ρ : Env) (h : PH) :
    den Tryz.prog qf (ordOf o191) Kp (L191 Kp) (loopAt c191 0) (lq KN XX (fun ρ => (ρ 0, ρ 1, ρ 2, ρ 6)) (fun ρ => (ρ 7, ρ 8)) (fun ρ => (ρ 0, ρ 1, ρ 2, ρ 6, ρ 7))) ρ h = b191_2 Kp (XX (.exit 0)) ((fun ρ => (ρ 0, ρ 1, ρ 2, ρ 6)) ρ) KN ((fun ρ => (ρ 7, ρ 8)) ρ) h := by kernel_rfl
theorem B191_7 (Kp : List PanicEntry → PH → Prop) (KN : (Value × Value × Value) → (Value) → PH → Prop) (XX : Exit → (Unit) → PH → Prop) (ρ : Env) (h : PH) :
    den Tryz.prog qf (ordOf o191) Kp (L191 Kp) (loopAt c191 1) (lq KN XX (fun ρ => (ρ 0, ρ 1, ρ 2)) (fun ρ => ρ 6) (fun ρ => ())) ρ h = b191_7 Kp (XX (.exit 2)) ((fun ρ => (ρ 0, ρ 1, ρ 2)) ρ) KN ((fun ρ => ρ 6) ρ) h := by kernel_rfl
theorem B191_9 (Kp : List PanicEntry → PH → Prop) (KN : (Value × Value × Value × Value) → (Value × Value) → PH → Prop) (XX : Exit → (Value × Value × Value × Value × Value) → PH → Prop) (ρ : Env) (h : PH) :
    den Tryz.prog qf (ordOf o191) Kp (L191 Kp) (loopAt c191 2) (lq KN XX (fun ρ => (ρ 0, ρ 1, ρ 2, ρ 6)) (fun ρ => (ρ 7, ρ 8)) (fun ρ => (ρ 0, ρ 1, ρ 2, ρ 6, ρ 7))) ρ h = b191_9 Kp (XX (.exit 4)) ((fun ρ => (ρ 0, ρ 1, ρ 2, ρ 6)) ρ) KN ((fun ρ => (ρ 7, ρ 8)) ρ) h := by kernel_rfl
theorem l191 (R : AEnd → PH → Prop) : LoopsOK Tryz.prog qf (ordOf o191) (fun c h => R (.pan c) h) (L191 (fun c h => R (.pan c) h)) c191 :=
  LoopsOK.mk 3 (by kernel_rfl) fun i hi Q ρ h H => match i, hi with
    | 0, _ => loop_gen (F := Value × Value × Value × Value) (S := Value × Value) (X := Value × Value × Value × Value × Value) (φ := (fun ρ => (ρ 0, ρ 1, ρ 2, ρ 6))) (π := (fun ρ => (ρ 7, ρ 8))) (ξ := (fun ρ => (ρ 0, ρ 1, ρ 2, ρ 6, ρ 7))) (B := (fun (XX : Exit → (Value × Value × Value × Value × Value) → PH → Prop) => b191_2 (fun c h => R (.pan c) h) (XX (.exit 0)))) (B191_2 _) (of_den (by kernel_rfl) H)
    | 1, _ => loop_gen (F := Value × Value × Value) (S := Value) (X := Unit) (φ := (fun ρ => (ρ 0, ρ 1, ρ 2))) (π := (fun ρ => ρ 6)) (ξ := (fun ρ => ())) (B := (fun (XX : Exit → (Unit) → PH → Prop) => b191_7 (fun c h => R (.pan c) h) (XX (.exit 2)))) (B191_7 _) (of_den (by kernel_rfl) H)
    | 2, _ => loop_gen (F := Value × Value × Value × Value) (S := Value × Value) (X := Value × Value × Value × Value × Value) (φ := (fun ρ => (ρ 0, ρ 1, ρ 2, ρ 6))) (π := (fun ρ => (ρ 7, ρ 8))) (ξ := (fun ρ => (ρ 0, ρ 1, ρ 2, ρ 6, ρ 7))) (B := (fun (XX : Exit → (Value × Value × Value × Value × Value) → PH → Prop) => b191_9 (fun c h => R (.pan c) h) (XX (.exit 4)))) (B191_9 _) (of_den (by kernel_rfl) H)
    | n + 3, hi => absurd hi (by omega)
theorem e191 (a0 a1 a2 : Value) (h : PH) (R : AEnd → PH → Prop) : denF Tryz.prog qf (ordOf o191) (L191 (fun c h => R (.pan c) h)) Tryz.f191.results.toList c191 #[a0, a1, a2] h R = sh191 a0 a1 a2 h R := by kernel_rfl
theorem k191 : codeOK Tryz.prog qf Tryz.f191.ntmps (ordOf o191) c191 = true := by kernel_rfl
theorem s191 : Tryz.f191.body = some c191 := by kernel_rfl
theorem call191 {a0 a1 a2 : Value} {h : PH} {R : AEnd → PH → Prop} (H : sh191 a0 a1 a2 h R) : ACalls Tryz.prog 191 #[a0, a1, a2] h R :=
  ACalls_of_den mixed Tryz.func191 s191 (by kernel_rfl) k191 (l191 R) (of_den (e191 a0 a1 a2 h R) H)

end Go.Pw
/- The functions of the program, told as predicate transformers: printed by wip/tools/shprint.py; each is what the model makes of the function, by the kernel's reckoning. -/
set_option linter.unusedVariables false
set_option maxRecDepth 100000
namespace Go.Pw
open Go Go.Proofs
/- cmp.Compare[int] -/
noncomputable def c192 : Code := bodyOf Tryz.f192
def o192 : List (Nat × List (Nat × List Nat)) := []
def sh192 (a0 a1 : Value) (h : PH) (R : AEnd → PH → Prop) : Prop :=
  vCall Tryz.prog 196 #[a0] h (fun t8 h_1 =>
  vCall Tryz.prog 196 #[a1] h_1 (fun t10 h_2 =>
  dIf t8 (dIf t10 (R (.ret (.int .i64 0)) h_2)
  (R (.ret (.int .i64 (-1))) h_2))
  (dIf t10 (R (.ret (.int .i64 1)) h_2)
  (vBin Tryz.prog .lss 3 a0 a1 fun t16 =>
  dIf t16 (R (.ret (.int .i64 (-1))) h_2)
  (vBin Tryz.prog .gtr 3 a0 a1 fun t19 =>
  dIf t19 (R (.ret (.int .i64 1)) h_2)
  (R (.ret (.int .i64 0)) h_2)))))
  (fun c h => R (.pan c) h))
  (fun c h => R (.pan c) h)
theorem l192 (R : AEnd → PH → Prop) : LoopsOK Tryz.prog qf (ordOf o192) (fun c h => R (.pan c) h) noLoops c192 := noLoops_ok (by kernel_rfl)
theorem e192 (a0 a1 : Value) (h : PH) (R : AEnd → PH → Prop) : denF Tryz.prog qf (ordOf o192) noLoops Tryz.f192.results.toList c192 #[a0, a1] h R = sh192 a0 a1 h R := by kernel_rfl
theorem k192 : codeOK Tryz.prog qf Tryz.f192.ntmps (ordOf o192) c192 = true := by kernel_rfl
theorem s192 : Tryz.f192.body = some c192 := by kernel_rfl
theorem call192 {a0 a1 : Value} {h : PH} {R : AEnd → PH → Prop} (H : sh192 a0 a1 h R) : ACalls Tryz.prog 192 #[a0, a1] h R :=
  ACalls_of_den mixed Tryz.func192 s192 (by kernel_rfl) k192 (l192 R) (of_den (e192 a0 a1 h R) H)

/- cmp.Or[int] -/
noncomputable def c193 : Code := bodyOf Tryz.f193
def o193 : List (Nat × List (Nat × List Nat)) := []
def b193_3 (Kp : List PanicEntry → PH → Prop) (x0 : (Value × Value) → PH → Prop) (xr : (Value × Value) → PH → Prop) (f : Value × Value × Value) (kn : (Value × Value × Value) → (Value × Value) → PH → Prop) (s : Value × Value) (h : PH) : Prop :=
  vBin Tryz.prog .lss 3 s.2 f.2.2 fun t9 =>
  dIf t9 (vIxS 1 f.2.1 s.2 fun t10 =>
  vLoad none t10 h fun t11 =>
  vBin Tryz.prog .neq 3 t11 f.1 fun t14 =>
  dIf t14 (xr (t11, f.1) h)
  (vBin Tryz.prog .add 3 s.2 (.int .i64 1) fun t16 =>
  kn f (s.1, t16) h))
  (x0 (s.1, f.1) h)

def sh193 (a0 : Value) (h : PH) (R : AEnd → PH → Prop) : Prop :=
  vLenS a0 fun t7 =>
  lf (b193_3 (fun c h => R (.pan c) h) (fun v h => exq (fun ρ => (ρ 2, ρ 3)) v (fun r h_1 =>
  R (.ret (r 3)) h_1) h) (fun v h => exq (fun ρ => (ρ 2, ρ 3)) v (fun r h_2 =>
  R (.ret (r 2)) h_2) h)) ((.int .i64 0), a0, t7) ((.int .i64 0), (.int .i64 0)) h
def L193 (Kp : List PanicEntry → PH → Prop) : Loops := fun c Q ρ h =>
    sel (Nat.beq (loopId c) 3) (lf (b193_3 Kp (fun v h => exq (fun ρ => (ρ 2, ρ 3)) v (Q (.exit 0)) h) (fun v h => exq (fun ρ => (ρ 2, ρ 3)) v (Q .ret) h)) ((fun ρ => (ρ 3, ρ 6, ρ 7)) ρ) ((fun ρ => (ρ 2, ρ 8)) ρ) h)
    (False)
theorem B193_3 (Kp : List PanicEntry → PH → Prop) (KN : (Value × Value × Value) → (Value × Value) → PH → Prop) (XX : Exit → (Value × Value) → PH → Prop) (ρ : Env) (h : PH) :
    den Tryz.prog qf (ordOf o193) Kp (L193 Kp) (loopAt c193 0) (lq KN XX (fun ρ => (ρ 3, ρ 6, ρ 7)) (fun ρ => (ρ 2, ρ 8)) (fun ρ => (ρ 2, ρ 3))) ρ h = b193_3 Kp (XX (.exit 0)) (XX .ret) ((fun ρ => (ρ 3, ρ 6, ρ 7)) ρ) KN ((fun ρ => (ρ 2, ρ 8)) ρ) h := by kernel_rfl
theorem l193 (R : AEnd → PH → Prop) : LoopsOK Tryz.prog qf (ordOf o193) (fun c h => R (.pan c) h) (L193 (fun c h => R (.pan c) h)) c193 :=
  LoopsOK.mk 1 (by kernel_rfl) fun i hi Q ρ h H => match i, hi with
    | 0, _ => loop_gen (F := Value × Value × Value) (S := Value × Value) (X := Value × Value) (φ := (fun ρ => (ρ 3, ρ 6, ρ 7))) (π := (fun ρ => (ρ 2, ρ 8))) (ξ := (fun ρ => (ρ 2, ρ 3))) (B := (fun (XX : Exit → (Value × Value) → PH → Prop) => b193_3 (fun c h => R (.pan c) h) (XX (.exit 0)) (XX .ret))) (B193_3 _) (of_den (by kernel_rfl) H)
    | n + 1, hi => absurd hi (by omega)
theorem e193 (a0 : Value) (h : PH) (R : AEnd → PH → Prop) : denF Tryz.prog qf (ordOf o193) (L193 (fun c h => R (.pan c) h)) Tryz.f193.results.toList c193 #[a0] h R = sh193 a0 h R := by kernel_rfl
theorem k193 : codeOK Tryz.prog qf Tryz.f193.ntmps (ordOf o193) c193 = true := by kernel_rfl
theorem s193 : Tryz.f193.body = some c193 := by kernel_rfl
theorem call193 {a0 : Value} {h : PH} {R : AEnd → PH → Prop} (H : sh193 a0 h R) : ACalls Tryz.prog 193 #[a0] h R :=
  ACalls_of_den mixed Tryz.func193 s193 (by kernel_rfl) k193 (l193 R) (of_den (e193 a0 h R) H)

/- slices.insertionSortCmpFunc[gavel/api.Order] -/
noncomputable def c194 : Code := bodyOf Tryz.f194
def o194 : List (Nat × List (Nat × List Nat)) := [(4, [(0, []), (1, []), (2, []), (3, []), (4, []), (5, []), (6, []), (7, []), (8, []), (9, []), (10, []), (11, []), (12, []), (13, []), (14, []), (15, []), (16, [])]), (6, [(0, []), (1, []), (2, []), (3, []), (4, []), (5, []), (6, []), (7, []), (8, []), (9, []), (10, []), (11, []), (12, []), (13, []), (14, []), (15, []), (16, []), (17, [])])]
def b194_4 (Kp : List PanicEntry → PH → Prop) (x2 : (Value × Value × Value × Value × Value) → PH → Prop) (f : Value × Value × Value × Value × Value) (kn : (Value × Value × Value × Value × Value) → Value → PH → Prop) (s : Value) (h : PH) : Prop :=
  vBin Tryz.prog .gtr 3 s f.2.1 fun t20 =>
  gq (boolOf t20) true (fun K =>
  K f.2.2.2.1 h)
  (fun t22 h_1 =>
  gq (boolOf t20) true (fun K_1 =>
  K_1 f.1 h_1)
  (fun t23 h_2 =>
  gq (boolOf t20) true (fun K_2 =>
  K_2 s h_2)
  (fun t24 h_3 =>
  gq (boolOf t20) true (fun K_3 =>
  vIxS 6 t23 t24 fun u =>
  K_3 u h_3)
  (fun t25 h_4 =>
  gq (boolOf t20) true (fun K_4 =>
  vLoad (some 6) t25 h_4 fun u_1 =>
  K_4 u_1 h_4)
  (fun t26 h_5 =>
  gq (boolOf t20) true (fun K_5 =>
  K_5 f.1 h_5)
  (fun t27 h_6 =>
  gq (boolOf t20) true (fun K_6 =>
  K_6 s h_6)
  (fun t28 h_7 =>
  gq (boolOf t20) true (fun K_7 =>
  vBin Tryz.prog .sub 3 t28 (.int .i64 1) fun u_2 =>
  K_7 u_2 h_7)
  (fun t29 h_8 =>
  gq (boolOf t20) true (fun K_8 =>
  vIxS 6 t27 t29 fun u_3 =>
  K_8 u_3 h_8)
  (fun t30 h_9 =>
  gq (boolOf t20) true (fun K_9 =>
  vLoad (some 6) t30 h_9 fun u_4 =>
  K_9 u_4 h_9)
  (fun t31 h_10 =>
  gq (boolOf t20) true (fun K_10 =>
  vCallV Tryz.prog t22 #[t26, t31] h_10 (fun u_5 h_11 =>
  K_10 u_5 h_11)
  Kp)
  (fun t32 h_12 =>
  gq (boolOf t20) true (fun K_11 =>
  vBin Tryz.prog .lss 3 t32 (.int .i64 0) fun u_6 =>
  K_11 u_6 h_12)
  (fun t33 h_13 =>
  vPick t20 t33 (.bool false) fun t34 =>
  dIf t34 (vBin Tryz.prog .sub 3 s (.int .i64 1) fun t41 =>
  vBin Tryz.prog .sub 3 s (.int .i64 1) fun t44 =>
  vIxS 6 f.1 t44 fun t45 =>
  vLoad (some 6) t45 h_13 fun t46 =>
  vIxS 6 f.1 s fun t49 =>
  vLoad (some 6) t49 h_13 fun t50 =>
  vIxS 6 f.1 s fun t51 =>
  vStore 6 t51 t46 h_13 fun h_14 =>
  vIxS 6 f.1 t41 fun t52 =>
  vStore 6 t52 t50 h_14 fun h_15 =>
  vBin Tryz.prog .sub 3 s (.int .i64 1) fun t36 =>
  kn f t36 h_15)
  (x2 (f.1, f.2.1, f.2.2.1, f.2.2.2.1, f.2.2.2.2) h_13)) h_12) h_10) h_9) h_8) h_7) h_6) h_5) h_4) h_3) h_2) h_1) h

def b194_1 (Kp : List PanicEntry → PH → Prop) (x0 : Unit → PH → Prop) (f : Value × Value × Value × Value) (kn : (Value × Value × Value × Value) → Value → PH → Prop) (s : Value) (h : PH) : Prop :=
  vBin Tryz.prog .lss 3 s f.2.2.1 fun t14 =>
  dIf t14 (lf (b194_4 Kp (fun v h => exq (fun ρ => (ρ 0, ρ 1, ρ 2, ρ 3, ρ 8)) v (fun r h_1 =>
  vBin Tryz.prog .add 3 (r 8) (.int .i64 1) fun t16 =>
  kn ((r 0), (r 1), (r 2), (r 3)) t16 h_1) h)) (f.1, f.2.1, f.2.2.1, f.2.2.2, s) s h)
  (x0 () h)

def sh194 (a0 a1 a2 a3 : Value) (h : PH) (R : AEnd → PH → Prop) : Prop :=
  vBin Tryz.prog .add 3 a1 (.int .i64 1) fun t11 =>
  lf (b194_1 (fun c h => R (.pan c) h) (fun v h => exq (fun ρ => ()) v (fun r h_1 =>
  R (.ret (.tuple #[])) h_1) h)) (a0, a1, a2, a3) t11 h
def L194 (Kp : List PanicEntry → PH → Prop) : Loops := fun c Q ρ h =>
    sel (Nat.beq (loopId c) 1) (lf (b194_1 Kp (fun v h => exq (fun ρ => ()) v (Q (.exit 0)) h)) ((fun ρ => (ρ 0, ρ 1, ρ 2, ρ 3)) ρ) ((fun ρ => ρ 8) ρ) h)
    (sel (Nat.beq (loopId c) 4) (lf (b194_4 Kp (fun v h => exq (fun ρ => (ρ 0, ρ 1, ρ 2, ρ 3, ρ 8)) v (Q (.exit 2)) h)) ((fun ρ => (ρ 0, ρ 1, ρ 2, ρ 3, ρ 8)) ρ) ((fun ρ => ρ 9) ρ) h)
    (False))
theorem B194_1 (Kp : List PanicEntry → PH → Prop) (KN : (Value × Value × Value × Value) → (Value) → PH → Prop) (XX : Exit → (Unit) → PH → Prop) (ρ : Env) (h : PH) :
    den Tryz.prog qf (ordOf o194) Kp (L194 Kp) (loopAt c194 0) (lq KN XX (fun ρ => (ρ 0, ρ 1, ρ 2, ρ 3)) (fun ρ => ρ 8) (fun ρ => ())) ρ h = b194_1 Kp (XX (.exit 0)) ((fun ρ => (ρ 0, ρ 1, ρ 2, ρ 3)) ρ) KN ((fun ρ => ρ 8) ρ) h := by kernel_rfl
theorem B194_4 (Kp : List PanicEntry → PH → Prop) (KN : (Value × Value × Value × Value × Value) → (Value) → PH → Prop) (XX : Exit → (Value × Value × Value × Value × Value) → PH → Prop) (ρ : Env) (h : PH) :
    den Tryz.prog qf (ordOf o194) Kp (L194 Kp) (loopAt c194 1) (lq KN XX (fun ρ => (ρ 0, ρ 1, ρ 2, ρ 3, ρ 8)) (fun ρ => ρ 9) (fun ρ => (ρ 0, ρ 1, ρ 2, ρ 3, ρ 8))) ρ h = b194_4 Kp (XX (.exit 2)) ((fun ρ => (ρ 0, ρ 1, ρ 2, ρ 3, ρ 8)) ρ) KN ((fun ρ => ρ 9) ρ) h := by kernel_rfl
theorem l194 (R : AEnd → PH → Prop) : LoopsOK Tryz.prog qf (ordOf o194) (fun c h => R (.pan c) h) (L194 (fun c h => R (.pan c) h)) c194 :=
  LoopsOK.mk 2 (by kernel_rfl) fun i hi Q ρ h H => match i, hi with
    | 0, _ => loop_gen (F := Value × Value × Value × Value) (S := Value) (X := Unit) (φ := (fun ρ => (ρ 0, ρ 1, ρ 2, ρ 3))) (π := (fun ρ => ρ 8)) (ξ := (fun ρ => ())) (B := (fun (XX : Exit → (Unit) → PH → Prop) => b194_1 (fun c h => R (.pan c) h) (XX (.exit 0)))) (B194_1 _) (of_den (by kernel_rfl) H)
    | 1, _ => loop_gen (F := Value × Value × Value × Value × Value) (S := Value) (X := Value × Value × Value × Value × Value) (φ := (fun ρ => (ρ 0, ρ 1, ρ 2, ρ 3, ρ 8))) (π := (fun ρ => ρ 9)) (ξ := (fun ρ => (ρ 0, ρ 1, ρ 2, ρ 3, ρ 8))) (B := (fun (XX : Exit → (Value × Value × Value × Value × Value) → PH → Prop) => b194_4 (fun c h => R (.pan c) h) (XX (.exit 2)))) (B194_4 _) (of_den (by kernel_rfl) H)
    | n + 2, hi => absurd hi (by omega)
theorem e194 (a0 a1 a2 a3 : Value) (h : PH) (R : AEnd → PH → Prop) : denF Tryz.prog qf (ordOf o194) (L194 (fun c h => R (.pan c) h)) Tryz.f194.results.toList c194 #[a0, a1, a2, a3] h R = sh194 a0 a1 a2 a3 h R := by kernel_rfl
theorem k194 : codeOK Tryz.prog qf Tryz.f194.ntmps (ordOf o194) c194 = true := by kernel_rfl
theorem s194 : Tryz.f194.body = some c194 := by kernel_rfl
theorem call194 {a0 a1 a2 a3 : Value} {h : PH} {R : AEnd → PH → Prop} (H : sh194 a0 a1 a2 a3 h R) : ACalls Tryz.prog 194 #[a0, a1, a2, a3] h R :=
  ACalls_of_den mixed Tryz.func194 s194 (by kernel_rfl) k194 (l194 R) (of_den (e194 a0 a1 a2 a3 h R) H)

/- slices.symMergeCmpFunc[gavel/api.Order] -/
noncomputable def c195 : Code := bodyOf Tryz.f195
def o195 : List (Nat × List (Nat × List Nat)) := [(5, [(0, []), (1, []), (2, []), (3, []), (4, []), (5, []), (6, []), (7, []), (8, []), (9, []), (10, [])]), (11, [(0, []), (1, []), (2, []), (3, []), (4, []), (5, []), (6, []), (7, []), (8, []), (9, []), (10, []), (11, []), (12, []), (13, []), (14, []), (15, []), (16, []), (17, [])]), (17, [(0, []), (1, []), (2, []), (3, []), (4, []), (5, []), (6, []), (7, []), (8, []), (9, []), (10, []), (11, [])]), (23, [(0, []), (1, []), (2, []), (3, []), (4, []), (5, []), (6, []), (7, []), (8, []), (9, []), (10, []), (11, []), (12, []), (13, []), (14, []), (15, []), (16, []), (17, [])]), (35, [(0, []), (1, []), (2, []), (3, []), (4, []), (5, []), (6, []), (7, []), (8, []), (9, []), (10, []), (11, []), (12, []), (13, [])])]
def b195_3 (Kp : List PanicEntry → PH → Prop) (x0 : (Value × Value × Value) → PH → Prop) (f : Value × Value × Value) (kn : (Value × Value × Value) → (Value × Value) → PH → Prop) (s : Value × Value) (h : PH) : Prop :=
  vBin Tryz.prog .lss 3 s.1 s.2 fun t33 =>
  dIf t33 (vBin Tryz.prog .add 3 s.1 s.2 fun t36 =>
  vConvI .u64 t36 fun t37 =>
  vBin Tryz.prog .shr 192 t37 (.int .u64 1) fun t38 =>
  vConvI .i64 t38 fun t39 =>
  vIxS 6 f.1 t39 fun t43 =>
  vLoad (some 6) t43 h fun t44 =>
  vIxS 6 f.1 f.2.1 fun t47 =>
  vLoad (some 6) t47 h fun t48 =>
  vCallV Tryz.prog f.2.2 #[t44, t48] h (fun t49 h_1 =>
  vBin Tryz.prog .lss 3 t49 (.int .i64 0) fun t50 =>
  dIf t50 (vBin Tryz.prog .add 3 t39 (.int .i64 1) fun t52 =>
  kn f (t52, s.2) h_1)
  (kn f (s.1, t39) h_1))
  Kp)
  (x0 (f.1, f.2.1, s.1) h)

def b195_9 (Kp : List PanicEntry → PH → Prop) (x2 : Unit → PH → Prop) (f : Value × Value) (kn : (Value × Value) → Value → PH → Prop) (s : Value) (h : PH) : Prop :=
  vBin Tryz.prog .sub 3 f.2 (.int .i64 1) fun t57 =>
  vBin Tryz.prog .lss 3 s t57 fun t58 =>
  dIf t58 (vBin Tryz.prog .add 3 s (.int .i64 1) fun t65 =>
  vBin Tryz.prog .add 3 s (.int .i64 1) fun t68 =>
  vIxS 6 f.1 t68 fun t69 =>
  vLoad (some 6) t69 h fun t70 =>
  vIxS 6 f.1 s fun t73 =>
  vLoad (some 6) t73 h fun t74 =>
  vIxS 6 f.1 s fun t75 =>
  vStore 6 t75 t70 h fun h_1 =>
  vIxS 6 f.1 t65 fun t76 =>
  vStore 6 t76 t74 h_1 fun h_2 =>
  vBin Tryz.prog .add 3 s (.int .i64 1) fun t60 =>
  kn f t60 h_2)
  (x2 () h)

def b195_15 (Kp : List PanicEntry → PH → Prop) (x4 : (Value × Value × Value) → PH → Prop) (f : Value × Value × Value) (kn : (Value × Value × Value) → (Value × Value) → PH → Prop) (s : Value × Value) (h : PH) : Prop :=
  vBin Tryz.prog .lss 3 s.1 s.2 fun t85 =>
  dIf t85 (vBin Tryz.prog .add 3 s.1 s.2 fun t88 =>
  vConvI .u64 t88 fun t89 =>
  vBin Tryz.prog .shr 192 t89 (.int .u64 1) fun t90 =>
  vConvI .i64 t90 fun t91 =>
  vIxS 6 f.1 f.2.1 fun t95 =>
  vLoad (some 6) t95 h fun t96 =>
  vIxS 6 f.1 t91 fun t99 =>
  vLoad (some 6) t99 h fun t100 =>
  vCallV Tryz.prog f.2.2 #[t96, t100] h (fun t101 h_1 =>
  vBin Tryz.prog .lss 3 t101 (.int .i64 0) fun t102 =>
  vUn Tryz.prog .not t102 fun t103 =>
  dIf t103 (vBin Tryz.prog .add 3 t91 (.int .i64 1) fun t105 =>
  kn f (t105, s.2) h_1)
  (kn f (s.1, t91) h_1))
  Kp)
  (x4 (f.1, f.2.1, s.1) h)

def b195_21 (Kp : List PanicEntry → PH → Prop) (x6 : Unit → PH → Prop) (f : Value × Value) (kn : (Value × Value) → Value → PH → Prop) (s : Value) (h : PH) : Prop :=
  vBin Tryz.prog .gtr 3 s f.2 fun t110 =>
  dIf t110 (vBin Tryz.prog .sub 3 s (.int .i64 1) fun t117 =>
  vBin Tryz.prog .sub 3 s (.int .i64 1) fun t120 =>
  vIxS 6 f.1 t120 fun t121 =>
  vLoad (some 6) t121 h fun t122 =>
  vIxS 6 f.1 s fun t125 =>
  vLoad (some 6) t125 h fun t126 =>
  vIxS 6 f.1 s fun t127 =>
  vStore 6 t127 t122 h fun h_1 =>
  vIxS 6 f.1 t117 fun t128 =>
  vStore 6 t128 t126 h_1 fun h_2 =>
  vBin Tryz.prog .sub 3 s (.int .i64 1) fun t112 =>
  kn f t112 h_2)
  (x6 () h)

def b195_33 (Kp : List PanicEntry → PH → Prop) (x8 : (Value × Value × Value × Value × Value × Value × Value × Value) → PH → Prop) (f : Value × Value × Value × Value × Value × Value × Value × Value) (kn : (Value × Value × Value × Value × Value × Value × Value × Value) → (Value × Value) → PH → Prop) (s : Value × Value) (h : PH) : Prop :=
  vBin Tryz.prog .lss 3 s.1 s.2 fun t151 =>
  dIf t151 (vBin Tryz.prog .add 3 s.1 s.2 fun t154 =>
  vConvI .u64 t154 fun t155 =>
  vBin Tryz.prog .shr 192 t155 (.int .u64 1) fun t156 =>
  vConvI .i64 t156 fun t157 =>
  vBin Tryz.prog .sub 3 f.2.2.2.2.2.2.2 t157 fun t162 =>
  vIxS 6 f.1 t162 fun t163 =>
  vLoad (some 6) t163 h fun t164 =>
  vIxS 6 f.1 t157 fun t167 =>
  vLoad (some 6) t167 h fun t168 =>
  vCallV Tryz.prog f.2.2.2.2.1 #[t164, t168] h (fun t169 h_1 =>
  vBin Tryz.prog .lss 3 t169 (.int .i64 0) fun t170 =>
  vUn Tryz.prog .not t170 fun t171 =>
  dIf t171 (vBin Tryz.prog .add 3 t157 (.int .i64 1) fun t173 =>
  kn f (t173, s.2) h_1)
  (kn f (s.1, t157) h_1))
  Kp)
  (x8 (f.1, f.2.1, f.2.2.1, f.2.2.2.1, f.2.2.2.2.1, f.2.2.2.2.2.1, f.2.2.2.2.2.2.1, s.1) h)

def sh195 (a0 a1 a2 a3 a4 : Value) (h : PH) (R : AEnd → PH → Prop) : Prop :=
  vBin Tryz.prog .sub 3 a2 a1 fun t27 =>
  vBin Tryz.prog .eql 3 t27 (.int .i64 1) fun t28 =>
  dIf t28 (lf (b195_3 (fun c h => R (.pan c) h) (fun v h => exq (fun ρ => (ρ 0, ρ 1, ρ 10)) v (fun r h_1 =>
  lf (b195_9 (fun c h => R (.pan c) h) (fun v h => exq (fun ρ => ()) v (fun r_1 h_2 =>
  R (.ret (.tuple #[])) h_2) h)) ((r 0), (r 10)) (r 1) h_1) h)) (a0, a1, a4) (a2, a3) h)
  (vBin Tryz.prog .sub 3 a3 a2 fun t79 =>
  vBin Tryz.prog .eql 3 t79 (.int .i64 1) fun t80 =>
  dIf t80 (lf (b195_15 (fun c h => R (.pan c) h) (fun v h => exq (fun ρ => (ρ 0, ρ 2, ρ 14)) v (fun r_2 h_3 =>
  lf (b195_21 (fun c h => R (.pan c) h) (fun v h => exq (fun ρ => ()) v (fun r_3 h_4 =>
  R (.ret (.tuple #[])) h_4) h)) ((r_2 0), (r_2 14)) (r_2 2) h_3) h)) (a0, a2, a4) (a1, a2) h)
  (vBin Tryz.prog .add 3 a1 a3 fun t131 =>
  vConvI .u64 t131 fun t132 =>
  vBin Tryz.prog .shr 192 t132 (.int .u64 1) fun t133 =>
  vConvI .i64 t133 fun t134 =>
  vBin Tryz.prog .add 3 t134 a2 fun t137 =>
  vBin Tryz.prog .gtr 3 a2 t134 fun t140 =>
  dIf t140 (vBin Tryz.prog .sub 3 t137 a3 fun t143 =>
  vBin Tryz.prog .sub 3 t137 (.int .i64 1) fun t148 =>
  lf (b195_33 (fun c h => R (.pan c) h) (fun v h => exq (fun ρ => (ρ 0, ρ 1, ρ 2, ρ 3, ρ 4, ρ 18, ρ 19, ρ 20)) v (fun r_4 h_5 =>
  vBin Tryz.prog .sub 3 (r_4 19) (r_4 20) fun t177 =>
  vBin Tryz.prog .lss 3 (r_4 20) (r_4 2) fun t180 =>
  gq (boolOf t180) true (fun K =>
  K (r_4 2) h_5)
  (fun t182 h_6 =>
  gq (boolOf t180) true (fun K_1 =>
  K_1 t177 h_6)
  (fun t183 h_7 =>
  gq (boolOf t180) true (fun K_2 =>
  vBin Tryz.prog .lss 3 t182 t183 fun u =>
  K_2 u h_7)
  (fun t184 h_8 =>
  vPick t180 t184 (.bool false) fun t185 =>
  dIf t185 (vCall Tryz.prog 197 #[(r_4 0), (r_4 20), (r_4 2), t177, (r_4 4)] h_8 (fun t191 h_9 =>
  vBin Tryz.prog .lss 3 (r_4 1) (r_4 20) fun t194 =>
  gq (boolOf t194) true (fun K_3 =>
  K_3 (r_4 20) h_9)
  (fun t196 h_10 =>
  gq (boolOf t194) true (fun K_4 =>
  K_4 (r_4 18) h_10)
  (fun t197 h_11 =>
  gq (boolOf t194) true (fun K_5 =>
  vBin Tryz.prog .lss 3 t196 t197 fun u_1 =>
  K_5 u_1 h_11)
  (fun t198 h_12 =>
  vPick t194 t198 (.bool false) fun t199 =>
  dIf t199 (vCall Tryz.prog 195 #[(r_4 0), (r_4 1), (r_4 20), (r_4 18), (r_4 4)] h_12 (fun t205 h_13 =>
  vBin Tryz.prog .lss 3 (r_4 18) t177 fun t208 =>
  gq (boolOf t208) true (fun K_6 =>
  K_6 t177 h_13)
  (fun t210 h_14 =>
  gq (boolOf t208) true (fun K_7 =>
  K_7 (r_4 3) h_14)
  (fun t211 h_15 =>
  gq (boolOf t208) true (fun K_8 =>
  vBin Tryz.prog .lss 3 t210 t211 fun u_2 =>
  K_8 u_2 h_15)
  (fun t212 h_16 =>
  vPick t208 t212 (.bool false) fun t213 =>
  dIf t213 (vCall Tryz.prog 195 #[(r_4 0), (r_4 18), t177, (r_4 3), (r_4 4)] h_16 (fun t219 h_17 =>
  R (.ret (.tuple #[])) h_17)
  (fun c h => R (.pan c) h))
  (R (.ret (.tuple #[])) h_16)) h_15) h_14) h_13)
  (fun c h => R (.pan c) h))
  (vBin Tryz.prog .lss 3 (r_4 18) t177 fun t208_1 =>
  gq (boolOf t208_1) true (fun K_9 =>
  K_9 t177 h_12)
  (fun t210_1 h_18 =>
  gq (boolOf t208_1) true (fun K_10 =>
  K_10 (r_4 3) h_18)
  (fun t211_1 h_19 =>
  gq (boolOf t208_1) true (fun K_11 =>
  vBin Tryz.prog .lss 3 t210_1 t211_1 fun u_3 =>
  K_11 u_3 h_19)
  (fun t212_1 h_20 =>
  vPick t208_1 t212_1 (.bool false) fun t213_1 =>
  dIf t213_1 (vCall Tryz.prog 195 #[(r_4 0), (r_4 18), t177, (r_4 3), (r_4 4)] h_20 (fun t219_1 h_21 =>
  R (.ret (.tuple #[])) h_21)
  (fun c h => R (.pan c) h))
  (R (.ret (.tuple #[])) h_20)) h_19) h_18) h_12)) h_11) h_10) h_9)
  (fun c h => R (.pan c) h))
  (vBin Tryz.prog .lss 3 (r_4 1) (r_4 20) fun t194_1 =>
  gq (boolOf t194_1) true (fun K_12 =>
  K_12 (r_4 20) h_8)
  (fun t196_1 h_22 =>
  gq (boolOf t194_1) true (fun K_13 =>
  K_13 (r_4 18) h_22)
  (fun t197_1 h_23 =>
  gq (boolOf t194_1) true (fun K_14 =>
  vBin Tryz.prog .lss 3 t196_1 t197_1 fun u_4 =>
  K_14 u_4 h_23)
  (fun t198_1 h_24 =>
  vPick t194_1 t198_1 (.bool false) fun t199_1 =>
  dIf t199_1 (vCall Tryz.prog 195 #[(r_4 0), (r_4 1), (r_4 20), (r_4 18), (r_4 4)] h_24 (fun t205_1 h_25 =>
  vBin Tryz.prog .lss 3 (r_4 18) t177 fun t208_2 =>
  gq (boolOf t208_2) true (fun K_15 =>
  K_15 t177 h_25)
  (fun t210_2 h_26 =>
  gq (boolOf t208_2) true (fun K_16 =>
  K_16 (r_4 3) h_26)
  (fun t211_2 h_27 =>
  gq (boolOf t208_2) true (fun K_17 =>
  vBin Tryz.prog .lss 3 t210_2 t211_2 fun u_5 =>
  K_17 u_5 h_27)
  (fun t212_2 h_28 =>
  vPick t208_2 t212_2 (.bool false) fun t213_2 =>
  dIf t213_2 (vCall Tryz.prog 195 #[(r_4 0), (r_4 18), t177, (r_4 3), (r_4 4)] h_28 (fun t219_2 h_29 =>
  R (.ret (.tuple #[])) h_29)
  (fun c h => R (.pan c) h))
  (R (.ret (.tuple #[])) h_28)) h_27) h_26) h_25)
  (fun c h => R (.pan c) h))
  (vBin Tryz.prog .lss 3 (r_4 18) t177 fun t208_3 =>
  gq (boolOf t208_3) true (fun K_18 =>
  K_18 t177 h_24)
  (fun t210_3 h_30 =>
  gq (boolOf t208_3) true (fun K_19 =>
  K_19 (r_4 3) h_30)
  (fun t211_3 h_31 =>
  gq (boolOf t208_3) true (fun K_20 =>
  vBin Tryz.prog .lss 3 t210_3 t211_3 fun u_6 =>
  K_20 u_6 h_31)
  (fun t212_3 h_32 =>
  vPick t208_3 t212_3 (.bool false) fun t213_3 =>
  dIf t213_3 (vCall Tryz.prog 195 #[(r_4 0), (r_4 18), t177, (r_4 3), (r_4 4)] h_32 (fun t219_3 h_33 =>
  R (.ret (.tuple #[])) h_33)
  (fun c h => R (.pan c) h))
  (R (.ret (.tuple #[])) h_32)) h_31) h_30) h_24)) h_23) h_22) h_8)) h_7) h_6) h_5) h)) (a0, a1, a2, a3, a4, t134, t137, t148) (t143, t134) h)
  (vBin Tryz.prog .sub 3 t137 (.int .i64 1) fun t148_1 =>
  lf (b195_33 (fun c h => R (.pan c) h) (fun v h => exq (fun ρ => (ρ 0, ρ 1, ρ 2, ρ 3, ρ 4, ρ 18, ρ 19, ρ 20)) v (fun r_5 h_34 =>
  vBin Tryz.prog .sub 3 (r_5 19) (r_5 20) fun t177_1 =>
  vBin Tryz.prog .lss 3 (r_5 20) (r_5 2) fun t180_1 =>
  gq (boolOf t180_1) true (fun K_21 =>
  K_21 (r_5 2) h_34)
  (fun t182_1 h_35 =>
  gq (boolOf t180_1) true (fun K_22 =>
  K_22 t177_1 h_35)
  (fun t183_1 h_36 =>
  gq (boolOf t180_1) true (fun K_23 =>
  vBin Tryz.prog .lss 3 t182_1 t183_1 fun u_7 =>
  K_23 u_7 h_36)
  (fun t184_1 h_37 =>
  vPick t180_1 t184_1 (.bool false) fun t185_1 =>
  dIf t185_1 (vCall Tryz.prog 197 #[(r_5 0), (r_5 20), (r_5 2), t177_1, (r_5 4)] h_37 (fun t191_1 h_38 =>
  vBin Tryz.prog .lss 3 (r_5 1) (r_5 20) fun t194_2 =>
  gq (boolOf t194_2) true (fun K_24 =>
  K_24 (r_5 20) h_38)
  (fun t196_2 h_39 =>
  gq (boolOf t194_2) true (fun K_25 =>
  K_25 (r_5 18) h_39)
  (fun t197_2 h_40 =>
  gq (boolOf t194_2) true (fun K_26 =>
  vBin Tryz.prog .lss 3 t196_2 t197_2 fun u_8 =>
  K_26 u_8 h_40)
  (fun t198_2 h_41 =>
  vPick t194_2 t198_2 (.bool false) fun t199_2 =>
  dIf t199_2 (vCall Tryz.prog 195 #[(r_5 0), (r_5 1), (r_5 20), (r_5 18), (r_5 4)] h_41 (fun t205_2 h_42 =>
  vBin Tryz.prog .lss 3 (r_5 18) t177_1 fun t208_4 =>
  gq (boolOf t208_4) true (fun K_27 =>
  K_27 t177_1 h_42)
  (fun t210_4 h_43 =>
  gq (boolOf t208_4) true (fun K_28 =>
  K_28 (r_5 3) h_43)
  (fun t211_4 h_44 =>
  gq (boolOf t208_4) true (fun K_29 =>
  vBin Tryz.prog .lss 3 t210_4 t211_4 fun u_9 =>
  K_29 u_9 h_44)
  (fun t212_4 h_45 =>
  vPick t208_4 t212_4 (.bool false) fun t213_4 =>
  dIf t213_4 (vCall Tryz.prog 195 #[(r_5 0), (r_5 18), t177_1, (r_5 3), (r_5 4)] h_45 (fun t219_4 h_46 =>
  R (.ret (.tuple #[])) h_46)
  (fun c h => R (.pan c) h))
  (R (.ret (.tuple #[])) h_45)) h_44) h_43) h_42)
  (fun c h => R (.pan c) h))
  (vBin Tryz.prog .lss 3 (r_5 18) t177_1 fun t208_5 =>
  gq (boolOf t208_5) true (fun K_30 =>
  K_30 t177_1 h_41)
  (fun t210_5 h_47 =>
  gq (boolOf t208_5) true (fun K_31 =>
  K_31 (r_5 3) h_47)
  (fun t211_5 h_48 =>
  gq (boolOf t208_5) true (fun K_32 =>
  vBin Tryz.prog .lss 3 t210_5 t211_5 fun u_10 =>
  K_32 u_10 h_48)
  (fun t212_5 h_49 =>
  vPick t208_5 t212_5 (.bool false) fun t213_5 =>
  dIf t213_5 (vCall Tryz.prog 195 #[(r_5 0), (r_5 18), t177_1, (r_5 3), (r_5 4)] h_49 (fun t219_5 h_50 =>
  R (.ret (.tuple #[])) h_50)
  (fun c h => R (.pan c) h))
  (R (.ret (.tuple #[])) h_49)) h_48) h_47) h_41)) h_40) h_39) h_38)
  (fun c h => R (.pan c) h))
  (vBin Tryz.prog .lss 3 (r_5 1) (r_5 20) fun t194_3 =>
  gq (boolOf t194_3) true (fun K_33 =>
  K_33 (r_5 20) h_37)
  (fun t196_3 h_51 =>
  gq (boolOf t194_3) true (fun K_34 =>
  K_34 (r_5 18) h_51)
  (fun t197_3 h_52 =>
  gq (boolOf t194_3) true (fun K_35 =>
  vBin Tryz.prog .lss 3 t196_3 t197_3 fun u_11 =>
  K_35 u_11 h_52)
  (fun t198_3 h_53 =>
  vPick t194_3 t198_3 (.bool false) fun t199_3 =>
  dIf t199_3 (vCall Tryz.prog 195 #[(r_5 0), (r_5 1), (r_5 20), (r_5 18), (r_5 4)] h_53 (fun t205_3 h_54 =>
  vBin Tryz.prog .lss 3 (r_5 18) t177_1 fun t208_6 =>
  gq (boolOf t208_6) true (fun K_36 =>
  K_36 t177_1 h_54)
  (fun t210_6 h_55 =>
  gq (boolOf t208_6) true (fun K_37 =>
  K_37 (r_5 3) h_55)
  (fun t211_6 h_56 =>
  gq (boolOf t208_6) true (fun K_38 =>
  vBin Tryz.prog .lss 3 t210_6 t211_6 fun u_12 =>
  K_38 u_12 h_56)
  (fun t212_6 h_57 =>
  vPick t208_6 t212_6 (.bool false) fun t213_6 =>
  dIf t213_6 (vCall Tryz.prog 195 #[(r_5 0), (r_5 18), t177_1, (r_5 3), (r_5 4)] h_57 (fun t219_6 h_58 =>
  R (.ret (.tuple #[])) h_58)
  (fun c h => R (.pan c) h))
  (R (.ret (.tuple #[])) h_57)) h_56) h_55) h_54)
  (fun c h => R (.pan c) h))
  (vBin Tryz.prog .lss 3 (r_5 18) t177_1 fun t208_7 =>
  gq (boolOf t208_7) true (fun K_39 =>
  K_39 t177_1 h_53)
  (fun t210_7 h_59 =>
  gq (boolOf t208_7) true (fun K_40 =>
  K_40 (r_5 3) h_59)
  (fun t211_7 h_60 =>
  gq (boolOf t208_7) true (fun K_41 =>
  vBin Tryz.prog .lss 3 t210_7 t211_7 fun u_13 =>
  K_41 u_13 h_60)
  (fun t212_7 h_61 =>
  vPick t208_7 t212_7 (.bool false) fun t213_7 =>
  dIf t213_7 (vCall Tryz.prog 195 #[(r_5 0), (r_5 18), t177_1, (r_5 3), (r_5 4)] h_61 (fun t219_7 h_62 =>
  R (.ret (.tuple #[])) h_62)
  (fun c h => R (.pan c) h))
  (R (.ret (.tuple #[])) h_61)) h_60) h_59) h_53)) h_52) h_51) h_37)) h_36) h_35) h_34) h)) (a0, a1, a2, a3, a4, t134, t137, t148_1) (a1, a2) h)))
def L195 (Kp : List PanicEntry → PH → Prop) : Loops := fun c Q ρ h =>
    sel (Nat.beq (loopId c) 3) (lf (b195_3 Kp (fun v h => exq (fun ρ => (ρ 0, ρ 1, ρ 10)) v (Q (.exit 0)) h)) ((fun ρ => (ρ 0, ρ 1, ρ 4)) ρ) ((fun ρ => (ρ 10, ρ 11)) ρ) h)
    (sel (Nat.beq (loopId c) 9) (lf (b195_9 Kp (fun v h => exq (fun ρ => ()) v (Q (.exit 2)) h)) ((fun ρ => (ρ 0, ρ 10)) ρ) ((fun ρ => ρ 13) ρ) h)
    (sel (Nat.beq (loopId c) 15) (lf (b195_15 Kp (fun v h => exq (fun ρ => (ρ 0, ρ 2, ρ 14)) v (Q (.exit 4)) h)) ((fun ρ => (ρ 0, ρ 2, ρ 4)) ρ) ((fun ρ => (ρ 14, ρ 15)) ρ) h)
    (sel (Nat.beq (loopId c) 21) (lf (b195_21 Kp (fun v h => exq (fun ρ => ()) v (Q (.exit 6)) h)) ((fun ρ => (ρ 0, ρ 14)) ρ) ((fun ρ => ρ 17) ρ) h)
    (sel (Nat.beq (loopId c) 33) (lf (b195_33 Kp (fun v h => exq (fun ρ => (ρ 0, ρ 1, ρ 2, ρ 3, ρ 4, ρ 18, ρ 19, ρ 20)) v (Q (.exit 8)) h)) ((fun ρ => (ρ 0, ρ 1, ρ 2, ρ 3, ρ 4, ρ 18, ρ 19, ρ 22)) ρ) ((fun ρ => (ρ 20, ρ 21)) ρ) h)
    (False)))))
theorem B195_3 (Kp : List PanicEntry → PH → Prop) (KN : (Value × Value × Value) → (Value × Value) → PH → Prop) (XX : Exit → (Value × Value × Value) → PH → Prop) (ρ : Env) (h : PH) :
    den Tryz.prog qf (ordOf o195) Kp (L195 Kp) (loopAt c195 0) (lq KN XX (fun ρ => (ρ 0, ρ 1, ρ 4)) (fun ρ => (ρ 10, ρ 11)) (fun ρ => (ρ 0, ρ 1, ρ 10))) ρ h = b195_3 Kp (XX (.exit 0)) ((fun ρ => (ρ 0, ρ 1, ρ 4)) ρ) KN ((fun ρ => (ρ 10, ρ 11)) ρ) h := by kernel_rfl
theorem B195_9 (Kp : List PanicEntry → PH → Prop) (KN : (Value × Value) → (Value) → PH → Prop) (XX : Exit → (Unit) → PH → Prop) (ρ : Env) (h : PH) :
    den Tryz.prog qf (ordOf o195) Kp (L195 Kp) (loopAt c195 1) (lq KN XX (fun ρ => (ρ 0, ρ 10)) (fun ρ => ρ 13) (fun ρ => ())) ρ h = b195_9 Kp (XX (.exit 2)) ((fun ρ => (ρ 0, ρ 10)) ρ) KN ((fun ρ => ρ 13) ρ) h := by kernel_rfl
theorem B195_15 (Kp : List PanicEntry → PH → Prop) (KN : (Value × Value × Value) → (Value × Value) → PH → Prop) (XX : Exit → (Value × Value × Value) → PH → Prop) (ρ : Env) (h : PH) :
    den Tryz.prog qf (ordOf o195) Kp (L195 Kp) (loopAt c195 2) (lq KN XX (fun ρ => (ρ 0, ρ 2, ρ 4)) (fun ρ => (ρ 14, ρ 15)) (fun ρ => (ρ 0, ρ 2, ρ 14))) ρ h = b195_15 Kp (XX (.exit 4)) ((fun ρ => (ρ 0, ρ 2, ρ 4)) ρ) KN ((fun ρ => (ρ 14, ρ 15)) ρ) h := by kernel_rfl
theorem B195_21 (Kp : List PanicEntry → PH → Prop) (KN : (Value × Value) → (Value) → PH → Prop) (XX : Exit → (Unit) → PH → Prop) (ρ : Env) (h : PH) :
    den Tryz.prog qf (ordOf o195) Kp (L195 Kp) (loopAt c195 3) (lq KN XX (fun ρ => (ρ 0, ρ 14)) (fun ρ => ρ 17) (fun ρ => ())) ρ h = b195_21 Kp (XX (.exit 6)) ((fun ρ => (ρ 0, ρ 14)) ρ) KN ((fun ρ => ρ 17) ρ) h := by kernel_rfl
theorem B195_33 (Kp : List PanicEntry → PH → Prop) (KN : (Value × Value × Value × Value × Value × Value × Value × Value) → (Value × Value) → PH → Prop) (XX : Exit → (Value × Value × Value × Value × Value × Value × Value × Value) → PH → Prop) (ρ : Env) (h : PH) :
    den Tryz.prog qf (ordOf o195) Kp (L195 Kp) (loopAt c195 4) (lq KN XX (fun ρ => (ρ 0, ρ 1, ρ 2, ρ 3, ρ 4, ρ 18, ρ 19, ρ 22)) (fun ρ => (ρ 20, ρ 21)) (fun ρ => (ρ 0, ρ 1, ρ 2, ρ 3, ρ 4, ρ 18, ρ 19, ρ 20))) ρ h = b195_33 Kp (XX (.exit 8)) ((fun ρ => (ρ 0, ρ 1, ρ 2, ρ 3, ρ 4, ρ 18, ρ 19, ρ 22)) ρ) KN ((fun ρ => (ρ 20, ρ 21)) ρ) h := by kernel_rfl
theorem l195 (R : AEnd → PH → Prop) : LoopsOK Tryz.prog qf (ordOf o195) (fun c h => R (.pan c) h) (L195 (fun c h => R (.pan c) h)) c195 :=
  LoopsOK.mk 5 (by kernel_rfl) fun i hi Q ρ h H => match i, hi with
    | 0, _ => loop_gen (F := Value × Value × Value) (S := Value × Value) (X := Value × Value × Value) (φ := (fun ρ => (ρ 0, ρ 1, ρ 4))) (π := (fun ρ => (ρ 10, ρ 11))) (ξ := (fun ρ => (ρ 0, ρ 1, ρ 10))) (B := (fun (XX : Exit → (Value × Value × Value) → PH → Prop) => b195_3 (fun c h => R (.pan c) h) (XX (.exit 0)))) (B195_3 _) (of_den (by kernel_rfl) H)
    | 1, _ => loop_gen (F := Value × Value) (S := Value) (X := Unit) (φ := (fun ρ => (ρ 0, ρ 10))) (π := (fun ρ => ρ 13)) (ξ := (fun ρ => ())) (B := (fun (XX : Exit → (Unit) → PH → Prop) => b195_9 (fun c h => R (.pan c) h) (XX (.exit 2)))) (B195_9 _) (of_den (by kernel_rfl) H)
    | 2, _ => loop_gen (F := Value × Value × Value) (S := Value × Value) (X := Value × Value × Value) (φ := (fun ρ => (ρ 0, ρ 2, ρ 4))) (π := (fun ρ => (ρ 14, ρ 15))) (ξ := (fun ρ => (ρ 0, ρ 2, ρ 14))) (B := (fun (XX : Exit → (Value × Value × Value) → PH → Prop) => b195_15 (fun c h => R (.pan c) h) (XX (.exit 4)))) (B195_15 _) (of_den (by kernel_rfl) H)
    | 3, _ => loop_gen (F := Value × Value) (S := Value) (X := Unit) (φ := (fun ρ => (ρ 0, ρ 14))) (π := (fun ρ => ρ 17)) (ξ := (fun ρ => ())) (B := (fun (XX : Exit → (Unit) → PH → Prop) => b195_21 (fun c h => R (.pan c) h) (XX (.exit 6)))) (B195_21 _) (of_den (by kernel_rfl) H)
    | 4, _ => loop_gen (F := Value × Value × Value × Value × Value × Value × Value × Value) (S := Value × Value) (X := Value × Value × Value × Value × Value × Value × Value × Value) (φ := (fun ρ => (ρ 0, ρ 1, ρ 2, ρ 3, ρ 4, ρ 18, ρ 19, ρ 22))) (π := (fun ρ => (ρ 20, ρ 21))) (ξ := (fun ρ => (ρ 0, ρ 1, ρ 2, ρ 3, ρ 4, ρ 18, ρ 19, ρ 20))) (B := (fun (XX : Exit → (Value × Value × Value × Value × Value × Value × Value × Value) → PH → Prop) => b195_33 (fun c h => R (.pan c) h) (XX (.exit 8)))) (B195_33 _) (of_den (by kernel_rfl) H)
    | n + 5, hi => absurd hi (by omega)
theorem e195 (a0 a1 a2 a3 a4 : Value) (h : PH) (R : AEnd → PH → Prop) : denF Tryz.prog qf (ordOf o195) (L195 (fun c h => R (.pan c) h)) Tryz.f195.results.toList c195 #[a0, a1, a2, a3, a4] h R = sh195 a0 a1 a2 a3 a4 h R := by kernel_rfl
theorem k195 : codeOK Tryz.prog qf Tryz.f195.ntmps (ordOf o195) c195 = true := by kernel_rfl
theorem s195 : Tryz.f195.body = some c195 := by kernel_rfl
theorem call195 {a0 a1 a2 a3 a4 : Value} {h : PH} {R : AEnd → PH → Prop} (H : sh195 a0 a1 a2 a3 a4 h R) : ACalls Tryz.prog 195 #[a0, a1, a2, a3, a4] h R :=
  ACalls_of_den mixed Tryz.func195 s195 (by kernel_rfl) k195 (l195 R) (of_den (e195 a0 a1 a2 a3 a4 h R) H)

/- cmp.isNaN[int] -/
noncomputable def c196 : Code := bodyOf Tryz.f196
def o196 : List (Nat × List (Nat × List Nat)) := []
def sh196 (a0 : Value) (h : PH) (R : AEnd → PH → Prop) : Prop :=
  vBin Tryz.prog .neq 3 a0 a0 fun t5 =>
  R (.ret t5) h
theorem l196 (R : AEnd → PH → Prop) : LoopsOK Tryz.prog qf (ordOf o196) (fun c h => R (.pan c) h) noLoops c196 := noLoops_ok (by kernel_rfl)
theorem e196 (a0 : Value) (h : PH) (R : AEnd → PH → Prop) : denF Tryz.prog qf (ordOf o196) noLoops Tryz.f196.results.toList c196 #[a0] h R = sh196 a0 h R := by kernel_rfl
theorem k196 : codeOK Tryz.prog qf Tryz.f196.ntmps (ordOf o196) c196 = true := by kernel_rfl
theorem s196 : Tryz.f196.body = some c196 := by kernel_rfl
theorem call196 {a0 : Value} {h : PH} {R : AEnd → PH → Prop} (H : sh196 a0 h R) : ACalls Tryz.prog 196 #[a0] h R :=
  ACalls_of_den mixed Tryz.func196 s196 (by kernel_rfl) k196 (l196 R) (of_den (e196 a0 h R) H)

/- slices.rotateCmpFunc[gavel/api.Order] -/
noncomputable def c197 : Code := bodyOf Tryz.f197
def o197 : List (Nat × List (Nat × List Nat)) := []
def b197_2 (Kp : List PanicEntry → PH → Prop) (x0 : (Value × Value × Value × Value) → PH → Prop) (f : Value × Value × Value) (kn : (Value × Value × Value) → (Value × Value) → PH → Prop) (s : Value × Value) (h : PH) : Prop :=
  vBin Tryz.prog .neq 3 s.1 s.2 fun t20 =>
  dIf t20 (vBin Tryz.prog .gtr 3 s.1 s.2 fun t23 =>
  dIf t23 (vBin Tryz.prog .sub 3 f.2.1 s.1 fun t27 =>
  vCall Tryz.prog 198 #[f.1, t27, f.2.1, s.2, f.2.2] h (fun t31 h_1 =>
  vBin Tryz.prog .sub 3 s.1 s.2 fun t34 =>
  kn f (t34, s.2) h_1)
  Kp)
  (vBin Tryz.prog .sub 3 f.2.1 s.1 fun t38 =>
  vBin Tryz.prog .add 3 f.2.1 s.2 fun t41 =>
  vBin Tryz.prog .sub 3 t41 s.1 fun t43 =>
  vCall Tryz.prog 198 #[f.1, t38, t43, s.1, f.2.2] h (fun t46 h_2 =>
  vBin Tryz.prog .sub 3 s.2 s.1 fun t49 =>
  kn f (s.1, t49) h_2)
  Kp))
  (x0 (f.1, f.2.1, f.2.2, s.1) h)

def sh197 (a0 a1 a2 a3 a4 : Value) (h : PH) (R : AEnd → PH → Prop) : Prop :=
  vBin Tryz.prog .sub 3 a2 a1 fun t14 =>
  vBin Tryz.prog .sub 3 a3 a2 fun t17 =>
  lf (b197_2 (fun c h => R (.pan c) h) (fun v h => exq (fun ρ => (ρ 0, ρ 2, ρ 4, ρ 10)) v (fun r h_1 =>
  vBin Tryz.prog .sub 3 (r 2) (r 10) fun t53 =>
  vCall Tryz.prog 198 #[(r 0), t53, (r 2), (r 10), (r 4)] h_1 (fun t57 h_2 =>
  R (.ret (.tuple #[])) h_2)
  (fun c h => R (.pan c) h)) h)) (a0, a2, a4) (t14, t17) h
def L197 (Kp : List PanicEntry → PH → Prop) : Loops := fun c Q ρ h =>
    sel (Nat.beq (loopId c) 2) (lf (b197_2 Kp (fun v h => exq (fun ρ => (ρ 0, ρ 2, ρ 4, ρ 10)) v (Q (.exit 0)) h)) ((fun ρ => (ρ 0, ρ 2, ρ 4)) ρ) ((fun ρ => (ρ 10, ρ 11)) ρ) h)
    (False)
theorem B197_2 (Kp : List PanicEntry → PH → Prop) (KN : (Value × Value × Value) → (Value × Value) → PH → Prop) (XX : Exit → (Value × Value × Value × Value) → PH → Prop) (ρ : Env) (h : PH) :
    den Tryz.prog qf (ordOf o197) Kp (L197 Kp) (loopAt c197 0) (lq KN XX (fun ρ => (ρ 0, ρ 2, ρ 4)) (fun ρ => (ρ 10, ρ 11)) (fun ρ => (ρ 0, ρ 2, ρ 4, ρ 10))) ρ h = b197_2 Kp (XX (.exit 0)) ((fun ρ => (ρ 0, ρ 2, ρ 4)) ρ) KN ((fun ρ => (ρ 10, ρ 11)) ρ) h := by kernel_rfl
theorem l197 (R : AEnd → PH → Prop) : LoopsOK Tryz.prog qf (ordOf o197) (fun c h => R (.pan c) h) (L197 (fun c h => R (.pan c) h)) c197 :=
  LoopsOK.mk 1 (by kernel_rfl) fun i hi Q ρ h H => match i, hi with
    | 0, _ => loop_gen (F := Value × Value × Value) (S := Value × Value) (X := Value × Value × Value × Value) (φ := (fun ρ => (ρ 0, ρ 2, ρ 4))) (π := (fun ρ => (ρ 10, ρ 11))) (ξ := (fun ρ => (ρ 0, ρ 2, ρ 4, ρ 10))) (B := (fun (XX : Exit → (Value × Value × Value × Value) → PH → Prop) => b197_2 (fun c h => R (.pan c) h) (XX (.exit 0)))) (B197_2 _) (of_den (by kernel_rfl) H)
    | n + 1, hi => absurd hi (by omega)
theorem e197 (a0 a1 a2 a3 a4 : Value) (h : PH) (R : AEnd → PH → Prop) : denF Tryz.prog qf (ordOf o197) (L197 (fun c h => R (.pan c) h)) Tryz.f197.results.toList c197 #[a0, a1, a2, a3, a4] h R = sh197 a0 a1 a2 a3 a4 h R := by kernel_rfl
theorem k197 : codeOK Tryz.prog qf Tryz.f197.ntmps (ordOf o197) c197 = true := by kernel_rfl
theorem s197 : Tryz.f197.body = some c197 := by kernel_rfl
theorem call197 {a0 a1 a2 a3 a4 : Value} {h : PH} {R : AEnd → PH → Prop} (H : sh197 a0 a1 a2 a3 a4 h R) : ACalls Tryz.prog 197 #[a0, a1, a2, a3, a4] h R :=
  ACalls_of_den mixed Tryz.func197 s197 (by kernel_rfl) k197 (l197 R) (of_den (e197 a0 a1 a2 a3 a4 h R) H)

/- slices.swapRangeCmpFunc[gavel/api.Order] -/
noncomputable def c198 : Code := bodyOf Tryz.f198
def o198 : List (Nat × List (Nat × List Nat)) := [(3, [(0, []), (1, []), (2, []), (3, []), (4, []), (5, []), (6, []), (7, []), (8, []), (9, []), (10, []), (11, []), (12, []), (13, []), (14, []), (15, []), (16, []), (17, []), (18, []), (19, []), (20, []), (21, []), (22, []), (23, [])])]
def b198_1 (Kp : List PanicEntry → PH → Prop) (x0 : Unit → PH → Prop) (f : Value × Value × Value × Value) (kn : (Value × Value × Value × Value) → Value → PH → Prop) (s : Value) (h : PH) : Prop :=
  vBin Tryz.prog .lss 3 s f.2.2.2 fun t13 =>
  dIf t13 (vBin Tryz.prog .add 3 f.2.1 s fun t19 =>
  vBin Tryz.prog .add 3 f.2.2.1 s fun t23 =>
  vBin Tryz.prog .add 3 f.2.2.1 s fun t27 =>
  vIxS 6 f.1 t27 fun t28 =>
  vLoad (some 6) t28 h fun t29 =>
  vBin Tryz.prog .add 3 f.2.1 s fun t33 =>
  vIxS 6 f.1 t33 fun t34 =>
  vLoad (some 6) t34 h fun t35 =>
  vIxS 6 f.1 t19 fun t36 =>
  vStore 6 t36 t29 h fun h_1 =>
  vIxS 6 f.1 t23 fun t37 =>
  vStore 6 t37 t35 h_1 fun h_2 =>
  vBin Tryz.prog .add 3 s (.int .i64 1) fun t15 =>
  kn f t15 h_2)
  (x0 () h)

def sh198 (a0 a1 a2 a3 a4 : Value) (h : PH) (R : AEnd → PH → Prop) : Prop :=
  lf (b198_1 (fun c h => R (.pan c) h) (fun v h => exq (fun ρ => ()) v (fun r h_1 =>
  R (.ret (.tuple #[])) h_1) h)) (a0, a1, a2, a3) (.int .i64 0) h
def L198 (Kp : List PanicEntry → PH → Prop) : Loops := fun c Q ρ h =>
    sel (Nat.beq (loopId c) 1) (lf (b198_1 Kp (fun v h => exq (fun ρ => ()) v (Q (.exit 0)) h)) ((fun ρ => (ρ 0, ρ 1, ρ 2, ρ 3)) ρ) ((fun ρ => ρ 10) ρ) h)
    (False)
theorem B198_1 (Kp : List PanicEntry → PH → Prop) (KN : (Value × Value × Value × Value) → (Value) → PH → Prop) (XX : Exit → (Unit) → PH → Prop) (ρ : Env) (h : PH) :
    den Tryz.prog qf (ordOf o198) Kp (L198 Kp) (loopAt c198 0) (lq KN XX (fun ρ => (ρ 0, ρ 1, ρ 2, ρ 3)) (fun ρ => ρ 10) (fun ρ => ())) ρ h = b198_1 Kp (XX (.exit 0)) ((fun ρ => (ρ 0, ρ 1, ρ 2, ρ 3)) ρ) KN ((fun ρ => ρ 10) ρ) h := by kernel_rfl
theorem l198 (R : AEnd → PH → Prop) : LoopsOK Tryz.prog qf (ordOf o198) (fun c h => R (.pan c) h) (L198 (fun c h => R (.pan c) h)) c198 :=
  LoopsOK.mk 1 (by kernel_rfl) fun i hi Q ρ h H => match i, hi with
    | 0, _ => loop_gen (F := Value × Value × Value × Value) (S := Value) (X := Unit) (φ := (fun ρ => (ρ 0, ρ 1, ρ 2, ρ 3))) (π := (fun ρ => ρ 10)) (ξ := (fun ρ => ())) (B := (fun (XX : Exit → (Unit) → PH → Prop) => b198_1 (fun c h => R (.pan c) h) (XX (.exit 0)))) (B198_1 _) (of_den (by kernel_rfl) H)
    | n + 1, hi => absurd hi (by omega)
theorem e198 (a0 a1 a2 a3 a4 : Value) (h : PH) (R : AEnd → PH → Prop) : denF Tryz.prog qf (ordOf o198) (L198 (fun c h => R (.pan c) h)) Tryz.f198.results.toList c198 #[a0, a1, a2, a3, a4] h R = sh198 a0 a1 a2 a3 a4 h R := by kernel_rfl
theorem k198 : codeOK Tryz.prog qf Tryz.f198.ntmps (ordOf o198) c198 = true := by kernel_rfl
theorem s198 : Tryz.f198.body = some c198 := by kernel_rfl
theorem call198 {a0 a1 a2 a3 a4 : Value} {h : PH} {R : AEnd → PH → Prop} (H : sh198 a0 a1 a2 a3 a4 h R) : ACalls Tryz.prog 198 #[a0, a1, a2, a3, a4] h R :=
  ACalls_of_den mixed Tryz.func198 s198 (by kernel_rfl) k198 (l198 R) (of_den (e198 a0 a1 a2 a3 a4 h R) H)

end Go.Pw
/- All of them. -/

/- Loops told by the values that they carry; names of a function's pieces. -/
import Derived.Test.YtgpcjdmiecnphaaGreatPwG
set_option linter.unusedSimpArgs false
set_option linter.unusedVariables false
namespace Go.Pw
open Go

/-- A loop over a state of its own (s), beside values that it keeps (f): there is a relation that each round keeps, at a smaller number. -/
def lf {F S : Type} (B : F → (F → S → PH → Prop) → S → PH → Prop) (f : F) (s : S) (h : PH) : Prop :=
  ∃ (I : Nat → S → PH → Prop) (n : Nat), I n s h ∧ ∀ n s h, I n s h → B f (fun f' s' h' => f' = f ∧ ∃ m, m < n ∧ I m s' h') s h
theorem lf_intro {F S : Type} {B : F → (F → S → PH → Prop) → S → PH → Prop} {f : F} {s : S} {h : PH} (I : Nat → S → PH → Prop) (n : Nat) (h0 : I n s h)
    (hr : ∀ n s h, I n s h → B f (fun f' s' h' => f' = f ∧ ∃ m, m < n ∧ I m s' h') s h) : lf B f s h := ⟨I, n, h0, hr⟩
/-- Whatever the environment, if it holds these values. -/
def exq {X : Type} (ξ : Env → X) (v : X) (G : Env → PH → Prop) (h : PH) : Prop := ∀ ρ, ξ ρ = v → G ρ h
theorem exq_intro {X : Type} {ξ : Env → X} {v : X} (F : X → PH → Prop) {h : PH} (hF : F v h) : exq ξ v (fun ρ h => F (ξ ρ) h) h := fun ρ e => by
  show F (ξ ρ) h; rw [e]; exact hF

def lq {F S X : Type} (KN : F → S → PH → Prop) (XX : Exit → X → PH → Prop) (φ : Env → F) (π : Env → S) (ξ : Env → X) : Exit → Env → PH → Prop := fun e ρ h => match e with
  | .normal => KN (φ ρ) (π ρ) h
  | e => XX e (ξ ρ) h

section
variable {P : Program} {qf : FuncId → Bool} {ords : Nat → List (Nat × List Nat)} {Kp : List PanicEntry → PH → Prop} {L : Loops}
def loopAt (c : Code) (i : Nat) : Code := (loopsOf c).getD i .skip

theorem LoopsOK.mk {c : Code} (k : Nat) (hk : (loopsOf c).length = k) (H : ∀ i, i < k → ∀ Q ρ h, L (loopAt c i) Q ρ h → ∃ Q0 : Exit → Env → PH → Prop, (∀ e ρ h, Q0 e ρ h → Q e ρ h) ∧ LoopW (den P qf ords Kp L (loopAt c i)) Q0 ρ h) :
    LoopsOK P qf ords Kp L c := by
  intro b hb
  obtain ⟨i, hi, he⟩ := List.getElem_of_mem hb
  have : loopAt c i = b := by unfold loopAt; rw [List.getD_eq_getElem?_getD, List.getElem?_eq_getElem hi, ← he]; rfl
  rw [← this]
  exact H i (by omega)

theorem loop_gen {F S X : Type} {φ : Env → F} {π : Env → S} {ξ : Env → X} {b : Code} {B : (Exit → X → PH → Prop) → F → (F → S → PH → Prop) → S → PH → Prop}
    (hB : ∀ KN XX ρ h, den P qf ords Kp L b (lq KN XX φ π ξ) ρ h = B XX (φ ρ) KN (π ρ) h) {Q : Exit → Env → PH → Prop} {ρ : Env} {h : PH}
    (H : lf (B (fun e v h => exq ξ v (Q e) h)) (φ ρ) (π ρ) h) : ∃ Q0 : Exit → Env → PH → Prop, (∀ e ρ h, Q0 e ρ h → Q e ρ h) ∧ LoopW (den P qf ords Kp L b) Q0 ρ h := by
  obtain ⟨I, n, h0, hr⟩ := H
  refine ⟨fun e ρ h => match e with | .normal => False | e => exq ξ (ξ ρ) (Q e) h, fun e ρ h he => ?_, fun n ρ' h' => φ ρ' = φ ρ ∧ I n (π ρ') h', n, ⟨rfl, h0⟩, fun n ρ' h' hI => ?_⟩
  · cases e <;> simp only at he <;> first | exact he ρ rfl | exact he.elim
  · have h1 := hr n _ _ hI.2
    rw [← hI.1] at h1
    have h3 : den P qf ords Kp L b (lq (fun f s h => f = φ ρ' ∧ ∃ m, m < n ∧ I m s h) (fun e v h => exq ξ v (Q e) h) φ π ξ) ρ' h' := by
      rw [hB]
      exact h1
    have h4 : (fun e ρ1 h1 => match e with | .normal => ∃ m, m < n ∧ φ ρ1 = φ ρ ∧ I m (π ρ1) h1 | e => (match e with | .normal => False | e => exq ξ (ξ ρ1) (Q e) h1 : Prop)) =
        lq (fun f s h => f = φ ρ' ∧ ∃ m, m < n ∧ I m s h) (fun e v h => exq ξ v (Q e) h) φ π ξ := by
      funext e ρ1 h1
      cases e <;> first | rfl | skip
      simp only [lq]
      rw [hI.1]
      exact propext ⟨fun ⟨m, a, b, c⟩ => ⟨b, m, a, c⟩, fun ⟨b, m, a, c⟩ => ⟨m, a, b, c⟩⟩
    rw [← h4] at h3
    exact h3
end

def ordOf : List (Nat × List (Nat × List Nat)) → Nat → List (Nat × List Nat)
  | [], _ => []
  | (k, o) :: r, id => cond (Nat.beq k id) o (ordOf r id)
def memN : List Nat → Nat → Bool
  | [], _ => false
  | k :: r, id => cond (Nat.beq k id) true (memN r id)
def bodyOf (f : Func) : Code := match f.body with | some c => c | none => .skip
/-- The number of the first region of a piece of code. -/
def regionIn : Code → Option Nat
  | .region id _ _ => some id
  | .seq a b => match regionIn a with | some n => some n | none => regionIn b
  | .cond _ a b => match regionIn a with | some n => some n | none => regionIn b
  | .block _ c => regionIn c
  | .loop c => regionIn c
  | _ => none
def loopId (c : Code) : Nat := match regionIn c with | some n => n | none => 0
def sel (b : Bool) (A B : Prop) : Prop := match b with | true => A | false => B
def noLoops : Loops := fun _ _ _ _ => False
theorem noLoops_ok {P : Program} {qf : FuncId → Bool} {ords : Nat → List (Nat × List Nat)} {Kp : List PanicEntry → PH → Prop} {c : Code} (hk : (loopsOf c).length = 0) : LoopsOK P qf ords Kp noLoops c :=
  LoopsOK.mk 0 hk fun i hi => absurd hi (by omega)
theorem of_den {A B : Prop} (e : A = B) (h : B) : A := e ▸ h
end Go.Pw

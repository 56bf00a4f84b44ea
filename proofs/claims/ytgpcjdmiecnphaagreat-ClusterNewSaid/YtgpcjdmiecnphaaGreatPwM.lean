/- A function's shallow text implies its contract: in one step. -/
import Derived.Test.YtgpcjdmiecnphaaGreatPwH
set_option linter.unusedVariables false
namespace Go.Pw
open Go

abbrev V2 := Value × Value
abbrev V3 := Value × V2
abbrev V4 := Value × V3
abbrev V5 := Value × V4
abbrev V6 := Value × V5
abbrev V7 := Value × V6
abbrev V8 := Value × V7
abbrev V9 := Value × V8
abbrev V10 := Value × V9
abbrev V11 := Value × V10
abbrev V12 := Value × V11
abbrev KP := List PanicEntry → PH → Prop
abbrev RT := AEnd → PH → Prop
/-- A loop: its frame, its state, what it leaves, its number, its round. -/
structure LG where
  {F : Type}
  {S : Type}
  {X : Type}
  φ : Env → F
  π : Env → S
  ξ : Env → X
  i : Nat
  B : KP → (Exit → X → PH → Prop) → F → (F → S → PH → Prop) → S → PH → Prop
def LGL : List LG → KP → Loops
  | [], _ => noLoops
  | g :: l, Kp => fun c Q ρ h => sel (Nat.beq (loopId c) g.i) (lf (g.B Kp (fun e v h => exq g.ξ v (Q e) h)) (g.φ ρ) (g.π ρ) h) (LGL l Kp c Q ρ h)
def chk (P : Program) (qf : FuncId → Bool) (fn : Func) (o : List (Nat × List (Nat × List Nat))) (ids : List Nat) : Bool := match fn.body with
  | some c => codeOK P qf fn.ntmps (ordOf o) c && (!(fn.name == "runtime.NumGoroutine") && (decide ((loopsOf c).map loopId = ids) && decide ids.Nodup))
  | none => false
def ez (n : Nat) : List (Nat × List Nat) := (List.range n).map fun i => (i, [])
def ej (l : List (Nat × Nat × List Nat)) : List (Nat × List Nat) := l.flatMap fun r => (List.range r.2.1).map fun i => (r.1 + i, r.2.2)
section
variable {P : Program} {qf : FuncId → Bool} {ords : Nat → List (Nat × List Nat)} {Kp : KP} {L : Loops} {c : Code}
inductive LGB (P : Program) (qf : FuncId → Bool) (ords : Nat → List (Nat × List Nat)) (Kp : KP) (L : Loops) (c : Code) : Nat → List LG → Prop
  | nil {i : Nat} : LGB P qf ords Kp L c i []
  | cons {i : Nat} {g : LG} {l : List LG} : (∀ KN XX ρ h, den P qf ords Kp L (loopAt c i) (lq KN XX g.φ g.π g.ξ) ρ h = g.B Kp XX (g.φ ρ) KN (g.π ρ) h) → LGB P qf ords Kp L c (i + 1) l → LGB P qf ords Kp L c i (g :: l)
theorem LGB.get {l : List LG} : ∀ {i : Nat}, LGB P qf ords Kp L c i l → ∀ (j : Nat) (g : LG), l[j]? = some g → ∀ KN XX ρ h, den P qf ords Kp L (loopAt c (i + j)) (lq KN XX g.φ g.π g.ξ) ρ h = g.B Kp XX (g.φ ρ) KN (g.π ρ) h := by
  induction l with
  | nil => intro i _ j g h; simp at h
  | cons a l ih =>
    intro i H j g h
    cases H with
    | cons h1 h2 =>
      cases j with
      | zero => simp at h; subst h; exact h1
      | succ j =>
        simp at h
        have := ih h2 j g h
        rw [show i + (j + 1) = i + 1 + j by omega]
        exact this
theorem LGL_pick {Q : Exit → Env → PH → Prop} {ρ : Env} {h : PH} : ∀ (G : List LG), LGL G Kp c Q ρ h → ∃ (j : Nat) (g : LG), G[j]? = some g ∧ loopId c = g.i ∧ lf (g.B Kp (fun e v h => exq g.ξ v (Q e) h)) (g.φ ρ) (g.π ρ) h
  | [], H => H.elim
  | g :: l, H => by
    unfold LGL at H
    cases hb : Nat.beq (loopId c) g.i with
    | true =>
      rw [hb] at H
      exact ⟨0, g, rfl, Nat.eq_of_beq_eq_true hb, H⟩
    | false =>
      rw [hb] at H
      obtain ⟨j, g', h1, h2, h3⟩ := LGL_pick l H
      exact ⟨j + 1, g', by simpa using h1, h2, h3⟩
theorem LGL_ok {G : List LG} (hi : (loopsOf c).map loopId = G.map LG.i) (hn : (G.map LG.i).Nodup) (hB : LGB P qf ords Kp (LGL G Kp) c 0 G) : LoopsOK P qf ords Kp (LGL G Kp) c := by
  have hl : (loopsOf c).length = G.length := by have := congrArg List.length hi; simpa using this
  refine LoopsOK.mk G.length hl fun i hiG Q ρ h H => ?_
  obtain ⟨j, g, h1, h2, h3⟩ := LGL_pick G H
  have hj := (List.getElem?_eq_some_iff.1 h1).1
  have e : i = j := by
    have a1 : ((loopsOf c).map loopId)[i]? = some (loopId (loopAt c i)) := by
      unfold loopAt
      rw [List.getElem?_map, List.getD_eq_getElem?_getD, List.getElem?_eq_getElem (by omega)]; rfl
    have a2 : (G.map LG.i)[j]? = some g.i := by rw [List.getElem?_map, h1]; rfl
    rw [hi, h2] at a1
    obtain ⟨b1, c1⟩ := List.getElem?_eq_some_iff.1 a1
    obtain ⟨b2, c2⟩ := List.getElem?_eq_some_iff.1 a2
    have hp := List.pairwise_iff_getElem.1 hn
    rcases Nat.lt_trichotomy i j with h | h | h
    · exact absurd (c1.trans c2.symm) (hp i j b1 b2 h)
    · exact h
    · exact absurd (c2.trans c1.symm) (hp j i b2 b1 h)
  subst e
  have := hB.get i g h1
  rw [Nat.zero_add] at this
  exact loop_gen (B := g.B Kp) this h3
theorem calP (hm : P.follows .mixedOrders = true) {f : FuncId} {fn : Func} {args : Array Value} {h : PH} {R : AEnd → PH → Prop} {X : Prop} (o : List (Nat × List (Nat × List Nat))) (G : List LG) (hf : P.funcs[f]? = some fn) (hc : chk P qf fn o (G.map LG.i) = true)
    (hB : LGB P qf (ordOf o) (fun c h => R (.pan c) h) (LGL G fun c h => R (.pan c) h) (bodyOf fn) 0 G) (he : denF P qf (ordOf o) (LGL G fun c h => R (.pan c) h) fn.results.toList (bodyOf fn) args h R = X) (H : X) : ACalls P f args h R := by
  unfold chk at hc
  cases hb : fn.body with
  | none => rw [hb] at hc; cases hc
  | some c =>
    rw [hb] at hc
    simp only [Bool.and_eq_true, decide_eq_true_eq, Bool.not_eq_true'] at hc
    obtain ⟨h1, h2, h3, h4⟩ := hc
    have hcc : bodyOf fn = c := by unfold bodyOf; rw [hb]
    rw [hcc] at hB he
    exact ACalls_of_den hm hf hb h2 h1 (LGL_ok h3 h4 hB) (of_den he H)
end
end Go.Pw

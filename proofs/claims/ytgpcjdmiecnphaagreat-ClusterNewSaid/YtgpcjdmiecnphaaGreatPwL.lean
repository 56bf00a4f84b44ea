/- Parts of memory side by side. -/
import Derived.Test.YtgpcjdmiecnphaaGreatPwK
set_option linter.unusedSimpArgs false
set_option linter.unusedVariables false
namespace Go.Pw
open Go

def Disj (h g : PH) : Prop := ∀ b, h b ≠ none → g b = none
theorem Disj.symm {h g : PH} (d : Disj h g) : Disj g h := fun b hb => by
  cases hh : h b with
  | none => rfl
  | some o => exact absurd (d b (by rw [hh]; simp)) hb
theorem Disj.sub {h g h' g' : PH} (d : Disj h g) (s1 : Sub h' h) (s2 : Sub g' g) : Disj h' g' := fun b hb => by
  cases hh : h' b with
  | none => exact absurd hh hb
  | some o =>
    have := d b (by rw [s1 b o hh]; simp)
    cases hg : g' b with
    | none => rfl
    | some p => rw [s2 b p hg] at this; cases this
theorem sub_join_l (h g : PH) : Sub h (join h g) := fun b o hb => by simp [join, hb]
theorem sub_join_r {h g : PH} (d : Disj h g) : Sub g (join h g) := fun b o hb => by
  have : h b = none := d.symm b (by rw [hb]; simp)
  simp [join, this, hb]
theorem join_sub {h g k : PH} (s1 : Sub h k) (s2 : Sub g k) : Sub (join h g) k := fun b o hb => by
  unfold join at hb
  cases hh : h b with
  | some p => rw [hh] at hb; cases hb; exact s1 _ _ hh
  | none => rw [hh] at hb; exact s2 _ _ hb
/-- Two parts of h, side by side. -/
def sep (A B : PH → Prop) (h : PH) : Prop := ∃ h1 h2, Disj h1 h2 ∧ Sub h1 h ∧ Sub h2 h ∧ A h1 ∧ B h2
/- The judge's list has no command that makes an operator: an operator that is there is used. -/
instance : HSMul (PH → Prop) (PH → Prop) (PH → Prop) := ⟨sep⟩
theorem sep_mono {A A' B B' : PH → Prop} {h : PH} (H : (A • B) h) (ha : ∀ g, A g → A' g) (hb : ∀ g, B g → B' g) : (A' • B') h := by
  obtain ⟨h1, h2, d, s1, s2, a, b⟩ := H
  exact ⟨h1, h2, d, s1, s2, ha _ a, hb _ b⟩
theorem sep_sub {A B : PH → Prop} {h g : PH} (H : (A • B) h) (hs : Sub h g) : (A • B) g := by
  obtain ⟨h1, h2, d, s1, s2, a, b⟩ := H
  exact ⟨h1, h2, d, s1.trans hs, s2.trans hs, a, b⟩
theorem sep_c {A B : PH → Prop} {h : PH} (H : (A • B) h) : (B • A) h := by
  obtain ⟨h1, h2, d, s1, s2, a, b⟩ := H
  exact ⟨h2, h1, d.symm, s2, s1, b, a⟩
theorem sep_comm (A B : PH → Prop) : A • B = B • A := funext fun h => propext ⟨sep_c, sep_c⟩
theorem sep_a {A B C : PH → Prop} {h : PH} (H : ((A • B) • C) h) : (A • B • C) h := by
  obtain ⟨h12, h3, d, s12, s3, ⟨h1, h2, d', s1, s2, a, b⟩, c⟩ := H
  exact ⟨h1, join h2 h3, fun x hx => by
      have e1 := d' x hx
      have e2 : h3 x = none := (d.sub s1 (Sub.refl h3)) x hx
      simp [join, e1, e2], s1.trans s12, join_sub (s2.trans s12) s3, a, h2, h3, d.sub s2 (Sub.refl h3), sub_join_l _ _, sub_join_r (d.sub s2 (Sub.refl h3)), b, c⟩
theorem sep_assoc (A B C : PH → Prop) : (A • B) • C = A • B • C := funext fun h => propext ⟨sep_a, fun H => by
  have h1 := sep_a (sep_mono (sep_c H) (fun _ => sep_c) (fun _ h => h))
  exact sep_mono (sep_c (sep_mono h1 (fun _ h => h) (fun _ => sep_c))) (fun _ => sep_c) (fun _ h => h) |> fun k => by
    have k2 : (C • A • B) h := sep_mono h1 (fun _ h => h) (fun _ => sep_c)
    exact sep_c k2⟩
theorem sep_lc (A B C : PH → Prop) : A • B • C = B • A • C := by rw [← sep_assoc, sep_comm A B, sep_assoc]
/-- What stands in a part stands in the whole. -/
def Mono (A : PH → Prop) : Prop := ∀ h g, Sub h g → A h → A g
theorem sep_l {A B : PH → Prop} {h : PH} (m : Mono A) (H : (A • B) h) : A h := by
  obtain ⟨h1, h2, d, s1, s2, a, b⟩ := H
  exact m _ _ s1 a
theorem sep_r {A B : PH → Prop} {h : PH} (m : Mono B) (H : (A • B) h) : B h := sep_l m (sep_c H)
theorem mono_sep (A B : PH → Prop) : Mono (A • B) := fun _ _ s H => sep_sub H s
theorem sep_and {p : Prop} {A B : PH → Prop} {h : PH} : ((fun g => p ∧ A g) • B) h ↔ p ∧ (A • B) h :=
  ⟨fun ⟨h1, h2, d, s1, s2, ⟨hp, a⟩, b⟩ => ⟨hp, h1, h2, d, s1, s2, a, b⟩, fun ⟨hp, h1, h2, d, s1, s2, a, b⟩ => ⟨h1, h2, d, s1, s2, ⟨hp, a⟩, b⟩⟩
theorem sep_ex {X : Type} {A : X → PH → Prop} {B : PH → Prop} {h : PH} : ((fun g => ∃ x, A x g) • B) h ↔ ∃ x, (A x • B) h :=
  ⟨fun ⟨h1, h2, d, s1, s2, ⟨x, a⟩, b⟩ => ⟨x, h1, h2, d, s1, s2, a, b⟩, fun ⟨x, h1, h2, d, s1, s2, a, b⟩ => ⟨h1, h2, d, s1, s2, ⟨x, a⟩, b⟩⟩
def emp : PH → Prop := fun _ => True
theorem sep_emp {A : PH → Prop} {h : PH} (H : A h) : (A • emp) h := ⟨h, fun _ => none, fun _ _ => rfl, Sub.refl h, (fun _ _ e => by simp at e), H, trivial⟩
theorem mono_emp : Mono emp := fun _ _ _ _ => trivial
def pt (b : Nat) (o : Obj) : PH → Prop := fun h => h b = some o
theorem mono_pt (b : Nat) (o : Obj) : Mono (pt b o) := fun _ _ s H => s _ _ H
theorem pt_get {b : Nat} {o : Obj} {C : PH → Prop} {h : PH} (H : (pt b o • C) h) : h b = some o := sep_l (mono_pt b o) H
def one (b : Nat) (o : Obj) : PH := ins (fun _ => none) b o
theorem one_sub {b : Nat} {o : Obj} {h : PH} (hb : h b = some o) : Sub (one b o) h := fun x p hp => by
  unfold one at hp
  by_cases e : x = b
  · subst e; rw [ins_eq] at hp; cases hp; exact hb
  · rw [ins_ne _ _ e] at hp; cases hp
theorem pt_put {b : Nat} {o p : Obj} {C : PH → Prop} {h : PH} (H : (pt b o • C) h) : (pt b p • C) (ins h b p) := by
  obtain ⟨h1, h2, d, s1, s2, a, c⟩ := H
  have hb : h2 b = none := d b (by rw [show h1 b = some o from a]; simp)
  refine ⟨one b p, h2, fun x hx => ?_, one_sub (ins_eq _ _ _), fun x q hq => ?_, ins_eq _ _ _, c⟩
  · by_cases e : x = b
    · subst e; exact hb
    · exact absurd (by unfold one; rw [ins_ne _ _ e]) hx
  · rw [ins_ne _ _ (fun e => by rw [e, hb] at hq; cases hq)]; exact s2 _ _ hq
theorem pt_new {b : Nat} {o : Obj} {C : PH → Prop} {h : PH} (hb : h b = none) (H : C h) : (pt b o • C) (ins h b o) :=
  ⟨one b o, h, fun x hx => by
    by_cases e : x = b
    · subst e; exact hb
    · exact absurd (by unfold one; rw [ins_ne _ _ e]) hx, one_sub (ins_eq _ _ _), sub_ins _ hb, ins_eq _ _ _, H⟩
theorem pt_ne {b c : Nat} {o p : Obj} {C : PH → Prop} {h : PH} (H : (pt b o • pt c p • C) h) : b ≠ c := fun e => by
  subst e
  obtain ⟨h1, h2, d, s1, s2, a, c⟩ := H
  have := d b (by rw [show h1 b = some o from a]; simp)
  rw [pt_get c] at this; cases this
/-- A block of the whole that a part has not is not the part's. -/
theorem sep_own {A C : PH → Prop} {h : PH} (m : Mono A) (H : (A • C) h) : ∃ h1, A h1 ∧ Sub h1 h ∧ (∀ h', Sub h1 h' → (∀ b, h1 b = none → h' b = h b) → (A • C) h') := by
  obtain ⟨h1, h2, d, s1, s2, a, c⟩ := H
  exact ⟨h1, a, s1, fun h' s' he => ⟨h1, h2, d, s', fun b o hb => by rw [he b (d.symm b (by rw [hb]; simp))]; exact s2 _ _ hb, a, c⟩⟩

/-- A contract stands beside what it does not touch. -/
theorem ACalls.sep {P : Program} {f : FuncId} {args : Array Value} {h : PH} {A C : PH → Prop} {Q R : AEnd → PH → Prop} (hs : (A • C) h) (H : ∀ g, A g → ACalls P f args g Q) (hR : ∀ e g, (Q e • C) g → R e g) :
    ACalls P f args h R := by
  obtain ⟨h1, h2, d, s1, s2, a, c⟩ := hs
  have hj : h = join h1 (fun b => match h1 b with | some _ => none | none => h b) := by
    funext b
    unfold join
    cases hh : h1 b with
    | none => simp [hh]
    | some o => exact s1 _ _ hh
  rw [hj]
  refine ((H h1 a).frame _ fun b hb => ?_).mono ?_
  · cases hh : h1 b with
    | none => exact absurd hh hb
    | some o => rfl
  · rintro e g ⟨g1, rfl, hd, hq⟩
    refine hR e _ ⟨g1, h2, fun b hb => ?_, sub_join_l _ _, fun b o hb => ?_, hq, c⟩
    · cases hh : h2 b with
      | none => rfl
      | some o =>
        refine absurd (hd b ?_) hb
        have : h1 b = none := d.symm b (by rw [hh]; simp)
        simp [this, s2 _ _ hh]
    · have e1 : h1 b = none := d.symm b (by rw [hb]; simp)
      have e2 : g1 b = none := hd b (by simp [e1, s2 _ _ hb])
      simp [join, e1, e2, s2 _ _ hb]

/-- A row of parts. -/
def stars (A : Nat → PH → Prop) : Nat → PH → Prop
  | 0 => emp
  | n + 1 => stars A n • A n
def upA (A : Nat → PH → Prop) (i : Nat) (B : PH → Prop) : Nat → PH → Prop := fun k => if k = i then B else A k
theorem stars_congr {A B : Nat → PH → Prop} : ∀ (n : Nat), (∀ k, k < n → A k = B k) → stars A n = stars B n
  | 0, _ => rfl
  | n + 1, H => by unfold stars; rw [stars_congr n fun k hk => H k (by omega), H n (by omega)]
theorem sep_emp_eq {A : PH → Prop} (m : Mono A) : A • emp = A := funext fun h => propext ⟨sep_l m, sep_emp⟩
theorem mono_stars (A : Nat → PH → Prop) : ∀ n, Mono (stars A n)
  | 0 => mono_emp
  | n + 1 => mono_sep _ _
theorem stars_take {A : Nat → PH → Prop} {i : Nat} {B : PH → Prop} (hm : Mono B) : ∀ (n : Nat), i < n → stars (upA A i B) n = B • stars (upA A i emp) n
  | n + 1, hi => by
    unfold stars
    by_cases e : i = n
    · subst e
      have e1 : stars (upA A i B) i = stars A i := stars_congr _ fun k hk => by unfold upA; rw [if_neg (by omega)]
      have e2 : stars (upA A i emp) i = stars A i := stars_congr _ fun k hk => by unfold upA; rw [if_neg (by omega)]
      have e3 : upA A i B i = B := if_pos rfl
      have e4 : upA A i emp i = emp := if_pos rfl
      rw [e1, e2, e3, e4, sep_emp_eq (mono_stars A i), sep_comm]
    · rw [stars_take hm n (by omega), sep_assoc]
      have e1 : upA A i B n = A n := if_neg (by omega)
      have e2 : upA A i emp n = A n := if_neg (by omega)
      rw [e1, e2]
theorem upA_self (A : Nat → PH → Prop) (i : Nat) : upA A i (A i) = A := by
  funext k; unfold upA; split
  · rename_i e; rw [e]
  · rfl
theorem stars_get {A : Nat → PH → Prop} {i n : Nat} (hi : i < n) (hm : Mono (A i)) : stars A n = A i • stars (upA A i emp) n := by
  have := stars_take (A := A) (B := A i) hm n hi
  rwa [upA_self] at this
instance : Std.Associative (HSMul.hSMul : (PH → Prop) → (PH → Prop) → (PH → Prop)) := ⟨sep_assoc⟩
instance : Std.Commutative (HSMul.hSMul : (PH → Prop) → (PH → Prop) → (PH → Prop)) := ⟨sep_comm⟩
theorem st1 {r off : Nat} {cs : Array Value} {e : TypeId} {v : Value} {X : PH → Prop} {G : PH} {K : PH → Prop} (H : (pt r (.cells cs e (0, 0)) • X) G) (hl : off < cs.size) (ho : v.oneCell' = true) (hk : ∀ G', (pt r (.cells (cs.setIfInBounds off v) e (0, 0)) • X) G' → K G') : vStore 1 (.pointer (some ⟨r, off, none⟩)) v G K :=
  (vStore_1 (pt_get H) hl ho).2 (hk _ (pt_put H))
end Go.Pw

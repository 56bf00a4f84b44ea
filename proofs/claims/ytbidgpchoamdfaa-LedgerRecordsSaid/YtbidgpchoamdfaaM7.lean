/- Texts of this claim, one behind the other. -/
import Derived.Test.YtbidgpchoamdfaaM5
import Derived.Test.YtbidgpchoamdfaaM6
import Derived.Test.YtbidgpchoamdfaaRows
import Derived.Deep.Slices
/- The law's arguments, opened: a call by value, a slice of calls. -/
set_option linter.unusedSimpArgs false
set_option linter.unusedVariables false
namespace Go.Pw
open Go Go.Proofs Go.ChangeShapes Go.WideShapes Go.ChangeAt Go.RowKit Go.Deep

theorem try_own : ownKnob Try.prog.godebug = none := by kernel_rfl
theorem try_laid : laidOutB Try.prog = true := by kernel_rfl
theorem try_cells_act : Try.prog.cellsOf 24 = 6 := by kernel_rfl
theorem try_cells_int : Try.prog.cellsOf 3 = 1 := by kernel_rfl
theorem try_cells_string : Try.prog.cellsOf 9 = 1 := by kernel_rfl

theorem take1_eq {α : Type} {l : List α} {i : Nat} {a : α} (h : (l.drop i).take 1 = [a]) : l[i]? = some a := by
  have : ((l.drop i).take 1)[0]? = some a := by rw [h]; rfl
  simpa using this

section
variable {H : Type} {enc : TypeId × Value → H} {w : World} {base : Nat} {spare : Nat → Bool} {held : Bool}
theorem trod_act {fuel : Nat} {cs : List Value} {x : DataW H × List MemPlace} (h : DataW.trod enc Try.prog w base spare held fuel 24 cs = some x) : ∃ a : ActV, cs = a.cells.toList := by
  obtain ⟨xs, n, _, _, hl, hlen, hf⟩ := DataW.trod_struct Try.underlying24 h
  rw [try_cells_act] at hl
  have hlen6 : xs.length = 6 := hlen
  have num : ∀ i, i < 5 → ∃ a, cs[i]? = some (.int .i64 a) := fun i hi => by
    have hx : ∃ z, xs[i]? = some z := ⟨xs[i]'(by omega), List.getElem?_eq_getElem (by omega)⟩
    obtain ⟨z, hz⟩ := hx
    have key : ∀ f : Field, f.type = 3 → f.offset = i → DataW.trod enc Try.prog w base spare held n f.type (List.take (Try.prog.cellsOf f.type) (List.drop f.offset cs)) = some z → ∃ a, cs[i]? = some (.int .i64 a) := fun f ht ho hh => by
      rw [ht, try_cells_int, ho] at hh
      obtain ⟨a, e, _, _⟩ := DataW.trod_int Try.underlying3 hh
      exact ⟨a, take1_eq e⟩
    match i, hi with
    | 0, _ => exact key _ rfl rfl ((hf 0 _ rfl).trans hz)
    | 1, _ => exact key _ rfl rfl ((hf 1 _ rfl).trans hz)
    | 2, _ => exact key _ rfl rfl ((hf 2 _ rfl).trans hz)
    | 3, _ => exact key _ rfl rfl ((hf 3 _ rfl).trans hz)
    | 4, _ => exact key _ rfl rfl ((hf 4 _ rfl).trans hz)
  have txt : ∃ s, cs[5]? = some (.string s) := by
    have hx : ∃ z, xs[5]? = some z := ⟨xs[5]'(by omega), List.getElem?_eq_getElem (by omega)⟩
    obtain ⟨z, hz⟩ := hx
    have key : ∀ f : Field, f.type = 9 → f.offset = 5 → DataW.trod enc Try.prog w base spare held n f.type (List.take (Try.prog.cellsOf f.type) (List.drop f.offset cs)) = some z → ∃ a, cs[5]? = some (.string a) := fun f ht ho hh => by
      rw [ht, try_cells_string, ho] at hh
      obtain ⟨a, e, _, _⟩ := DataW.trod_string Try.underlying9 hh
      exact ⟨a, take1_eq e⟩
    exact key _ rfl rfl ((hf 5 _ rfl).trans hz)
  obtain ⟨a0, h0⟩ := num 0 (by omega)
  obtain ⟨a1, h1⟩ := num 1 (by omega)
  obtain ⟨a2, h2⟩ := num 2 (by omega)
  obtain ⟨a3, h3⟩ := num 3 (by omega)
  obtain ⟨a4, h4⟩ := num 4 (by omega)
  obtain ⟨s, h5⟩ := txt
  refine ⟨⟨a0, a1, a2, a3, a4, s⟩, ?_⟩
  apply List.ext_getElem?
  intro i
  rcases Nat.lt_or_ge i 6 with hi | hi
  · match i, hi with
    | 0, _ => exact h0
    | 1, _ => exact h1
    | 2, _ => exact h2
    | 3, _ => exact h3
    | 4, _ => exact h4
    | 5, _ => exact h5
  · rw [List.getElem?_eq_none (by omega), List.getElem?_eq_none (by simpa [ActV.cells] using hi)]
set_option maxRecDepth 100000 in
theorem open_act {v : Value} {d : DataW H} {p : List MemPlace} {r : Reach} {b0 : Nat} (hv : Value.okWide Try.prog w r b0 24 v) (h : DataW.Trod enc Try.prog w base spare held 24 v d p) : ∃ a : ActV, v = a.v := by
  obtain ⟨cs, rfl, hsz⟩ := okWide_struct Try.underlying24 hv
  obtain ⟨fuel, hf⟩ := h
  obtain ⟨a, ha⟩ := trod_act hf
  refine ⟨a, ?_⟩
  simp only [Value.cells] at ha
  unfold ActV.v
  rw [Array.toList_inj.1 ha]

instance : Inhabited ActV := ⟨⟨0, 0, 0, 0, 0, ⟨#[]⟩⟩⟩
/-- The slice of calls l lies at v. -/
def ActsAt (h : PH) (v : Value) (l : List ActV) : Prop :=
  ∃ p cap, v = .slice p l.length cap ∧ l.length ≤ cap ∧ ∀ i a, l[i]? = some a → ∃ b off c e fr, p = some ⟨b, off, none⟩ ∧ h b = some (.cells c e fr) ∧ off + i * 6 + 6 ≤ c.size ∧ c.extract (off + i * 6) (off + i * 6 + 6) = a.cells

theorem mapM_range_get {f : Nat → Option Value} : ∀ {n : Nat} {l : List Value}, (List.range n).mapM f = some l → l.length = n ∧ ∀ i, i < n → f i = l[i]? := fun {n l} h => by
  have h1 := mapM_some_length h
  refine ⟨by simpa using h1, fun i hi => ?_⟩
  have := mapM_some_get h i i (by simp [hi])
  exact this

theorem cells_at {n : Nat} {a : Addr} {l : List Value} (hn : 0 < n) (h : w.cells? base a n = some l) : ∃ b off c e fr, a = ⟨b, off, none⟩ ∧ w.heap[b]? = some (.cells c e fr) ∧ off + n ≤ c.size ∧ (c.extract off (off + n)).toList = l := by
  unfold World.cells? at h
  split at h
  · obtain ⟨hl, hg⟩ := mapM_range_get h
    obtain ⟨b, off, fl⟩ := a
    have h0 : w.cell? ((⟨b, off, fl⟩ : Addr).add 0) = l[0]? := hg 0 hn
    rw [List.getElem?_eq_getElem (by omega), show (⟨b, off, fl⟩ : Addr).add 0 = ⟨b, off, fl⟩ by simp [Addr.add]] at h0
    unfold World.cell? at h0
    simp only at h0
    cases hb : w.heap[b]? with
    | none => rw [hb] at h0; cases h0
    | some o =>
      rw [hb] at h0
      cases o with
      | cells c e fr =>
        simp only at h0
        cases fl with
        | some f => simp at h0
        | none =>
          have hc : ∀ i, i < n → c[off + i]? = l[i]? := fun i hi => by
            have := hg i hi
            rw [add_lit] at this
            unfold World.cell? at this
            simpa [hb] using this
          refine ⟨b, off, c, e, fr, rfl, hb, ?_, ?_⟩
          · have := hc (n - 1) (by omega)
            rw [List.getElem?_eq_getElem (by omega)] at this
            have := (Array.getElem?_eq_some_iff.1 this).1
            omega
          · apply List.ext_getElem?
            intro i
            rw [Array.getElem?_toList, Array.getElem?_extract]
            by_cases hi : i < n
            · have h9 := hc i hi
              rw [List.getElem?_eq_getElem (by omega)] at h9 ⊢
              have := (Array.getElem?_eq_some_iff.1 h9).1
              rw [if_pos (by omega), h9]
            · rw [List.getElem?_eq_none (by omega), if_neg (by omega)]
      | _ => simp at h0
  · cases h

set_option maxRecDepth 100000 in
theorem open_acts {v : Value} {d : DataW H} {p : List MemPlace} {r : Reach} {b0 : Nat} {sp : Nat → Bool} (hv : Value.okWide Try.prog w r b0 22 v) (h : DataW.Trod enc Try.prog w base sp held 22 v d p) :
    ∃ l : List ActV, ActsAt (whole w) v l := by
  obtain ⟨a0, len, cap, rfl⟩ := okWide_slice Try.underlying22 hv
  obtain ⟨fuel, hf⟩ := h
  rcases open_slice Try.underlying22 hf with ⟨hcs, hx⟩ | ⟨a, len', cap', m, n, D, Pl, hcs, _, hl, hm, hmm, hx, hel⟩
  · simp only [Value.cells, Array.toList] at hcs
    injection hcs with h1 _
    injection h1 with h1 h2 h3
    subst h1 h2 h3
    exact ⟨[], none, 0, rfl, Nat.le_refl _, fun i a h => by cases h⟩
  · simp only [Value.cells, Array.toList] at hcs
    injection hcs with h1 _
    injection h1 with h1 h2 h3
    subst h1 h2 h3
    have hm' : len ≤ m := by rw [hmm]; split <;> omega
    by_cases hl0 : len = 0
    · subst hl0
      exact ⟨[], some a, cap, rfl, Nat.zero_le _, fun i a h => by cases h⟩
    obtain ⟨b, off, rfl⟩ : ∃ b off, a = ⟨b, off, none⟩ := by
      obtain ⟨cs', g1, g2⟩ := hel 0 (by omega)
      rw [try_cells_act] at g1
      obtain ⟨b, off, c, e, fr, q1, q2, q3, q4⟩ := cells_at (by omega) g1
      rw [show a.add (0 * 6) = a by simp [Addr.add]] at q1
      exact ⟨b, off, q1⟩
    have one : ∀ i, i < len → ∃ x : ActV, ∃ c e fr, whole w b = some (.cells c e fr) ∧ off + i * 6 + 6 ≤ c.size ∧ c.extract (off + i * 6) (off + i * 6 + 6) = x.cells := fun i hi => by
      obtain ⟨cs', g1, g2⟩ := hel i (by omega)
      rw [try_cells_act, add_lit] at g1
      obtain ⟨x, hx⟩ := trod_act g2
      obtain ⟨b', off', c, e, fr, q1, q2, q3, q4⟩ := cells_at (by omega) g1
      simp only [Addr.mk.injEq] at q1
      obtain ⟨rfl, rfl, _⟩ := q1
      exact ⟨x, c, e, fr, q2, q3, Array.toList_inj.1 (q4.trans hx)⟩
    obtain ⟨F, hF⟩ := choose_lt one
    refine ⟨(List.range len).map F, some ⟨b, off, none⟩, cap, by simp, by simpa using hl, fun i x hx => ?_⟩
    rw [List.getElem?_map] at hx
    by_cases hi : i < len
    · rw [List.getElem?_range hi] at hx
      cases hx
      obtain ⟨c, e, fr, q2, q3, q4⟩ := hF i hi
      exact ⟨b, off, c, e, fr, rfl, q2, q3, q4⟩
    · rw [List.getElem?_eq_none (by simp; omega)] at hx
      cases hx
end
end Go.Pw

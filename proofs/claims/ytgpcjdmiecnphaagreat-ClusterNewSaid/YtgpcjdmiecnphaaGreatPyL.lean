/- A slice of whole numbers, opened. -/
import Derived.Test.YtgpcjdmiecnphaaGreatPyC
import Derived.Test.YtgpcjdmiecnphaaGreatPyI
import Derived.ChangeSlices
set_option linter.unusedSimpArgs false
set_option linter.unusedVariables false
namespace Go.Pw
open Go Go.Proofs Go.ChangeShapes Go.WideShapes Go.ChangeAt Go.RowKit Go.Deep
section
variable {H : Type} {enc : TypeId × Value → H} {w : World} {base : Nat} {held : Bool}
theorem cell_at {a : Addr} {v : Value} (h : w.cell? a = some v) : ∃ b off c e fr, a = ⟨b, off, none⟩ ∧ w.heap[b]? = some (.cells c e fr) ∧ c[off]? = some v := by
  obtain ⟨b, off, fl⟩ := a
  unfold World.cell? at h
  simp only at h
  cases hb : w.heap[b]? with
  | none => rw [hb] at h; cases h
  | some o =>
    rw [hb] at h
    cases o with
    | cells c e fr =>
      simp only at h
      cases fl with
      | some f => simp at h
      | none => exact ⟨b, off, c, e, fr, rfl, hb, by simpa using h⟩
    | _ => simp at h
set_option maxRecDepth 100000 in
theorem open_nums {v : Value} {d : DataW H} {p : List MemPlace} {r : Reach} {b0 : Nat} {sp : Nat → Bool} (hv : Value.okWide Tryz.prog w r b0 46 v) (h : DataW.Trod enc Tryz.prog w base sp held 46 v d p) : ∃ l : List Int, IntsAt v l (whole w) ∧ (l.length : Int) ≤ 9223372036854775807 := by
  obtain ⟨a0, len, cap, rfl⟩ := okWide_slice Tryz.underlying46 hv
  obtain ⟨fuel, hf⟩ := h
  rcases open_ints Tryz.underlying46 Tryz.underlying3 try_cells_int hf with ⟨hcs, hx⟩ | ⟨a, len', cap', zs, hcs, _, hl, hm, hz, hx, hel, _⟩
  · simp only [Value.cells, Array.toList] at hcs
    injection hcs with h1 _
    injection h1 with h1 h2 h3
    subst h1 h2 h3
    exact ⟨[], .inl ⟨rfl, none, 0, rfl⟩, by simp⟩
  · simp only [Value.cells, Array.toList] at hcs
    injection hcs with h1 _
    injection h1 with h1 h2 h3
    subst h1 h2 h3
    have hzl : len ≤ zs.length := by rw [hz]; split <;> omega
    have hmax : (len : Int) ≤ 9223372036854775807 := by unfold maxLen at hm; omega
    by_cases hl0 : len = 0
    · subst hl0
      exact ⟨[], .inl ⟨rfl, some a, cap, rfl⟩, by simp⟩
    have ht : (zs.take len).length = len := by rw [List.length_take]; omega
    obtain ⟨b, off, c, e, fr, ea, hb, _⟩ := cell_at (hel 0 (by omega))
    have ea' : a = ⟨b, off, none⟩ := by simpa [Addr.add] using ea
    subst ea'
    refine ⟨zs.take len, .inr ⟨b, off, cap, c, e, fr, by rw [ht], hb, fun i x hi => ?_⟩, by rw [ht]; exact hmax⟩
    have hil : i < len := by
      have := (List.getElem?_eq_some_iff.1 hi).1
      omega
    obtain ⟨b', off', c', e', fr', q1, q2, q3⟩ := cell_at (hel i (by omega))
    rw [add_lit] at q1
    simp only [Addr.mk.injEq, and_true] at q1
    obtain ⟨rfl, rfl⟩ := q1
    rw [hb] at q2
    cases q2
    rw [q3]
    rw [List.getElem?_take, if_pos hil] at hi
    rw [List.getD_eq_getElem?_getD, hi]
    rfl
end
end Go.Pw

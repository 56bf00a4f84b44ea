/- Texts of this claim, one behind the other. -/
import Derived.Test.YtboeddfdbpjnjaaGreatM8
import Derived.Test.YtboeddfdbpjnjaaGreatM16
import Derived.Laws.Cover2
/- The House laws' arguments, opened: a request by value, a slice of requests. -/
set_option linter.unusedSimpArgs false
set_option linter.unusedVariables false
namespace Go.Pw
open Go Go.Proofs Go.ChangeShapes Go.WideShapes Go.ChangeAt Go.RowKit Go.Deep

theorem try_cells_ask : Tryz.prog.cellsOf 27 = 10 := by kernel_rfl
theorem try_cells_op : Tryz.prog.cellsOf 25 = 6 := by kernel_rfl
theorem try_cells_bool : Tryz.prog.cellsOf 4 = 1 := by kernel_rfl
theorem try_cells_float : Tryz.prog.cellsOf 23 = 1 := by kernel_rfl
section
variable {H : Type} {enc : TypeId × Value → H} {w : World} {base : Nat} {spare : Nat → Bool} {held : Bool}
theorem trod_float {P : Program} {t : TypeId} {k : FloatKind} {fuel : Nat} {cs : List Value} {x : DataW H × List MemPlace} (ht : P.underlying t = some (.float k)) (h : DataW.trod enc P w base spare held fuel t cs = some x) : ∃ b, cs = [.float k b] ∧ (Lit.float k b).wf = true := by
  cases fuel with
  | zero => simp [DataW.trod] at h
  | succ n =>
    unfold DataW.trod at h
    rw [ht] at h
    split at h <;> simp_all
theorem take_sub {α : Type} {l : List α} {o n i : Nat} (hi : i < n) : ((l.drop o).take n)[i]? = l[o + i]? := by
  rw [List.getElem?_take, if_pos hi, List.getElem?_drop]
set_option maxRecDepth 100000 in
theorem trod_op {fuel : Nat} {cs : List Value} {x : DataW H × List MemPlace} (h : DataW.trod enc Tryz.prog w base spare held fuel 25 cs = some x) : ∃ a : OpV, cs = a.a.toList ∧ a.price < 18446744073709551616 := by
  obtain ⟨xs, n, _, _, hl, hlen, hf⟩ := DataW.trod_struct Tryz.underlying25 h
  rw [try_cells_op] at hl
  have hlen6 : xs.length = 6 := hlen
  have num : ∀ i, i < 5 → ∃ a, cs[i]? = some (.int .i64 a) := fun i hi => by
    obtain ⟨z, hz⟩ : ∃ z, xs[i]? = some z := ⟨xs[i]'(by omega), List.getElem?_eq_getElem (by omega)⟩
    have key : ∀ f : Field, f.type = 3 → f.offset = i → DataW.trod enc Tryz.prog w base spare held n f.type (List.take (Tryz.prog.cellsOf f.type) (List.drop f.offset cs)) = some z → ∃ a, cs[i]? = some (.int .i64 a) := fun f ht ho hh => by
      rw [ht, try_cells_int, ho] at hh
      obtain ⟨a, e, _, _⟩ := DataW.trod_int Tryz.underlying3 hh
      exact ⟨a, take1_eq e⟩
    match i, hi with
    | 0, _ => exact key _ rfl rfl ((hf 0 _ rfl).trans hz)
    | 1, _ => exact key _ rfl rfl ((hf 1 _ rfl).trans hz)
    | 2, _ => exact key _ rfl rfl ((hf 2 _ rfl).trans hz)
    | 3, _ => exact key _ rfl rfl ((hf 3 _ rfl).trans hz)
    | 4, _ => exact key _ rfl rfl ((hf 4 _ rfl).trans hz)
  have flt : ∃ b, cs[5]? = some (.float .f64 b) ∧ b < 18446744073709551616 := by
    obtain ⟨z, hz⟩ : ∃ z, xs[5]? = some z := ⟨xs[5]'(by omega), List.getElem?_eq_getElem (by omega)⟩
    have key : ∀ f : Field, f.type = 23 → f.offset = 5 → DataW.trod enc Tryz.prog w base spare held n f.type (List.take (Tryz.prog.cellsOf f.type) (List.drop f.offset cs)) = some z → ∃ b, cs[5]? = some (.float .f64 b) ∧ b < 18446744073709551616 := fun f ht ho hh => by
      rw [ht, try_cells_float, ho] at hh
      obtain ⟨a, e, hw⟩ := trod_float Tryz.underlying23 hh
      refine ⟨a, take1_eq e, ?_⟩
      simp only [Lit.wf, decide_eq_true_eq] at hw
      exact hw
    exact key _ rfl rfl ((hf 5 _ rfl).trans hz)
  obtain ⟨a0, h0⟩ := num 0 (by omega)
  obtain ⟨a1, h1⟩ := num 1 (by omega)
  obtain ⟨a2, h2⟩ := num 2 (by omega)
  obtain ⟨a3, h3⟩ := num 3 (by omega)
  obtain ⟨a4, h4⟩ := num 4 (by omega)
  obtain ⟨b, h5, hb⟩ := flt
  refine ⟨⟨a0, a1, a2, a3, a4, b⟩, ?_, hb⟩
  apply List.ext_getElem?
  intro i
  rcases Nat.lt_or_ge i 6 with hi | hi
  · match i, hi with
    | 0, _ => exact h0
    | 1, _ => exact h1
    | 2, _ => exact h2
    | 3, _ => exact h3
    | 4, _ => exact h4
    | 5, _ => exact h5
  · rw [List.getElem?_eq_none (by omega), List.getElem?_eq_none (by simpa [OpV.a] using hi)]
set_option maxRecDepth 100000 in
theorem trod_ask {fuel : Nat} {cs : List Value} {x : DataW H × List MemPlace} (h : DataW.trod enc Tryz.prog w base spare held fuel 27 cs = some x) : ∃ a : Ask, cs = a.a.toList ∧ a.ok := by
  obtain ⟨xs, n, _, _, hl, hlen, hf⟩ := DataW.trod_struct Tryz.underlying27 h
  rw [try_cells_ask] at hl
  have hlen5 : xs.length = 5 := hlen
  have num : ∀ i, i < 2 → ∃ a, cs[i]? = some (.int .i64 a) := fun i hi => by
    obtain ⟨z, hz⟩ : ∃ z, xs[i]? = some z := ⟨xs[i]'(by omega), List.getElem?_eq_getElem (by omega)⟩
    have key : ∀ f : Field, f.type = 3 → f.offset = i → DataW.trod enc Tryz.prog w base spare held n f.type (List.take (Tryz.prog.cellsOf f.type) (List.drop f.offset cs)) = some z → ∃ a, cs[i]? = some (.int .i64 a) := fun f ht ho hh => by
      rw [ht, try_cells_int, ho] at hh
      obtain ⟨a, e, _, _⟩ := DataW.trod_int Tryz.underlying3 hh
      exact ⟨a, take1_eq e⟩
    match i, hi with
    | 0, _ => exact key _ rfl rfl ((hf 0 _ rfl).trans hz)
    | 1, _ => exact key _ rfl rfl ((hf 1 _ rfl).trans hz)
  have opx : ∃ o : OpV, ((cs.drop 2).take 6) = o.a.toList ∧ o.price < 18446744073709551616 := by
    obtain ⟨z, hz⟩ : ∃ z, xs[2]? = some z := ⟨xs[2]'(by omega), List.getElem?_eq_getElem (by omega)⟩
    have key : ∀ f : Field, f.type = 25 → f.offset = 2 → DataW.trod enc Tryz.prog w base spare held n f.type (List.take (Tryz.prog.cellsOf f.type) (List.drop f.offset cs)) = some z → ∃ o : OpV, ((cs.drop 2).take 6) = o.a.toList ∧ o.price < 18446744073709551616 := fun f ht ho hh => by
      rw [ht, try_cells_op, ho] at hh
      exact trod_op hh
    exact key _ rfl rfl ((hf 2 _ rfl).trans hz)
  have boo : ∃ b, cs[8]? = some (.bool b) := by
    obtain ⟨z, hz⟩ : ∃ z, xs[3]? = some z := ⟨xs[3]'(by omega), List.getElem?_eq_getElem (by omega)⟩
    have key : ∀ f : Field, f.type = 4 → f.offset = 8 → DataW.trod enc Tryz.prog w base spare held n f.type (List.take (Tryz.prog.cellsOf f.type) (List.drop f.offset cs)) = some z → ∃ b, cs[8]? = some (.bool b) := fun f ht ho hh => by
      rw [ht, try_cells_bool, ho] at hh
      obtain ⟨a, e, _⟩ := DataW.trod_bool Tryz.underlying4 hh
      exact ⟨a, take1_eq e⟩
    exact key _ rfl rfl ((hf 3 _ rfl).trans hz)
  have txt : ∃ s, cs[9]? = some (.string s) := by
    obtain ⟨z, hz⟩ : ∃ z, xs[4]? = some z := ⟨xs[4]'(by omega), List.getElem?_eq_getElem (by omega)⟩
    have key : ∀ f : Field, f.type = 9 → f.offset = 9 → DataW.trod enc Tryz.prog w base spare held n f.type (List.take (Tryz.prog.cellsOf f.type) (List.drop f.offset cs)) = some z → ∃ a, cs[9]? = some (.string a) := fun f ht ho hh => by
      rw [ht, try_cells_string, ho] at hh
      obtain ⟨a, e, _, _⟩ := DataW.trod_string Tryz.underlying9 hh
      exact ⟨a, take1_eq e⟩
    exact key _ rfl rfl ((hf 4 _ rfl).trans hz)
  obtain ⟨a0, h0⟩ := num 0 (by omega)
  obtain ⟨a1, h1⟩ := num 1 (by omega)
  obtain ⟨o, ho, hp⟩ := opx
  obtain ⟨b, h8⟩ := boo
  obtain ⟨s, h9⟩ := txt
  have hos : ∀ i, i < 6 → cs[2 + i]? = o.a[i]? := fun i hi => by
    rw [← take_sub (n := 6) hi, ho, Array.getElem?_toList]
  refine ⟨⟨a0, a1, o, b, s⟩, ?_, hp⟩
  apply List.ext_getElem?
  intro i
  rcases Nat.lt_or_ge i 10 with hi | hi
  · match i, hi with
    | 0, _ => exact h0
    | 1, _ => exact h1
    | 2, _ => exact hos 0 (by omega)
    | 3, _ => exact hos 1 (by omega)
    | 4, _ => exact hos 2 (by omega)
    | 5, _ => exact hos 3 (by omega)
    | 6, _ => exact hos 4 (by omega)
    | 7, _ => exact hos 5 (by omega)
    | 8, _ => exact h8
    | 9, _ => exact h9
  · rw [List.getElem?_eq_none (by omega), List.getElem?_eq_none (by simpa [Ask.a] using hi)]
set_option maxRecDepth 100000 in
theorem open_ask {v : Value} {d : DataW H} {p : List MemPlace} {r : Reach} {b0 : Nat} (hv : Value.okWide Tryz.prog w r b0 27 v) (h : DataW.Trod enc Tryz.prog w base spare held 27 v d p) : ∃ a : Ask, v = a.v ∧ a.ok := by
  obtain ⟨cs, rfl, hsz⟩ := okWide_struct Tryz.underlying27 hv
  obtain ⟨fuel, hf⟩ := h
  obtain ⟨a, ha, hk⟩ := trod_ask hf
  refine ⟨a, ?_, hk⟩
  simp only [Value.cells] at ha
  unfold Ask.v
  rw [Array.toList_inj.1 ha]
instance : Inhabited Ask := ⟨⟨0, 0, op0, false, ⟨#[]⟩⟩⟩
set_option maxRecDepth 100000 in
theorem open_asks {v : Value} {d : DataW H} {p : List MemPlace} {r : Reach} {b0 : Nat} {sp : Nat → Bool} (hv : Value.okWide Tryz.prog w r b0 22 v) (h : DataW.Trod enc Tryz.prog w base sp held 22 v d p) :
    ∃ l : List Ask, AsksAt (whole w) v l ∧ ∀ a ∈ l, a.ok := by
  obtain ⟨a0, len, cap, rfl⟩ := okWide_slice Tryz.underlying22 hv
  obtain ⟨fuel, hf⟩ := h
  rcases open_slice Tryz.underlying22 hf with ⟨hcs, hx⟩ | ⟨a, len', cap', m, n, D, Pl, hcs, _, hl, hm, hmm, hx, hel⟩
  · simp only [Value.cells, Array.toList] at hcs
    injection hcs with h1 _
    injection h1 with h1 h2 h3
    subst h1 h2 h3
    exact ⟨[], ⟨none, 0, rfl, Nat.le_refl _, fun i a h => by cases h⟩, fun a h => by cases h⟩
  · simp only [Value.cells, Array.toList] at hcs
    injection hcs with h1 _
    injection h1 with h1 h2 h3
    subst h1 h2 h3
    have hm' : len ≤ m := by rw [hmm]; split <;> omega
    by_cases hl0 : len = 0
    · subst hl0
      exact ⟨[], ⟨some a, cap, rfl, Nat.zero_le _, fun i a h => by cases h⟩, fun a h => by cases h⟩
    obtain ⟨b, off, rfl⟩ : ∃ b off, a = ⟨b, off, none⟩ := by
      obtain ⟨cs', g1, g2⟩ := hel 0 (by omega)
      rw [try_cells_ask] at g1
      obtain ⟨b, off, c, e, fr, q1, q2, q3, q4⟩ := cells_at (by omega) g1
      rw [show a.add (0 * 10) = a by simp [Addr.add]] at q1
      exact ⟨b, off, q1⟩
    have one : ∀ i, i < len → ∃ x : Ask, (∃ c e fr, whole w b = some (.cells c e fr) ∧ off + i * 10 + 10 ≤ c.size ∧ c.extract (off + i * 10) (off + i * 10 + 10) = x.a) ∧ x.ok := fun i hi => by
      obtain ⟨cs', g1, g2⟩ := hel i (by omega)
      rw [try_cells_ask, add_lit] at g1
      obtain ⟨x, hx, hk⟩ := trod_ask g2
      obtain ⟨b', off', c, e, fr, q1, q2, q3, q4⟩ := cells_at (by omega) g1
      simp only [Addr.mk.injEq] at q1
      obtain ⟨rfl, rfl, _⟩ := q1
      exact ⟨x, ⟨c, e, fr, q2, q3, Array.toList_inj.1 (q4.trans hx)⟩, hk⟩
    obtain ⟨F, hF⟩ := choose_lt one
    refine ⟨(List.range len).map F, ⟨some ⟨b, off, none⟩, cap, by simp, by simpa using hl, fun i x hx => ?_⟩, fun x hx => ?_⟩
    · rw [List.getElem?_map] at hx
      by_cases hi : i < len
      · rw [List.getElem?_range hi] at hx
        cases hx
        obtain ⟨⟨c, e, fr, q2, q3, q4⟩, _⟩ := hF i hi
        exact ⟨b, off, c, e, fr, rfl, q2, q3, q4⟩
      · rw [List.getElem?_eq_none (by simp; omega)] at hx
        cases hx
    · obtain ⟨i, hi, rfl⟩ := List.mem_map.1 hx
      exact (hF i (List.mem_range.1 hi)).2
end
end Go.Pw

/- The laws' arguments, opened: a consortium by value. -/
import Derived.Test.YtgpcjdmiecnphaaGreatPyA
import Derived.Test.YtgpcjdmiecnphaaGreatPwZ
import Derived.Test.YtgpcjdmiecnphaaGreatRows
import Derived.Deep.Slices
set_option linter.unusedSimpArgs false
set_option linter.unusedVariables false
namespace Go.Pw
open Go Go.Proofs Go.ChangeShapes Go.WideShapes Go.ChangeAt Go.RowKit Go.Deep

theorem try_own : ownKnob Tryz.prog.godebug = none := by kernel_rfl
theorem try_laid : laidOutB Tryz.prog = true := by kernel_rfl
theorem try_cells_cfg : Tryz.prog.cellsOf 23 = 4 := by kernel_rfl
theorem try_cells_int : Tryz.prog.cellsOf 3 = 1 := by kernel_rfl
theorem take1_eq {α : Type} {l : List α} {i : Nat} {a : α} (h : (l.drop i).take 1 = [a]) : l[i]? = some a := by
  have : ((l.drop i).take 1)[0]? = some a := by rw [h]; rfl
  simpa using this
section
variable {H : Type} {enc : TypeId × Value → H} {w : World} {base : Nat} {spare : Nat → Bool} {held : Bool}
theorem trod_cfg {fuel : Nat} {cs : List Value} {x : DataW H × List MemPlace} (h : DataW.trod enc Tryz.prog w base spare held fuel 23 cs = some x) : ∃ f c g p : Int, cs = [.int .i64 f, .int .i64 c, .int .i64 g, .int .i64 p] := by
  obtain ⟨xs, n, _, _, hl, hlen, hf⟩ := DataW.trod_struct Tryz.underlying23 h
  rw [try_cells_cfg] at hl
  have hlen6 : xs.length = 4 := hlen
  have num : ∀ i, i < 4 → ∃ a, cs[i]? = some (.int .i64 a) := fun i hi => by
    obtain ⟨z, hz⟩ : ∃ z, xs[i]? = some z := ⟨xs[i]'(by omega), List.getElem?_eq_getElem (by omega)⟩
    have key : ∀ f : Field, f.type = 3 → f.offset = i → DataW.trod enc Tryz.prog w base spare held n f.type (List.take (Tryz.prog.cellsOf f.type) (List.drop f.offset cs)) = some z → ∃ a, cs[i]? = some (.int .i64 a) := fun f ht ho hh => by
      rw [ht, try_cells_int, ho] at hh
      obtain ⟨a, e, _, _⟩ := DataW.trod_int Tryz.underlying3 hh
      exact ⟨a, take1_eq e⟩
    match i, hi with
    | 0, _ => exact key _ rfl rfl ((hf 0 _ rfl).trans hz)
    | 1, _ => exact key _ rfl rfl ((hf 1 _ rfl).trans hz)
    | 2, _ => exact key _ rfl rfl ((hf 2 _ rfl).trans hz)
    | 3, _ => exact key _ rfl rfl ((hf 3 _ rfl).trans hz)
  obtain ⟨a0, h0⟩ := num 0 (by omega)
  obtain ⟨a1, h1⟩ := num 1 (by omega)
  obtain ⟨a2, h2⟩ := num 2 (by omega)
  obtain ⟨a3, h3⟩ := num 3 (by omega)
  refine ⟨a0, a1, a2, a3, ?_⟩
  apply List.ext_getElem?
  intro i
  rcases Nat.lt_or_ge i 4 with hi | hi
  · match i, hi with
    | 0, _ => exact h0
    | 1, _ => exact h1
    | 2, _ => exact h2
    | 3, _ => exact h3
  · rw [List.getElem?_eq_none (by omega), List.getElem?_eq_none (by simpa using hi)]
set_option maxRecDepth 100000 in
theorem open_cfg {v : Value} {d : DataW H} {p : List MemPlace} {r : Reach} {b0 : Nat} (hv : Value.okWide Tryz.prog w r b0 23 v) (h : DataW.Trod enc Tryz.prog w base spare held 23 v d p) : ∃ f c g p : Int, v = cfg f c g p := by
  obtain ⟨cs, rfl, hsz⟩ := okWide_struct Tryz.underlying23 hv
  obtain ⟨fuel, hf⟩ := h
  obtain ⟨f, c, g, q, ha⟩ := trod_cfg hf
  refine ⟨f, c, g, q, ?_⟩
  simp only [Value.cells] at ha
  unfold cfg
  rw [← Array.toList_inj.1 (ha.trans (by rfl) : cs.toList = (#[.int .i64 f, .int .i64 c, .int .i64 g, .int .i64 q] : Array Value).toList)]
end
end Go.Pw

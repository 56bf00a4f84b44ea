/- New blocks, stores, rows: the executor tells the truth. -/
import Derived.Test.YtgpcjdmiecnphaaGreatPxJ
set_option linter.unusedSimpArgs false
set_option linter.unusedVariables false
namespace Go.Px
open Go Go.Pw

def KOK (P : Program) (ns : List Nm) (k : KV) (K : Value → PH → Prop) : Prop := ∀ ns' v x H' h', Ext ns ns' → toV ns' v = some x → RelH P ns' H' h' → k v H' = true → K x h'
def PKOK (P : Program) (ns : List Nm) (kp : KP) (Kp : List PanicEntry → PH → Prop) : Prop := ∀ ns' v x H' h', Ext ns ns' → toV ns' v = some x → RelH P ns' H' h' → kp v H' = true → Kp [{ v := x, recovered := false }] h'
def CallOK (P : Program) (call : CALL) : Prop := ∀ f vs H (k : KF) ns h xs (R : AEnd → PH → Prop), RelH P ns H h → toVs ns vs = some xs → call f vs H k = true →
  (∀ ns' v x H' h', Ext ns ns' → toV ns' v = some x → RelH P ns' H' h' → k (.ret v) H' = true → R (.ret x) h') →
  (∀ ns' v x H' h', Ext ns ns' → toV ns' v = some x → RelH P ns' H' h' → k (.pan v) H' = true → R (.pan [{ v := x, recovered := false }]) h') → ACalls P f xs.toArray h R

section
variable {P : Program} {ns : List Nm} {E : CE} {ρ : Env} {H : CH} {h : PH} {k : KV} {K : Value → PH → Prop}

theorem new_name (hH : RelH P ns H h) (m : Nm) : (ns ++ [m])[H.n]? = some m := by rw [hH.len]; simp
theorem new_ptr (hH : RelH P ns H h) (b c : Nat) : toV (ns ++ [⟨b, 0, c⟩]) (.ptr H.n 0) = some (.pointer (some ⟨b, 0, none⟩)) := mk_ptr (o := 0) (new_name hH ⟨b, 0, c⟩)
theorem new_sl (hH : RelH P ns H h) (b : Nat) {c l : Nat} (hl : l ≤ c) : toV (ns ++ [⟨b, 0, c⟩]) (.sl H.n 0 l 0) = some (.slice (some ⟨b, 0, none⟩) l c) := mk_sl (o := 0) (i := 0) (new_name hH ⟨b, 0, c⟩) hl
/-- A new block of cells. -/
theorem new_cells (hH : RelH P ns H h) {b cap : Nat} (hb : h b = none) {c : Cells} {e : TypeId} {xs rest : List Value} (hw : c.wf) (hc : toVs ns c.toL = some xs) (ho : ∀ x ∈ xs, x.oneCell' = true) (hcap : ∀ n, sizeOf' P e = some n → cap * n ≤ xs.length + rest.length) :
    RelH P (ns ++ [⟨b, 0, cap⟩]) (H.new (.cells c e)) (ins h b (.cells (xs ++ rest).toArray e)) :=
  hH.new hb ⟨[], xs, rest, ins_eq _ _ _, rfl, hw, toVs_ext (Ext.one ns _) _ hc, ho, hcap⟩
theorem cOf_wf (l : List CV) : (cOf l).wf := by unfold cOf; split <;> trivial
theorem info_size {e : TypeId} {i : TypeInfo} (hi : P.info? e = some i) {n : Nat} (hn : sizeOf' P e = some n) : n = i.size := by
  unfold sizeOf' at hn; rw [hi] at hn; cases hn; rfl
theorem repX_len (z : List CV) : ∀ n, (repX z n).length = n * z.length
  | 0 => by simp [repX]
  | n + 1 => by simp [repX, repX_len z n, Nat.succ_mul]; omega
theorem repX_to {z : List CV} {zs : List Value} (hz : toVs ns z = some zs) : ∀ n, ∃ xs, toVs ns (repX z n) = some xs ∧ xs = (List.replicate n zs).flatten
  | 0 => ⟨[], rfl, rfl⟩
  | n + 1 => by
    obtain ⟨xs, h1, h2⟩ := repX_to hz n
    exact ⟨zs ++ xs, toVs_append hz h1, by simp [List.replicate_succ, h2]⟩
theorem rep_flat (zs : Array Value) (n : Nat) : (rep zs (n * zs.size)).toList = (List.replicate n zs.toList).flatten := by
  induction n with
  | zero => simp [rep]
  | succ n ih =>
    apply List.ext_getElem
    · simp [rep, Nat.succ_mul]
    · intro i h1 h2
      simp only [rep, Array.toList_map, List.getElem_map, Array.toList_range, List.getElem_range]
      have hi : i < (n + 1) * zs.size := by simpa [rep] using h1
      have hz : 0 < zs.size := by rcases Nat.eq_zero_or_pos zs.size with h | h; · rw [h] at hi; omega
                                  · exact h
      simp only [List.replicate_succ, List.flatten_cons]
      rw [getElem!_pos zs (i % zs.size) (Nat.mod_lt _ hz)]
      rcases Nat.lt_or_ge i zs.size with hlt | hge
      · rw [List.getElem_append_left (by simpa using hlt)]
        simp [Nat.mod_eq_of_lt hlt]
      · rw [List.getElem_append_right (by simpa using hge)]
        have hi2 : i - zs.size < n * zs.size := by rw [Nat.succ_mul] at hi; omega
        have := ih
        have e : ((List.replicate n zs.toList).flatten)[i - zs.size]? = (rep zs (n * zs.size)).toList[i - zs.size]? := by rw [ih]
        have e2 : (rep zs (n * zs.size)).toList[i - zs.size]? = some (zs[(i - zs.size) % zs.size]'(Nat.mod_lt _ hz)) := by
          simp [rep, hi2, getElem!_pos zs ((i - zs.size) % zs.size) (Nat.mod_lt _ hz)]
        rw [e2] at e
        obtain ⟨_, e3⟩ := List.getElem?_eq_some_iff.1 e
        simp only [Array.length_toList]
        rw [e3]
        congr 1
        rw [Nat.mod_eq_sub_mod hge]
theorem fill_size {place : Nat → Option (Nat × Nat)} : ∀ {qs : List (Nat × Value)} {x y : Array Value}, Instr.fill place x qs = some y → y.size = x.size
  | [], x, y, hq => by simp only [Instr.fill, Option.some.injEq] at hq; rw [hq]
  | (i, v) :: qs, x, y, hq => by
    simp only [Instr.fill] at hq
    split at hq
    · cases hq
    · split at hq
      · cases hq
      · have := fill_size hq
        rw [this, ← Array.foldl_toList, Array.toList_zipIdx]
        have e := foldl_set v.cells.toList
        rename_i off size _ _
        have e2 := e off 0 x
        rw [Nat.add_zero] at e2
        rw [e2, wr_size]
theorem BS_ok (hE : RelE ns E ρ) {t : TypeId} {len : Nat} {ps : Array (Nat × Operand)} {r : List CV × TypeId} (hq : (xBS P t len ps.toList).1 E = some r) :
    ∃ n zs cs, P.underlying t = some (.slice r.2) ∧ sizeOf' P r.2 = some n ∧ zeroOf P r.2 = some zs ∧ len * n ≤ 2 ^ 24 ∧ Instr.fill (fun i => some (i * n, n)) (rep zs (len * n)) (partsOf ρ ps) = some cs ∧ toVs ns r.1 = some cs.toList ∧ cs.size = len * n := by
  unfold xBS at hq
  split at hq
  · rename_i e hu
    split at hq
    · rename_i n z hs hz
      split at hq
      · rename_i h1 h2 h3
        simp only at hq
        cases hp : (nBx ps.toList).1 E with
        | none => rw [hp] at hq; cases hq
        | some vs =>
          rw [hp] at hq
          simp only at hq
          cases hf : xFill (fun i => some (i * n, n)) (repX z len) vs with
          | none => rw [hf] at hq; cases hq
          | some c =>
            rw [hf] at hq
            cases hq
            obtain ⟨zs, z1, z2⟩ := zs_ok (ns := ns) hz
            obtain ⟨xs, x1, x2⟩ := repX_to z2 len
            have hzn : zs.size = n := by have := toVs_len z2; have := Nat.eq_of_beq_eq_true h2; simp at *; omega
            have hrep : toVs ns (repX z len) = some (rep zs (len * n)).toList := by rw [x1, x2, ← hzn, rep_flat]
            obtain ⟨q1, q2⟩ := xPs_ok hE hp
            obtain ⟨y, y1, y2⟩ := xFill_ok (x := rep zs (len * n)) (qs := partsOf ρ ps) hrep (by simp [partsOf, q1]) (fun j i v hj => q2 j i v hj) hf
            have hsz : y.size = len * n := by
              have := fill_size y1
              rw [this]; simp [rep]
            exact ⟨n, zs, y, hu, hs, z1, by have := Nat.le_of_ble_eq_true h1; omega, y1, y2, hsz⟩
      · cases hq
    · cases hq
  · cases hq
theorem cA_ok (hE : RelE ns E ρ) (hH : RelH P ns H h) {o : Oper} (hq : (cA P o).1 E H k = true) (hk : KOK P ns k K) : denA P o ρ h K := by
  obtain ⟨dst, op, type, pos, after, guard⟩ := o
  have no : ∀ {X : Prop}, aN.1 E H k = true → X := fun hh => by cases hh
  cases op <;> simp only [cA] at hq
  case alloc e =>
    split at hq
    · rename_i z hz
      split at hq
      · rename_i ho
        simp only [aNew, newK_eq] at hq
        obtain ⟨zs, z1, z2⟩ := zs_ok (ns := ns) hz
        simp only [denA, z1]
        intro b hb
        have hr := new_cells hH hb (cap := 0) (c := cOf z) (e := e) (rest := []) (cOf_wf z) (by rw [cOf_ok]; exact z2) (toVs_one z2 ho) (by simp)
        refine hk _ _ _ _ _ (Ext.one ns _) (new_ptr hH b 0) ?_ hq
        simpa using hr
      · exact no hq
    · exact no hq
  case box e x =>
    simp only [aBox] at hq
    cases hx : (oBx x).1 E with
    | none => rw [hx] at hq; cases hq
    | some v =>
      rw [hx] at hq
      simp only at hq
      cases ho : (cellsX v).all oneX with
      | false => rw [ho] at hq; cases hq
      | true =>
        rw [ho] at hq
        simp only [newK_eq] at hq
        have hv := o_ok hE hx
        intro b hb
        have hr := new_cells hH hb (cap := 0) (c := .row (cellsX v)) (e := e) (rest := []) trivial (toV_cells hv) (toVs_one (toV_cells hv) ho) (by simp)
        refine hk _ _ _ _ _ (Ext.one ns _) (new_ptr hH b 0) ?_ hq
        simpa using hr
  case makeMap t r =>
    cases r with
    | some r => exact no hq
    | none =>
      simp only [aMap, newK_eq] at hq
      intro b hb
      have hm : toV (ns ++ [⟨b, 0, 0⟩]) (.mp H.n) = some (.map (some b)) := by simp only [toV, new_name hH]
      exact hk _ _ _ _ _ (Ext.one ns ⟨b, 0, 0⟩) hm (hH.new hb (o := .map [] 0) (k := 0) (x := .map #[] 0) ⟨rfl, [], ins_eq _ _ _, rfl⟩) hq
  case buildSlice t len ps =>
    simp only [aBS] at hq
    cases hr : (xBS P t len ps.toList).1 E with
    | none => rw [hr] at hq; cases hq
    | some r =>
      rw [hr] at hq
      simp only at hq
      cases ho : r.1.all oneX with
      | false => rw [ho] at hq; cases hq
      | true =>
        rw [ho] at hq
        simp only [newK_eq] at hq
        obtain ⟨n, zs, cs, b1, b2, b3, b4, b5, b6, b7⟩ := BS_ok hE hr
        simp only [denA, b1, b2, b3]
        refine ⟨b4, cs, b5, fun b hb => ?_⟩
        have hr := new_cells hH hb (cap := len) (c := .row r.1) (e := r.2) (rest := []) trivial b6 (toVs_one b6 ho) (fun n' hn => by rw [b2] at hn; cases hn; simp [b7])
        refine hk _ _ _ _ _ (Ext.one ns _) (new_sl hH b (Nat.le_refl len)) ?_ hq
        simpa using hr
  all_goals exact no hq
end
end Go.Px

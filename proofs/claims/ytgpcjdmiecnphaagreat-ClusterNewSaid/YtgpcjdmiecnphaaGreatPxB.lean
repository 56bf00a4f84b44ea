/- Memory over numbered blocks; the operations that leave memory as it is, carried out. -/
import Derived.Test.YtgpcjdmiecnphaaGreatPxA
set_option linter.unusedSimpArgs false
set_option linter.unusedVariables false
namespace Go.Px
open Go Go.Pw
noncomputable section

/-! ### cells -/
def nth {α : Type} : Nat → List α → Option α
  | 0 => fun l => match l with | [] => none | a :: _ => some a
  | n + 1 => fun l => match l with | [] => none | _ :: l => nth n l
theorem nth_eq {α : Type} : ∀ (n : Nat) (l : List α), nth n l = l[n]?
  | 0, [] => rfl
  | 0, _ :: _ => rfl
  | n + 1, [] => rfl
  | n + 1, _ :: l => by unfold nth; simp only [nth_eq n l]; rfl
def byteX (l : List Nat) : List CV := l.map fun c => .int .u8 (Int.ofNat (Nat.mod c 256))
/-- A piece of a row: so many bytes, or so many cells. -/
inductive Ch where
  | bs (k : Nat) (l : List Nat)
  | cs (k : Nat) (l : List CV)
def Ch.toL : Ch → List CV
  | .bs _ l => byteX l
  | .cs _ l => l
def Ch.k : Ch → Nat
  | .bs k _ => k
  | .cs k _ => k
def Ch.get : Ch → Nat → Option CV
  | .bs _ l, i => match nth i l with | some c => some (.int .u8 (Int.ofNat (Nat.mod c 256))) | none => none
  | .cs _ l, i => nth i l
/-- Cells: a row, or (for so many) a table, or a row in pieces, the last one first. -/
inductive Cells where
  | row (l : List CV)
  | obj (n : Nat) (t : Tn CV 8)
  | rope (n : Nat) (l : List Ch)
def rng (t : Tn CV 8) : Nat → Nat → List CV
  | _, 0 => []
  | o, n + 1 => (Tn.get 8 o).1 t :: rng t (o + 1) n
def ropeL : List Ch → List CV
  | [] => []
  | c :: l => ropeL l ++ c.toL
/-- (the same, each cell touched once) -/
def ropeA : List Ch → List CV → List CV
  | [], a => a
  | c :: l, a => ropeA l (c.toL ++ a)
theorem ropeA_eq : ∀ (l : List Ch) (a : List CV), ropeA l a = ropeL l ++ a
  | [], a => rfl
  | c :: l, a => by simp only [ropeA, ropeL, ropeA_eq l, List.append_assoc]
def Cells.toL : Cells → List CV
  | .row l => l
  | .obj n t => rng t 0 n
  | .rope _ l => ropeL l
/-- What is said of lengths is so. -/
def ropeW : Nat → List Ch → Prop
  | n, [] => n = 0
  | n, c :: l => c.k = c.toL.length ∧ c.k ≤ n ∧ ropeW (n - c.k) l
def Cells.wf : Cells → Prop
  | .rope n l => ropeW n l
  | _ => True
theorem ropeW_len : ∀ {l : List Ch} {n : Nat}, ropeW n l → (ropeL l).length = n
  | [], n, h => by simp only [ropeW] at h; subst h; rfl
  | c :: l, n, ⟨h1, h2, h3⟩ => by simp only [ropeL, List.length_append, ropeW_len h3, ← h1]; omega
def rget : List Ch → Nat → Nat → Option CV
  | [], _, _ => none
  | c :: l, n, i => match Nat.blt i (n - c.k) with
    | true => rget l (n - c.k) i
    | false => c.get (i - (n - c.k))
def Cells.get : Cells → Nat → Option CV
  | .row l, i => nth i l
  | .obj n t, i => match Nat.blt i n with | true => some ((Tn.get 8 i).1 t) | false => none
  | .rope n l, i => rget l n i
def rngL (l : List CV) (o : Nat) : Nat → Option (List CV)
  | 0 => match Nat.ble o l.length with | true => some [] | false => none
  | n + 1 => match Nat.beq ((l.drop o).take (n + 1)).length (n + 1) with | true => some ((l.drop o).take (n + 1)) | false => none
def Cells.rng : Cells → Nat → Nat → Option (List CV)
  | .row l, o, n => rngL l o n
  | .obj m t, o, n => match Nat.ble (o + n) m with | true => some (Px.rng t o n) | false => none
  | .rope _ l, o, n => rngL (ropeA l []) o n
/-- Cells written over. -/
def setL (c : List CV) (o : Nat) (vs : List CV) : List CV := c.take o ++ (vs ++ c.drop (o + vs.length))
def putL : List CV → Nat → Tn CV 8 → Tn CV 8
  | [], _, t => t
  | v :: l, o, t => putL l (o + 1) ((Tn.put 8 o).1 v t)
def setR (l : List CV) (o : Nat) (vs : List CV) : Option Cells := match Nat.ble (o + vs.length) l.length with | true => some (.row (setL l o vs)) | false => none
def Cells.set : Cells → Nat → List CV → Option Cells
  | .row l, o, vs => setR l o vs
  | .obj n t, o, vs => match Nat.ble (o + vs.length) n, Nat.ble n 256 with | true, true => some (.obj n (putL vs o t)) | _, _ => none
  | .rope _ l, o, vs => setR (ropeA l []) o vs
def Cells.len : Cells → Nat
  | .row l => l.length
  | .obj n _ => n
  | .rope _ l => (ropeL l).length
/-- With a piece more behind the first n cells from o on. -/
def Cells.app (c : Cells) (o n : Nat) (x : Ch) : Option Cells := match c with
  | .rope m l => match Nat.beq o 0, Nat.beq n m with
    | true, true => some (.rope (m + x.k) (x :: l))
    | _, _ => match rngL (ropeA l []) o n with
      | some r => some (.rope (n + x.k) [x, .cs n r])
      | none => none
  | c => match c.rng o n with
    | some r => some (.rope (n + x.k) [x, .cs n r])
    | none => none
def cOf (l : List CV) : Cells := match Nat.blt 4 l.length, Nat.ble l.length 256 with
  | true, true => .obj l.length (putL l 0 (Tn.mk .und 8))
  | _, _ => .row l
theorem rng_len (t : Tn CV 8) : ∀ (n o : Nat), (rng t o n).length = n
  | 0, _ => rfl
  | n + 1, o => by simp [rng, rng_len t n]
theorem rng_get (t : Tn CV 8) : ∀ (n o i : Nat), (rng t o n)[i]? = if i < n then some ((Tn.get 8 (o + i)).1 t) else none
  | 0, o, i => by simp [rng]
  | n + 1, o, 0 => by simp [rng]
  | n + 1, o, i + 1 => by
    simp only [rng, List.getElem?_cons_succ, rng_get t n]
    rw [show o + 1 + i = o + (i + 1) by omega]
    by_cases h : i < n
    · rw [if_pos h, if_pos (by omega)]
    · rw [if_neg h, if_neg (by omega)]
theorem Cells.toL_len (c : Cells) : c.toL.length = c.len := by
  cases c with
  | row l => rfl
  | obj n t => exact rng_len t n 0
  | rope n l => rfl
theorem Ch.get_ok {c : Ch} {i : Nat} {v : CV} (h : c.get i = some v) : c.toL[i]? = some v := by
  cases c with
  | bs k l =>
    simp only [Ch.get, nth_eq] at h
    cases hl : l[i]? with
    | none => rw [hl] at h; cases h
    | some u => rw [hl] at h; simp only [Ch.toL, byteX, List.getElem?_map, hl]; exact h
  | cs k l => simp only [Ch.get, nth_eq] at h; exact h
theorem rget_ok : ∀ {l : List Ch} {n i : Nat} {v : CV}, ropeW n l → rget l n i = some v → (ropeL l)[i]? = some v
  | [], n, i, v, hw, h => by simp [rget] at h
  | c :: l, n, i, v, ⟨h1, h2, h3⟩, h => by
    simp only [rget] at h
    have hl := ropeW_len h3
    cases hb : Nat.blt i (n - c.k) <;> rw [hb] at h <;> simp only at h
    · have hi : ¬ i < n - c.k := fun hh => by rw [show Nat.blt i (n - c.k) = true by rw [Nat.blt_eq]; exact hh] at hb; cases hb
      simp only [ropeL]
      rw [List.getElem?_append_right (by omega), hl]
      exact Ch.get_ok h
    · have hi : i < n - c.k := by rw [Nat.blt_eq] at hb; exact hb
      simp only [ropeL]
      rw [List.getElem?_append_left (by omega)]
      exact rget_ok h3 h
theorem Cells.get_ok {c : Cells} {i : Nat} {v : CV} (hw : c.wf) (h : c.get i = some v) : c.toL[i]? = some v := by
  cases c with
  | row l => rw [Cells.get, nth_eq] at h; exact h
  | obj n t =>
    simp only [Cells.get] at h
    cases hb : Nat.blt i n <;> rw [hb] at h <;> simp only [reduceCtorEq, Option.some.injEq] at h
    have : i < n := by simpa [Nat.blt_eq] using hb
    simp only [Cells.toL, rng_get, if_pos this, Nat.zero_add, h]
  | rope n l => exact rget_ok hw h
theorem rngL_ok {l r : List CV} {o n : Nat} (h : rngL l o n = some r) : o + n ≤ l.length ∧ r = (l.drop o).take n := by
  cases n with
  | zero =>
    simp only [rngL] at h
    cases hc : Nat.ble o l.length <;> rw [hc] at h <;> simp only [reduceCtorEq, Option.some.injEq] at h
    exact ⟨Nat.le_of_ble_eq_true hc, by simp [← h]⟩
  | succ n =>
    simp only [rngL] at h
    cases hb : Nat.beq ((l.drop o).take (n + 1)).length (n + 1) <;> rw [hb] at h <;> simp only [reduceCtorEq, Option.some.injEq] at h
    have h1 := Nat.eq_of_beq_eq_true hb
    simp only [List.length_take, List.length_drop] at h1
    exact ⟨by omega, h.symm⟩
theorem Cells.rng_ok {c : Cells} {o n : Nat} {r : List CV} (h : c.rng o n = some r) : o + n ≤ c.toL.length ∧ r = (c.toL.drop o).take n := by
  cases c with
  | row l => exact rngL_ok h
  | obj m t =>
    simp only [Cells.rng] at h
    cases hb : Nat.ble (o + n) m <;> rw [hb] at h <;> simp only [reduceCtorEq, Option.some.injEq] at h
    have h1 := Nat.le_of_ble_eq_true hb
    refine ⟨by simp only [Cells.toL, rng_len]; exact h1, ?_⟩
    subst h
    apply List.ext_getElem?
    intro i
    simp only [Cells.toL, rng_get, List.getElem?_take, List.getElem?_drop, Nat.zero_add]
    by_cases hi : i < n
    · rw [if_pos hi, if_pos hi, if_pos (by omega)]
    · rw [if_neg hi, if_neg hi]
  | rope m l =>
    simp only [Cells.rng, ropeA_eq, List.append_nil] at h
    exact rngL_ok h
theorem putL_get : ∀ (l : List CV) (o : Nat) (t : Tn CV 8), o + l.length ≤ 256 → ∀ i, i < 256 → (Tn.get 8 i).1 (putL l o t) = if o ≤ i ∧ i < o + l.length then l.getD (i - o) .und else (Tn.get 8 i).1 t
  | [], o, t, h, i, hi => by
    have : ¬ (o ≤ i ∧ i < o + ([] : List CV).length) := fun hh => by have := hh.2; simp at this; omega
    rw [if_neg this]; rfl
  | v :: l, o, t, h, i, hi => by
    simp only [List.length_cons] at h
    simp only [putL]
    rw [putL_get l (o + 1) _ (by omega) i hi, Tn.get_put v 8 o i t (by change o < 256; omega) hi]
    by_cases h1 : i = o
    · subst h1
      rw [if_neg (by omega), if_pos rfl, if_pos (by simp)]
      simp
    · rw [if_neg h1]
      by_cases h2 : o + 1 ≤ i ∧ i < o + 1 + l.length
      · rw [if_pos h2, if_pos (by simp; omega)]
        obtain ⟨k, hk⟩ : ∃ k, i = o + 1 + k := ⟨i - (o + 1), by omega⟩
        subst hk
        rw [show o + 1 + k - (o + 1) = k by omega, show o + 1 + k - o = k + 1 by omega]
        simp
      · rw [if_neg h2, if_neg (by simp; omega)]
theorem setL_len {c : List CV} {o : Nat} {vs : List CV} (h : o + vs.length ≤ c.length) : (setL c o vs).length = c.length := by simp [setL]; omega
theorem setL_get {c : List CV} {o : Nat} {vs : List CV} (h : o + vs.length ≤ c.length) (i : Nat) : (setL c o vs)[i]? = if o ≤ i ∧ i < o + vs.length then vs[i - o]? else c[i]? := by
  unfold setL
  rcases Nat.lt_or_ge i o with h1 | h1
  · rw [if_neg (by omega), List.getElem?_append_left (by simp; omega), List.getElem?_take, if_pos h1]
  · rw [List.getElem?_append_right (by simp; omega)]
    have ht : (c.take o).length = o := by simp; omega
    rw [ht]
    rcases Nat.lt_or_ge (i - o) vs.length with h2 | h2
    · rw [if_pos (by omega), List.getElem?_append_left h2]
    · rw [if_neg (by omega), List.getElem?_append_right h2, List.getElem?_drop]
      congr 1
      omega
theorem setR_ok {l vs : List CV} {c' : Cells} {o : Nat} (h : setR l o vs = some c') : o + vs.length ≤ l.length ∧ c'.toL = setL l o vs ∧ c'.wf := by
  unfold setR at h
  cases hb : Nat.ble (o + vs.length) l.length <;> rw [hb] at h <;> simp only [reduceCtorEq, Option.some.injEq] at h
  subst h
  exact ⟨Nat.le_of_ble_eq_true hb, rfl, trivial⟩
theorem Cells.set_ok {c c' : Cells} {o : Nat} {vs : List CV} (h : c.set o vs = some c') : o + vs.length ≤ c.toL.length ∧ c'.toL = setL c.toL o vs ∧ c'.wf := by
  cases c with
  | row l => exact setR_ok h
  | rope m l =>
    simp only [Cells.set, ropeA_eq, List.append_nil] at h
    exact setR_ok h
  | obj n t =>
    simp only [Cells.set] at h
    cases hb : Nat.ble (o + vs.length) n <;> cases hc : Nat.ble n 256 <;> rw [hb, hc] at h <;> simp only [reduceCtorEq, Option.some.injEq] at h
    subst h
    have h1 := Nat.le_of_ble_eq_true hb
    have h2 := Nat.le_of_ble_eq_true hc
    have h3 : o + vs.length ≤ (Cells.obj n t).toL.length := by simp only [Cells.toL, rng_len]; exact h1
    refine ⟨h3, ?_, trivial⟩
    apply List.ext_getElem?
    intro i
    rw [setL_get h3]
    simp only [Cells.toL, rng_get, Nat.zero_add]
    by_cases hi : i < n
    · rw [if_pos hi, if_pos hi, putL_get vs o t (by omega) i (by omega)]
      by_cases h4 : o ≤ i ∧ i < o + vs.length
      · rw [if_pos h4, if_pos h4]
        have : i - o < vs.length := by omega
        simp [List.getD_eq_getElem?_getD, List.getElem?_eq_getElem this]
      · rw [if_neg h4, if_neg h4]
    · rw [if_neg hi, if_neg (by omega), if_neg hi]
theorem app_mk {c : Cells} {o n : Nat} {x : Ch} {r : List CV} (hx : x.k = x.toL.length) (h : o + n ≤ c.toL.length ∧ r = (c.toL.drop o).take n) :
    (Cells.rope (n + x.k) [x, .cs n r]).toL = (c.toL.drop o).take n ++ x.toL ∧ (Cells.rope (n + x.k) [x, .cs n r]).wf := by
  obtain ⟨h1, rfl⟩ := h
  refine ⟨by simp [Cells.toL, ropeL, Ch.toL], hx, by simp [Ch.k], ?_⟩
  rw [show n + x.k - x.k = n by omega]
  exact ⟨by simp only [Ch.k, Ch.toL, List.length_take, List.length_drop]; omega, by simp [Ch.k], by simp [Ch.k, ropeW]⟩
theorem Cells.app_ok {c c' : Cells} {o n : Nat} {x : Ch} (hw : c.wf) (hx : x.k = x.toL.length) (h : c.app o n x = some c') : o + n ≤ c.toL.length ∧ c'.toL = (c.toL.drop o).take n ++ x.toL ∧ c'.wf := by
  have gen : ∀ {r : List CV}, c.rng o n = some r → o + n ≤ c.toL.length ∧ (Cells.rope (n + x.k) [x, .cs n r]).toL = (c.toL.drop o).take n ++ x.toL ∧ (Cells.rope (n + x.k) [x, .cs n r]).wf := fun hr => by
    have := Cells.rng_ok hr
    exact ⟨this.1, app_mk hx this⟩
  cases c with
  | row l =>
    simp only [Cells.app] at h
    cases hr : (Cells.row l).rng o n with
    | none => rw [hr] at h; cases h
    | some r => rw [hr] at h; cases h; exact gen hr
  | obj m t =>
    simp only [Cells.app] at h
    cases hr : (Cells.obj m t).rng o n with
    | none => rw [hr] at h; cases h
    | some r => rw [hr] at h; cases h; exact gen hr
  | rope m l =>
    simp only [Cells.app] at h
    have slow : (match rngL (ropeA l []) o n with | some r => some (Cells.rope (n + x.k) [x, .cs n r]) | none => none) = some c' → o + n ≤ (Cells.rope m l).toL.length ∧ c'.toL = ((Cells.rope m l).toL.drop o).take n ++ x.toL ∧ c'.wf := fun h => by
      cases hr : rngL (ropeA l []) o n with
      | none => rw [hr] at h; cases h
      | some r => rw [hr] at h; cases h; exact gen hr
    cases h1 : Nat.beq o 0 <;> cases h2 : Nat.beq n m <;> rw [h1, h2] at h <;> simp only at h <;> first | exact slow h | skip
    have e1 := Nat.eq_of_beq_eq_true h1
    have e2 := Nat.eq_of_beq_eq_true h2
    subst e1; subst e2
    cases h
    have hl := ropeW_len hw
    refine ⟨by simp only [Cells.toL]; omega, ?_, hx, by omega, by rw [show n + x.k - x.k = n by omega]; exact hw⟩
    simp only [Cells.toL, ropeL, List.drop_zero]
    rw [List.take_of_length_le (by omega)]
theorem cOf_ok (l : List CV) : (cOf l).toL = l := by
  unfold cOf
  split
  · rename_i h1 h2
    have h3 := Nat.le_of_ble_eq_true h2
    apply List.ext_getElem?
    intro i
    simp only [Cells.toL, rng_get, Nat.zero_add]
    by_cases hi : i < l.length
    · rw [if_pos hi, putL_get l 0 _ (by omega) i (by omega), if_pos (by omega)]
      simp [List.getD_eq_getElem?_getD, List.getElem?_eq_getElem hi]
    · rw [if_neg hi, List.getElem?_eq_none (by omega)]
  · rfl

/-! ### environments and memory -/
inductive CO where
  | cells (c : Cells) (e : TypeId)
  | map (es : List (CV × CV × Nat)) (clock : Nat)
  | iter (m : Option Nat) (since : Nat) (seen : List Nat) (stepped : Nat)
abbrev CE := N16 (N16 (Option CV))
def e0 : CE := N16.mk1 (N16.mk1 none)
def gBx (t : Nat) : Bx (CE → Option CV) := match Nat.blt t 256 with
  | true => ⟨fun E => (sel (Nat.mod t 16)).1 ((sel (Nat.div t 16)).1 E)⟩
  | false => ⟨fun _ => none⟩
def pBx (d : Nat) : Bx (Option CV → CE → CE) := match Nat.blt d 256 with
  | true => ⟨fun v E => (put16 (Nat.div d 16)).1 ((put16 (Nat.mod d 16)).1 v ((sel (Nat.div d 16)).1 E)) E⟩
  | false => ⟨fun _ _ => e0⟩
def eGet (t : Nat) (E : CE) : Option CV := (gBx t).1 E
def ePut (d : Nat) (v : Option CV) (E : CE) : CE := (pBx d).1 v E
/-- (Only kept where it can be read.) -/
def eUpd (d : Option Nat) : Bx (CV → CE → CE) := match d with
  | none => ⟨fun _ E => E⟩
  | some d => ⟨fun v E => ePut d (some v) E⟩
abbrev HT := Tn (Option CO) 13
structure CH where
  n : Nat
  m : HT
def h0 : CH := ⟨0, Tn.mk none 13⟩
def hGet (b : Nat) (m : HT) : Option CO := match Nat.blt b 8192 with
  | true => (Tn.get 13 b).1 m
  | false => none
def hPut (b : Nat) (o : Option CO) (m : HT) : HT := match Nat.blt b 8192 with
  | true => (Tn.put 13 b).1 o m
  | false => Tn.mk none 13
def CH.at (H : CH) (b : Nat) : Option CO := hGet b H.m
def CH.set (H : CH) (b : Nat) (o : Option CO) : CH := ⟨H.n, hPut b o H.m⟩
def CH.new (H : CH) (o : CO) : CH := ⟨H.n + 1, hPut H.n (some o) H.m⟩
theorem blt_iff {a b : Nat} : Nat.blt a b = true ↔ a < b := by simp [Nat.blt_eq]
theorem eGet_put {t d : Nat} {v : Option CV} {E : CE} {u : CV} (h : eGet t (ePut d v E) = some u) : (t = d ∧ v = some u) ∨ (t ≠ d ∧ eGet t E = some u) := by
  unfold eGet gBx at h ⊢
  unfold ePut pBx at h
  cases ht : Nat.blt t 256 <;> rw [ht] at h <;> simp only at h ⊢
  · cases h
  · cases hd : Nat.blt d 256 <;> rw [hd] at h <;> simp only at h
    · rw [e0, sel_mk1, sel_mk1] at h; cases h
    · have h1 := blt_iff.1 hd
      have h2 := blt_iff.1 ht
      have d1 : Nat.div d 16 < 16 := by change d / 16 < 16; omega
      have t1 : Nat.div t 16 < 16 := by change t / 16 < 16; omega
      have d2 : Nat.mod d 16 < 16 := by change d % 16 < 16; omega
      have t2 : Nat.mod t 16 < 16 := by change t % 16 < 16; omega
      rw [sel_put d1 t1] at h
      by_cases e1 : Nat.div t 16 = Nat.div d 16
      · rw [if_pos e1, sel_put d2 t2] at h
        by_cases e2 : Nat.mod t 16 = Nat.mod d 16
        · rw [if_pos e2] at h
          refine .inl ⟨?_, h⟩
          change t / 16 = d / 16 at e1
          change t % 16 = d % 16 at e2
          omega
        · rw [if_neg e2, ← e1] at h
          exact .inr ⟨fun e => e2 (by rw [e]), h⟩
      · rw [if_neg e1] at h
        exact .inr ⟨fun e => e1 (by rw [e]), h⟩
theorem hGet_put {x b : Nat} {o : Option CO} {m : HT} {u : CO} (h : hGet x (hPut b o m) = some u) : (x = b ∧ o = some u) ∨ (x ≠ b ∧ hGet x m = some u) := by
  unfold hGet at h ⊢
  unfold hPut at h
  cases ht : Nat.blt x 8192 <;> rw [ht] at h <;> simp only at h ⊢
  · cases h
  · cases hd : Nat.blt b 8192 <;> rw [hd] at h <;> simp only at h
    · rw [Tn.get_mk] at h; cases h
    · rw [Tn.get_put o 13 b x m (blt_iff.1 hd) (blt_iff.1 ht)] at h
      by_cases e : x = b
      · rw [if_pos e] at h; exact .inl ⟨e, h⟩
      · rw [if_neg e] at h; exact .inr ⟨e, h⟩
theorem CH.at_set {H : CH} {b x : Nat} {o : Option CO} {u : CO} (h : (H.set b o).at x = some u) : (x = b ∧ o = some u) ∨ (x ≠ b ∧ H.at x = some u) := hGet_put h
theorem CH.at_new {H : CH} {x : Nat} {o u : CO} (h : (H.new o).at x = some u) : (x = H.n ∧ o = u) ∨ (x ≠ H.n ∧ H.at x = some u) := by
  rcases hGet_put h with ⟨a, b⟩ | h
  · exact .inl ⟨a, by injection b⟩
  · exact .inr h

def toEs (ns : List Nm) : List (CV × CV × Nat) → Option (List MapEntry)
  | [] => some []
  | (k, v, n) :: l => match toV ns k, toV ns v, toEs ns l with
    | some a, some b, some r => some ({ key := a, val := b, born := n } :: r)
    | _, _, _ => none
section
variable {P : Program} {ns ns' : List Nm}
theorem toEs_cons {k v : CV} {n : Nat} {l : List (CV × CV × Nat)} {x : List MapEntry} (h : toEs ns ((k, v, n) :: l) = some x) : ∃ a b r, toV ns k = some a ∧ toV ns v = some b ∧ toEs ns l = some r ∧ x = { key := a, val := b, born := n } :: r := by
  simp only [toEs] at h
  cases h1 : toV ns k with
  | none => rw [h1] at h; simp at h
  | some a =>
    cases h2 : toV ns v with
    | none => rw [h1, h2] at h; simp at h
    | some b =>
      cases h3 : toEs ns l with
      | none => rw [h1, h2, h3] at h; simp at h
      | some r => rw [h1, h2, h3] at h; simp at h; exact ⟨a, b, r, rfl, rfl, rfl, h.symm⟩
theorem toEs_mk {k v : CV} {n : Nat} {l : List (CV × CV × Nat)} {a b : Value} {r : List MapEntry} (h1 : toV ns k = some a) (h2 : toV ns v = some b) (h3 : toEs ns l = some r) : toEs ns ((k, v, n) :: l) = some ({ key := a, val := b, born := n } :: r) := by
  simp only [toEs, h1, h2, h3]
theorem toEs_ext (he : Ext ns ns') : ∀ {l : List (CV × CV × Nat)} {x : List MapEntry}, toEs ns l = some x → toEs ns' l = some x
  | [], x, h => h
  | (k, v, n) :: l, x, h => by obtain ⟨a, b, r, h1, h2, h3, rfl⟩ := toEs_cons h; exact toEs_mk (toV_ext he _ h1) (toV_ext he _ h2) (toEs_ext he h3)
theorem toEs_append : ∀ {l m : List (CV × CV × Nat)} {x y : List MapEntry}, toEs ns l = some x → toEs ns m = some y → toEs ns (l ++ m) = some (x ++ y)
  | [], m, x, y, h, h' => by simp [toEs] at h; subst h; simpa using h'
  | (k, v, n) :: l, m, x, y, h, h' => by obtain ⟨a, b, r, h1, h2, h3, rfl⟩ := toEs_cons h; exact toEs_mk h1 h2 (toEs_append h3 h')

def OK (P : Program) (ns : List Nm) (m : Nm) (h : PH) : CO → Prop
  | .cells c e => ∃ pre xs rest, h m.b = some (.cells (pre ++ xs ++ rest).toArray e) ∧ pre.length = m.o ∧ c.wf ∧ toVs ns c.toL = some xs ∧ (∀ x ∈ xs, x.oneCell' = true) ∧ (∀ n, sizeOf' P e = some n → m.c * n ≤ xs.length + rest.length)
  | .map es clock => m.o = 0 ∧ ∃ es', h m.b = some (.map es'.toArray clock) ∧ toEs ns es = some es'
  | .iter mp since seen stepped => m.o = 0 ∧ ∃ mp', h m.b = some (.mapIter mp' since seen.toArray stepped) ∧ (match mp with | none => mp' = none | some b => ∃ k, ns[b]? = some k ∧ mp' = some k.b)
theorem OK.ext (he : Ext ns ns') {m : Nm} {h h' : PH} (hb : ∀ o, h m.b = some o → h' m.b = some o) : ∀ {o : CO}, OK P ns m h o → OK P ns' m h' o
  | .cells c e, ⟨pre, xs, rest, a1, a2, aw, a3, a4, a5⟩ => ⟨pre, xs, rest, hb _ a1, a2, aw, toVs_ext he _ a3, a4, a5⟩
  | .map es clock, ⟨a0, es', a1, a2⟩ => ⟨a0, es', hb _ a1, toEs_ext he a2⟩
  | .iter mp since seen stepped, ⟨a0, mp', a1, a2⟩ => ⟨a0, mp', hb _ a1, by
    cases mp with
    | none => exact a2
    | some b => obtain ⟨k, b1, b2⟩ := a2; exact ⟨k, he.get b1, b2⟩⟩
theorem OK.has {m : Nm} {h : PH} : ∀ {o : CO}, OK P ns m h o → ∃ x, h m.b = some x
  | .cells _ _, ⟨_, _, _, a, _⟩ => ⟨_, a⟩
  | .map _ _, ⟨_, _, a, _⟩ => ⟨_, a⟩
  | .iter _ _ _ _, ⟨_, _, a, _⟩ => ⟨_, a⟩

structure RelH (P : Program) (ns : List Nm) (H : CH) (h : PH) : Prop where
  len : H.n = ns.length
  obj : ∀ b o, H.at b = some o → ∃ m, ns[b]? = some m ∧ OK P ns m h o
  inj : ∀ b b' o o' m m', H.at b = some o → H.at b' = some o' → ns[b]? = some m → ns[b']? = some m' → m.b = m'.b → b = b'
def RelE (ns : List Nm) (E : CE) (ρ : Env) : Prop := ∀ t v, eGet t E = some v → toV ns v = some (ρ t)
theorem RelE.ext (he : Ext ns ns') {E : CE} {ρ : Env} (h : RelE ns E ρ) : RelE ns' E ρ := fun t v hv => toV_ext he v (h t v hv)
theorem RelE.put {E : CE} {ρ : Env} (h : RelE ns E ρ) (d : Nat) {v : CV} {x : Value} (hv : toV ns v = some x) : RelE ns (ePut d (some v) E) (Pw.upd ρ (some d) x) := by
  intro t u hu
  rcases eGet_put hu with ⟨rfl, e⟩ | ⟨hne, e⟩
  · cases e; rw [upd_eq]; exact hv
  · rw [upd_ne _ _ hne]; exact h t u e
theorem RelE.upd {E : CE} {ρ : Env} (h : RelE ns E ρ) (d : Option Nat) {v : CV} {x : Value} (hv : toV ns v = some x) : RelE ns ((eUpd d).1 v E) (Pw.upd ρ d x) := by
  cases d with
  | none => exact h
  | some d => exact h.put d hv
theorem RelE.e0 {ρ : Env} : RelE ns e0 ρ := fun t v hv => by
  unfold eGet gBx at hv
  cases ht : Nat.blt t 256 <;> rw [ht] at hv <;> simp only at hv
  · cases hv
  · rw [Px.e0, sel_mk1, sel_mk1] at hv; cases hv

/-- A new block. -/
theorem RelH.new {H : CH} {h : PH} (hr : RelH P ns H h) {c : Nat} (hc : h c = none) {k : Nat} {x : Obj} {o : CO} (ho : OK P (ns ++ [⟨c, 0, k⟩]) ⟨c, 0, k⟩ (ins h c x) o) : RelH P (ns ++ [⟨c, 0, k⟩]) (H.new o) (ins h c x) := by
  have old : ∀ {b : Nat} {u : CO}, H.at b = some u → ∃ m, ns[b]? = some m ∧ OK P ns m h u ∧ m.b ≠ c := fun hb => by
    obtain ⟨m, h1, h2⟩ := hr.obj _ _ hb
    refine ⟨m, h1, h2, fun e => ?_⟩
    obtain ⟨y, hy⟩ := h2.has
    rw [e, hc] at hy; cases hy
  have nw : (ns ++ [(⟨c, 0, k⟩ : Nm)])[H.n]? = some ⟨c, 0, k⟩ := by rw [hr.len]; simp
  refine ⟨by simp [CH.new, hr.len], fun b u hb => ?_, fun b b' u u' m m' hb hb' hm hm' e => ?_⟩
  · rcases CH.at_new hb with ⟨rfl, rfl⟩ | ⟨hne, hb⟩
    · exact ⟨_, nw, ho⟩
    · obtain ⟨m, h1, h2, h3⟩ := old hb
      exact ⟨m, (Ext.one ns _).get h1, h2.ext (Ext.one ns _) fun o hh => by rw [ins_ne _ _ h3]; exact hh⟩
  · rcases CH.at_new hb with ⟨rfl, rfl⟩ | ⟨hne, hb⟩ <;> rcases CH.at_new hb' with ⟨rfl, rfl⟩ | ⟨hne', hb'⟩
    · rfl
    · obtain ⟨m2, h1, h2, h3⟩ := old hb'
      rw [nw] at hm; cases hm
      rw [(Ext.one ns _).get h1] at hm'; cases hm'
      exact absurd e.symm h3
    · obtain ⟨m2, h1, h2, h3⟩ := old hb
      rw [nw] at hm'; cases hm'
      rw [(Ext.one ns _).get h1] at hm; cases hm
      exact absurd e h3
    · obtain ⟨m1, h1, h2, h3⟩ := old hb
      obtain ⟨m2, g1, g2, g3⟩ := old hb'
      rw [(Ext.one ns _).get h1] at hm; cases hm
      rw [(Ext.one ns _).get g1] at hm'; cases hm'
      exact hr.inj b b' u u' _ _ hb hb' h1 g1 e
/-- A block written over. -/
theorem RelH.set {H : CH} {h : PH} (hr : RelH P ns H h) {b : Nat} {o0 o : CO} {m : Nm} (hb : H.at b = some o0) (hm : ns[b]? = some m) {x : Obj} (ho : OK P ns m (ins h m.b x) o) : RelH P ns (H.set b (some o)) (ins h m.b x) := by
  refine ⟨hr.len, fun b1 u hb1 => ?_, fun b1 b2 u u' m1 m2 h1 h2 hm1 hm2 e => ?_⟩
  · rcases CH.at_set hb1 with ⟨rfl, he⟩ | ⟨hne, hb1⟩
    · cases he; exact ⟨m, hm, ho⟩
    · obtain ⟨m1, g1, g2⟩ := hr.obj _ _ hb1
      have : m1.b ≠ m.b := fun e => hne (hr.inj b1 b u o0 m1 m hb1 hb g1 hm e)
      exact ⟨m1, g1, g2.ext (Ext.refl ns) fun o hh => by rw [ins_ne _ _ this]; exact hh⟩
  · have key : ∀ {x : Nat} {u : CO}, (H.set b (some o)).at x = some u → ∃ u', H.at x = some u' := fun hx => by
      rcases CH.at_set hx with ⟨rfl, _⟩ | ⟨_, hx⟩
      · exact ⟨_, hb⟩
      · exact ⟨_, hx⟩
    obtain ⟨_, k1⟩ := key h1
    obtain ⟨_, k2⟩ := key h2
    exact hr.inj _ _ _ _ _ _ k1 k2 hm1 hm2 e
theorem RelH.drop {H : CH} {h : PH} (hr : RelH P ns H h) (b : Nat) : RelH P ns (H.set b none) h := by
  have key : ∀ {x : Nat} {u : CO}, (H.set b none).at x = some u → x ≠ b ∧ H.at x = some u := fun hx => by
    rcases CH.at_set hx with ⟨_, h⟩ | h
    · cases h
    · exact h
  exact ⟨hr.len, fun x u hx => hr.obj x u (key hx).2, fun b1 b2 u u' m1 m2 h1 h2 => hr.inj b1 b2 u u' m1 m2 (key h1).2 (key h2).2⟩

/-! ### operands -/
def oBx (x : Operand) : Bx (CE → Option CV) := match x with
  | .tmp t => gBx t
  | .const v => match ofV v with
    | some c => ⟨fun _ => some c⟩
    | none => ⟨fun _ => none⟩
  | .func f => ⟨fun _ => some (.fn f [] [])⟩
  | .global _ => ⟨fun _ => none⟩
def xO (x : Operand) (E : CE) : Option CV := (oBx x).1 E
theorem xO_ok {E : CE} {ρ : Env} (hE : RelE ns E ρ) {x : Operand} {v : CV} (h : xO x E = some v) : toV ns v = some (evalE ρ x) := by
  cases x with
  | tmp t => exact hE t v h
  | const c =>
    simp only [xO, oBx] at h
    cases hc : ofV c with
    | none => rw [hc] at h; cases h
    | some u => rw [hc] at h; cases h; exact ofV_ok hc
  | func f => simp only [xO, oBx, Option.some.injEq] at h; subst h; rfl
  | global g => cases h
def sBx : List Operand → Bx (CE → Option (List CV))
  | [] => ⟨fun _ => some []⟩
  | x :: l => ⟨fun E => match (oBx x).1 E with
    | none => none
    | some a => match (sBx l).1 E with
      | none => none
      | some b => some (a :: b)⟩
def xOs (l : List Operand) (E : CE) : Option (List CV) := (sBx l).1 E
theorem xOs_ok {E : CE} {ρ : Env} (hE : RelE ns E ρ) : ∀ {l : List Operand} {v : List CV}, xOs l E = some v → toVs ns v = some (l.map (evalE ρ))
  | [], v, h => by simp [xOs, sBx] at h; subst h; rfl
  | x :: l, v, h => by
    simp only [xOs, sBx] at h
    cases h1 : (oBx x).1 E with
    | none => rw [h1] at h; simp at h
    | some a =>
      cases h2 : (sBx l).1 E with
      | none => rw [h1, h2] at h; simp at h
      | some b => rw [h1, h2] at h; simp at h; subst h; exact toVs_mk (xO_ok hE h1) (xOs_ok hE h2)
def nBx : List (Nat × Operand) → Bx (CE → Option (List (Nat × CV)))
  | [] => ⟨fun _ => some []⟩
  | (i, x) :: l => ⟨fun E => match (oBx x).1 E with
    | none => none
    | some a => match (nBx l).1 E with
      | none => none
      | some b => some ((i, a) :: b)⟩
def xPs (l : List (Nat × Operand)) (E : CE) : Option (List (Nat × CV)) := (nBx l).1 E
end
end
end Go.Px

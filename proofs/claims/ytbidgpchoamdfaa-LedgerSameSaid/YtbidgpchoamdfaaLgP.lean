/- Records tell all: two ledgers' records are the same just if all that is told of them is. -/
import Derived.Test.YtbidgpchoamdfaaLgM
set_option linter.unusedSimpArgs false
set_option linter.unusedVariables false
namespace Go.Pw
open Go Go.Proofs

theorem u8_inj {a b : Nat} (ha : a < 256) (hb : b < 256) (h : UInt8.ofNat a = UInt8.ofNat b) : a = b := by
  have := congrArg UInt8.toNat h
  rw [UInt8.toNat_ofNat', UInt8.toNat_ofNat'] at this
  omega
theorem encN_inj (a : Nat) : ∀ (b : Nat) (x y : List UInt8), encN a ++ x = encN b ++ y → a = b ∧ x = y := by
  induction a using Nat.strongRecOn with
  | _ a ih =>
    intro b x y h
    by_cases ha : a < 128
    · by_cases hb : b < 128
      · rw [encN_small ha, encN_small hb] at h
        simp only [List.cons_append, List.nil_append, List.cons.injEq] at h
        exact ⟨u8_inj (by omega) (by omega) h.1, h.2⟩
      · rw [encN_small ha, encN_big hb] at h
        simp only [List.cons_append, List.nil_append, List.cons.injEq] at h
        have := u8_inj (by omega) (by omega) h.1
        omega
    · by_cases hb : b < 128
      · rw [encN_big ha, encN_small hb] at h
        simp only [List.cons_append, List.nil_append, List.cons.injEq] at h
        have := u8_inj (by omega) (by omega) h.1
        omega
      · rw [encN_big ha, encN_big hb] at h
        simp only [List.cons_append, List.cons.injEq] at h
        have h1 := u8_inj (by omega) (by omega) h.1
        obtain ⟨h2, h3⟩ := ih (a / 128) (by omega) _ _ _ h.2
        exact ⟨by omega, h3⟩
theorem encL_inj : ∀ (l m : List Int) (x y : List UInt8), l.length = m.length → (∀ v ∈ l, 0 ≤ v) → (∀ v ∈ m, 0 ≤ v) → encL l ++ x = encL m ++ y → l = m ∧ x = y
  | [], [], x, y, _, _, _, h => ⟨rfl, by simpa [encL] using h⟩
  | [], _ :: _, _, _, h, _, _, _ => by simp at h
  | _ :: _, [], _, _, h, _, _, _ => by simp at h
  | a :: l, c :: m, x, y, hl, h1, h2, h => by
    simp only [encL, List.flatMap_cons, List.append_assoc] at h
    obtain ⟨e1, e2⟩ := encN_inj _ _ _ _ h
    have ha := h1 a (by simp)
    have hc := h2 c (by simp)
    obtain ⟨e3, e4⟩ := encL_inj l m x y (by simpa using hl) (fun v hv => h1 v (by simp [hv])) (fun v hv => h2 v (by simp [hv])) e2
    exact ⟨by rw [e3, show a = c by omega], e4⟩

/-- All that is told of the client i is the same. -/
def told (L M : Led) (i : Nat) : Prop := (∀ j, j < 10 → L.f i j = M.f i j) ∧ L.f i 10 = M.f i 10 ∧ L.r i = M.r i
theorem pay_told {L M : Led} {i : Nat} (hL : Inv L) (hM : Inv M) (zL : Zer L) (zM : Zer M) (g1 : L.goods = 2) (g2 : M.goods = 2) (i1 : i < L.n) (i2 : i < M.n) : payB L i = payB M i ↔ told L M i := by
  have n1 : numsOf L i = [L.f i 10, L.f i 0, L.f i 1, L.f i 2, L.f i 3, L.f i 6, L.f i 7] := by unfold numsOf; rw [g1]; rfl
  have n2 : numsOf M i = [M.f i 10, M.f i 0, M.f i 1, M.f i 2, M.f i 3, M.f i 6, M.f i 7] := by unfold numsOf; rw [g2]; rfl
  constructor
  · intro h
    unfold payB at h
    obtain ⟨h1, h2⟩ := encL_inj _ _ _ _ (by rw [n1, n2]; rfl) (fun v hv => (numsOf_bd hL i1 v hv).1) (fun v hv => (numsOf_bd hM i2 v hv).1) h
    obtain ⟨_, h3⟩ := encN_inj _ _ _ _ h2
    rw [n1, n2] at h1
    simp only [List.cons.injEq, and_true] at h1
    obtain ⟨a10, a0, a1, a2, a3, a6, a7⟩ := h1
    have z1 := zL i 2 i1 (by omega) (by omega)
    have z2 := zL i 3 i1 (by omega) (by omega)
    have z3 := zM i 2 i2 (by omega) (by omega)
    have z4 := zM i 3 i2 (by omega) (by omega)
    have y1 := hL.lock i 2 i1 (by omega)
    have y2 := hL.lock i 3 i1 (by omega)
    have y3 := hM.lock i 2 i2 (by omega)
    have y4 := hM.lock i 3 i2 (by omega)
    have x1 := hL.pos i 8 i1 (by omega)
    have x2 := hL.pos i 9 i1 (by omega)
    have x3 := hM.pos i 8 i2 (by omega)
    have x4 := hM.pos i 9 i2 (by omega)
    refine ⟨fun j hj => ?_, a10, ByteArray.ext (Array.toList_inj.1 h3)⟩
    match j, hj with
    | 0, _ => exact a0
    | 1, _ => exact a1
    | 2, _ => exact a2
    | 3, _ => exact a3
    | 4, _ => exact z1.trans z3.symm
    | 5, _ => exact z2.trans z4.symm
    | 6, _ => exact a6
    | 7, _ => exact a7
    | 8, _ => simp only [Nat.reduceAdd] at y1 y3 z1 z3; omega
    | 9, _ => simp only [Nat.reduceAdd] at y2 y4 z2 z4; omega
  · rintro ⟨h1, h2, h3⟩
    unfold payB
    rw [n1, n2, h2, h3, h1 0 (by omega), h1 1 (by omega), h1 2 (by omega), h1 3 (by omega), h1 6 (by omega), h1 7 (by omega)]
end Go.Pw

/- Ledgers in memory: moves, marks, what is told of them, a new one. -/
import Derived.Test.YtbidgpchoamdfaaLgB
set_option linter.unusedSimpArgs false
set_option linter.unusedVariables false
namespace Go.Pw
open Go Go.Proofs
section
variable {h : PH} {R : AEnd → PH → Prop} {x b : Nat} {L : Led} {K : Value → Prop} {KH : PH → Prop} {i j : Nat} {g n : Int}

def moveTo (L : Led) (i j : Nat) (n : Int) : Led :=
  let L1 := L.set i 1 (L.f i 1 - n)
  let L2 := L1.set i 0 (L1.f i 0 - n)
  L2.set j 0 (L2.f j 0 + n)
def moveL (L : Led) (i j : Nat) (n : Int) : Int × Led := if partE L 0 n ≠ 0 then (1, L) else if L.f i 1 < n then (61, L) else (0, moveTo L i j n)
def handTo (L : Led) (i j : Nat) (g : Nat) (n : Int) : Led :=
  let L1 := L.set i (6 + g) (L.f i (6 + g) - n)
  let L2 := L1.set i (2 + g) (L1.f i (2 + g) - n)
  L2.set j (2 + g) (L2.f j (2 + g) + n)
def handL (L : Led) (i j : Nat) (g n : Int) : Int × Led := if partE L g n ≠ 0 then (1, L) else if L.f i (6 + g.toNat) < n then (61, L) else (0, handTo L i j g.toNat n)
def markL (L : Led) (i : Nat) (s : Int) (t : ByteArray) : Int × Led :=
  if s < 1 ∨ 1099511627776 < s ∨ 256 < (t.size : Int) then (1, L) else if s ≤ L.f i 10 then (91, L) else (0, (L.set i 10 s).setR i t)

theorem set_ne {L : Led} {i j a c : Nat} {v : Int} (h : ¬ (a = i ∧ c = j)) : (L.set i j v).f a c = L.f a c := by simp [Led.set, h]
theorem set_n (L : Led) (i j : Nat) (v : Int) : (L.set i j v).n = L.n := rfl

theorem move_badFrom (hL : LedAt h x b L) {who : Int} {t n : Value} (hw : who < 0 ∨ (L.n : Int) ≤ who) (hR : R (.ret (.int .i64 60)) h) : ACalls Try.prog 36 #[ptr x, .int .i64 who, t, n] h R := by
  refine call36 ?_
  unfold sh36
  refine find_bad hL hw ?_
  simp [AEnd.elim, hR]
theorem move_badTo (hL : LedAt h x b L) (hi : i < L.n) {who : Int} {n : Value} (hw : who < 0 ∨ (L.n : Int) ≤ who) (hR : R (.ret (.int .i64 60)) h) : ACalls Try.prog 36 #[ptr x, .int .i64 i, .int .i64 who, n] h R := by
  refine call36 ?_
  unfold sh36
  refine find_ok hL hi ?_
  simp [AEnd.elim]
  refine part_bad hL hw ?_
  simp [AEnd.elim, hR]
theorem move_ok (hL : LedAt h x b L) (hs : L.small) (hi : i < L.n) (hj : j < L.n) (hR : R (.ret (.int .i64 (moveL L i j n).1)) (putLed h b (moveL L i j n).2)) :
    ACalls Try.prog 36 #[ptr x, .int .i64 i, .int .i64 j, .int .i64 n] h R := by
  refine call36 ?_
  unfold sh36
  refine find_ok hL hi ?_
  simp [AEnd.elim]
  refine part_ok hL hj ?_
  rcases partE_cases L 0 n with hp | hp
  · have hn := partE_n hp
    have g1 := hs.num i 1 hi (by omega)
    have g0 := hs.num i 0 hi (by omega)
    have g2 := hs.num j 0 hj (by omega)
    simp only [moveL, hp] at hR
    simp [AEnd.elim, hp, vLoad_1 hL.hx, hi, hL.ld hi]
    refine ⟨fun hlt => ?_, fun hle => ?_⟩
    · simp [hlt, putLed_self hL] at hR
      exact hR
    · have hlt : ¬ (L.f i 1 < n) := by omega
      simp [hlt] at hR
      rw [w64 (by omega) (by omega), hL.st hi (by omega)]
      have hL1 := hL.after i 1 (L.f i 1 - n)
      rw [hL1.ld0 hi]
      have e1 : (L.set i 1 (L.f i 1 - n)).f i 0 = L.f i 0 := set_ne (by omega)
      simp only [vBin_sub, vBin_add]
      rw [e1, w64 (by omega) (by omega), hL1.st0 hi]
      have hL2 := hL1.after i 0 (L.f i 0 - n)
      rw [hL2.ld0 hj]
      have e2 : -1099511627776 ≤ ((L.set i 1 (L.f i 1 - n)).set i 0 (L.f i 0 - n)).f j 0 ∧ ((L.set i 1 (L.f i 1 - n)).set i 0 (L.f i 0 - n)).f j 0 ≤ 1099511627776 := by
        by_cases e : j = i
        · subst e; simp only [Led.set, and_self, if_true]; omega
        · rw [set_ne (by omega), set_ne (by omega)]; omega
      simp only [vBin_add]
      rw [w64 (by omega) (by omega), hL2.st0 hj]
      rw [putLed_put, putLed_put]
      unfold moveTo at hR
      simp only [e1] at hR
      exact hR
  · simp [moveL, hp, putLed_self hL] at hR
    simp [AEnd.elim, hp, hR]

theorem hand_badFrom (hL : LedAt h x b L) {who : Int} {t g n : Value} (hw : who < 0 ∨ (L.n : Int) ≤ who) (hR : R (.ret (.int .i64 60)) h) : ACalls Try.prog 37 #[ptr x, .int .i64 who, t, g, n] h R := by
  refine call37 ?_
  unfold sh37
  refine find_bad hL hw ?_
  simp [AEnd.elim, hR]
theorem hand_badTo (hL : LedAt h x b L) (hi : i < L.n) {who : Int} {g n : Value} (hw : who < 0 ∨ (L.n : Int) ≤ who) (hR : R (.ret (.int .i64 60)) h) : ACalls Try.prog 37 #[ptr x, .int .i64 i, .int .i64 who, g, n] h R := by
  refine call37 ?_
  unfold sh37
  refine find_ok hL hi ?_
  simp [AEnd.elim]
  refine part_bad hL hw ?_
  simp [AEnd.elim, hR]
theorem hand_ok (hL : LedAt h x b L) (hs : L.small) (hi : i < L.n) (hj : j < L.n) (hR : R (.ret (.int .i64 (handL L i j g n).1)) (putLed h b (handL L i j g n).2)) :
    ACalls Try.prog 37 #[ptr x, .int .i64 i, .int .i64 j, .int .i64 g, .int .i64 n] h R := by
  refine call37 ?_
  unfold sh37
  refine find_ok hL hi ?_
  simp [AEnd.elim]
  refine part_ok hL hj ?_
  rcases partE_cases L g n with hp | hp
  · have hn := partE_n hp
    have hg4 : g < 4 := by have := hs.gd; omega
    have g1 := hs.num i (6 + g.toNat) hi (by omega)
    have g0 := hs.num i (2 + g.toNat) hi (by omega)
    have g2 := hs.num j (2 + g.toNat) hj (by omega)
    simp only [handL, hp] at hR
    simp [AEnd.elim, hp, vLoad_1 hL.hx, hi, hn.1, hg4, Nat.add_assoc]
    rw [hL.ld hi (by omega)]
    simp only [vBin_lss, dIf_b, decide_eq_true_eq, decide_eq_false_iff_not, Int.not_lt]
    refine ⟨fun hlt => ?_, fun hle => ?_⟩
    · simp [hlt, putLed_self hL] at hR
      exact hR
    · have hlt : ¬ (L.f i (6 + g.toNat) < n) := by omega
      simp [hlt] at hR
      rw [hL.ld hi (by omega)]
      simp only [vBin_sub, vBin_add]
      rw [w64 (by omega) (by omega), hL.st hi (by omega)]
      have hL1 := hL.after i (6 + g.toNat) (L.f i (6 + g.toNat) - n)
      rw [hL1.ld hi (by omega)]
      have e1 : (L.set i (6 + g.toNat) (L.f i (6 + g.toNat) - n)).f i (2 + g.toNat) = L.f i (2 + g.toNat) := set_ne (by omega)
      simp only [vBin_sub, vBin_add]
      rw [e1, w64 (by omega) (by omega), hL1.st hi (by omega)]
      have hL2 := hL1.after i (2 + g.toNat) (L.f i (2 + g.toNat) - n)
      rw [hL2.ld hj (by omega)]
      have e2 : -1099511627776 ≤ ((L.set i (6 + g.toNat) (L.f i (6 + g.toNat) - n)).set i (2 + g.toNat) (L.f i (2 + g.toNat) - n)).f j (2 + g.toNat) ∧ ((L.set i (6 + g.toNat) (L.f i (6 + g.toNat) - n)).set i (2 + g.toNat) (L.f i (2 + g.toNat) - n)).f j (2 + g.toNat) ≤ 1099511627776 := by
        by_cases e : j = i
        · subst e; simp only [Led.set, and_self, if_true]; omega
        · rw [set_ne (by omega), set_ne (by omega)]; omega
      simp only [vBin_sub, vBin_add]
      rw [w64 (by omega) (by omega), hL2.st hj (by omega)]
      rw [putLed_put, putLed_put]
      unfold handTo at hR
      simp only [e1] at hR
      exact hR
  · simp [handL, hp, putLed_self hL] at hR
    simp [AEnd.elim, hp, hR]

theorem mark_bad (hL : LedAt h x b L) {who : Int} {s t : Value} (hw : who < 0 ∨ (L.n : Int) ≤ who) (hR : R (.ret (.int .i64 60)) h) : ACalls Try.prog 38 #[ptr x, .int .i64 who, s, t] h R := by
  refine call38 ?_
  unfold sh38
  refine find_bad hL hw ?_
  simp [AEnd.elim, hR]
theorem mark_ok (hL : LedAt h x b L) (hi : i < L.n) {s : Int} {t : ByteArray} (hR : R (.ret (.int .i64 (markL L i s t).1)) (putLed h b (markL L i s t).2)) :
    ACalls Try.prog 38 #[ptr x, .int .i64 i, .int .i64 s, .string t] h R := by
  refine call38 ?_
  unfold sh38
  refine find_ok hL hi ?_
  unfold markL at hR
  by_cases h1 : s < 1
  · simp [h1, putLed_self hL] at hR
    simp [AEnd.elim, h1, hR]
  · by_cases h2 : 1099511627776 < s
    · simp [h2, putLed_self hL] at hR
      simp [AEnd.elim, h1, h2, hR]
    · by_cases h3 : 256 < (t.size : Int)
      · simp [h3, putLed_self hL] at hR
        simp [AEnd.elim, h1, h2, h3, hR]
      · rw [if_neg (by omega)] at hR
        simp [AEnd.elim, h1, h2, h3, hL.ld hi]
        refine ⟨fun hle => ?_, fun hgt => ?_⟩
        · simp [hle, putLed_self hL] at hR
          exact hR
        · rw [if_neg (by omega)] at hR
          rw [hL.st hi (by omega), (hL.after i 10 s).stR hi, putLed_put]
          exact hR

theorem last_bad (hL : LedAt h x b L) {who : Int} (hw : who < 0 ∨ (L.n : Int) ≤ who) (hR : R (.ret (.tuple #[.int .i64 0, .string ⟨#[]⟩])) h) : ACalls Try.prog 15 #[ptr x, .int .i64 who] h R := by
  refine call15 ?_
  unfold sh15
  refine find_bad hL hw ?_
  simp [AEnd.elim, hR]
theorem last_ok (hL : LedAt h x b L) (hi : i < L.n) (hR : R (.ret (.tuple #[.int .i64 (L.f i 10), .string (L.r i)])) h) : ACalls Try.prog 15 #[ptr x, .int .i64 i] h R := by
  refine call15 ?_
  unfold sh15
  refine find_ok hL hi ?_
  simp [AEnd.elim, hL.ld hi, hL.ldR hi, hR]

def acct0 : Array Value := #[.int .i64 0, .int .i64 0, .int .i64 0, .int .i64 0, .int .i64 0, .int .i64 0, .int .i64 0, .int .i64 0, .int .i64 0, .int .i64 0]
theorem acct_bad (hL : LedAt h x b L) {who : Int} (hw : who < 0 ∨ (L.n : Int) ≤ who) (hR : R (.ret (.tuple #[.agg acct0, .bool false])) h) : ACalls Try.prog 16 #[ptr x, .int .i64 who] h R := by
  refine ACalls.drop (call16 ?_)
  unfold sh16
  refine vNew_i fun c hc => ?_
  refine find_bad (hL.sub (sub_ins _ hc)) hw ?_
  simp [AEnd.elim]
  refine ⟨_, rfl, ?_⟩
  refine vStore_to (ins_eq _ _ _) (by rfl) (by rfl) (by rfl) ?_
  rw [ins_ins, vLoad_n (ins_eq _ _ _) (by simp)]
  exact ⟨h, sub_ins _ hc, hR⟩
theorem acct_ok (hL : LedAt h x b L) (hi : i < L.n) (hR : R (.ret (.tuple #[.agg (acctCells L i), .bool true])) h) : ACalls Try.prog 16 #[ptr x, .int .i64 i] h R := by
  refine ACalls.drop (call16 ?_)
  unfold sh16
  refine vNew_i fun c hc => ?_
  have hL1 := hL.sub (sub_ins (h := h) (.cells acct0 43 (0, 0)) hc)
  refine find_ok (L := L) hL1 hi ?_
  simp [AEnd.elim]
  rw [vLoad_n hL1.hb (by rw [ledCells_size]; omega)]
  have he : (ledCells L).extract (i * 12) (i * 12 + 10) = acctCells L i := by
    have h1 := ledCells_ent hi
    have h2 := entCells_acct L i
    rw [← h1] at h2
    rw [← h2, Array.extract_extract]
    congr 1
    omega
  rw [he]
  refine vStore_to (ins_eq _ _ _) (by rfl) (by rfl) (by rfl) ?_
  rw [ins_ins, vLoad_n (ins_eq _ _ _) (by simp [acctCells])]
  exact ⟨h, sub_ins _ hc, by simpa [acctCells] using hR⟩

/-- A new ledger of empty accounts. -/
def newLed (c g : Int) : Led := { goods := g, n := c.toNat, f := fun _ _ => 0, r := fun _ => ⟨#[]⟩ }
theorem new_bad {c g : Int} (hb : ¬ (1 ≤ c ∧ c ≤ 16 ∧ 1 ≤ g ∧ g ≤ 4)) (hR : R (.ret (.tuple #[.pointer none, .int .i64 1])) h) : ACalls Try.prog 23 #[.int .i64 c, .int .i64 g] h R := by
  refine call23 ?_
  unfold sh23
  by_cases h1 : c < 1
  · simp [h1, hR]
  · by_cases h2 : 16 < c
    · simp [h1, h2, hR]
    · by_cases h3 : g < 1
      · simp [h1, h2, h3, hR]
      · have h4 : 4 < g := by omega
        simp [h1, h2, h3, h4, hR]
theorem newLed_cells (c g : Int) : rep #[.int .i64 0, .int .i64 0, .int .i64 0, .int .i64 0, .int .i64 0, .int .i64 0, .int .i64 0, .int .i64 0, .int .i64 0, .int .i64 0, .int .i64 0, .string ⟨#[]⟩] (c.toNat * 12) = ledCells (newLed c g) := by
  apply Array.ext_getElem?
  intro k
  unfold rep
  rcases Nat.lt_or_ge k (c.toNat * 12) with hk | hk
  · rw [ledCells_at _ _ (by simpa [newLed] using hk)]
    simp only [Array.getElem?_map, Array.getElem?_range, hk, if_true, Option.map_some]
    congr 1
    have hm : k % 12 < 12 := by omega
    unfold ledCell newLed
    simp only [List.size_toArray, List.length_cons, List.length_nil]
    match hk : k % 12, hm with
    | 0, _ => rfl
    | 1, _ => rfl
    | 2, _ => rfl
    | 3, _ => rfl
    | 4, _ => rfl
    | 5, _ => rfl
    | 6, _ => rfl
    | 7, _ => rfl
    | 8, _ => rfl
    | 9, _ => rfl
    | 10, _ => rfl
    | 11, _ => rfl
    | n + 12, h => exact absurd h (by omega)
  · rw [Array.getElem?_eq_none (by simp; omega), Array.getElem?_eq_none (by rw [ledCells_size]; simpa [newLed] using hk)]
theorem new_ok {c g : Int} (hc1 : 1 ≤ c) (hc2 : c ≤ 16) (hg1 : 1 ≤ g) (hg2 : g ≤ 4)
    (hR : ∀ x b, h b = none → h x = none → x ≠ b → R (.ret (.tuple #[ptr x, .int .i64 0])) (ins (ins h b (.cells (ledCells (newLed c g)) 66 (0, 0))) x (.cells #[.int .i64 g, .slice (some ⟨b, 0, none⟩) c.toNat c.toNat] 64 (0, 0)))) :
    ACalls Try.prog 23 #[.int .i64 c, .int .i64 g] h R := by
  refine call23 ?_
  unfold sh23
  have h1 : ¬ c < 1 := by omega
  have h2 : ¬ 16 < c := by omega
  have h3 : ¬ g < 1 := by omega
  have h4 : ¬ 4 < g := by omega
  simp [h1, h2, h3, h4]
  refine ⟨_, _, _, _, rfl, rfl, by omega, by omega, by omega, by omega, fun b hb => ?_⟩
  refine ⟨_, rfl, ?_⟩
  refine vNew_i fun x hx => ?_
  obtain ⟨hx1, hx2⟩ := fresh_of hx
  have := hR x b hb hx1 hx2
  rw [newLed_cells c g]
  exact this
end
end Go.Pw

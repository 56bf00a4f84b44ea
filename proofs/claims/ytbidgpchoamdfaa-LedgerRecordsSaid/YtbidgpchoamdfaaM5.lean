/- Texts of this claim, one behind the other. -/
import Derived.Test.YtbidgpchoamdfaaM3
import Derived.Test.YtbidgpchoamdfaaM4
import Derived.KernelRfl
/- Ledgers in memory, and what the ledger's own functions do to them. -/
set_option linter.unusedSimpArgs false
set_option linter.unusedVariables false
namespace Go.Pw
open Go Go.Proofs

/-- A ledger: how many goods, how many accounts; of the account i the number j (0 cash, 1 held, 2 to 5 goods, 6 to 9 locked, 10 stamp) and the reply. -/
structure Led where
  goods : Int
  n : Nat
  f : Nat → Nat → Int
  r : Nat → ByteArray

def Led.set (L : Led) (i j : Nat) (v : Int) : Led := { L with f := fun a b => if a = i ∧ b = j then v else L.f a b }
def Led.setR (L : Led) (i : Nat) (s : ByteArray) : Led := { L with r := fun a => if a = i then s else L.r a }
def ledCell (L : Led) (k : Nat) : Value := if k % 12 = 11 then .string (L.r (k / 12)) else .int .i64 (L.f (k / 12) (k % 12))
def ledCells (L : Led) : Array Value := Array.ofFn (n := L.n * 12) fun k => ledCell L k.val
theorem ledCells_size (L : Led) : (ledCells L).size = L.n * 12 := by simp [ledCells]
theorem ledCells_at (L : Led) (k : Nat) (hk : k < L.n * 12) : (ledCells L)[k]? = some (ledCell L k) := by
  unfold ledCells; simp [hk]
theorem ledCells_get {L : Led} {i j : Nat} (hi : i < L.n) (hj : j < 11) : (ledCells L)[i * 12 + j]? = some (.int .i64 (L.f i j)) := by
  rw [ledCells_at _ _ (by omega)]
  unfold ledCell
  rw [show (i * 12 + j) % 12 = j by omega, show (i * 12 + j) / 12 = i by omega, if_neg (by omega)]
theorem ledCells_rep {L : Led} {i : Nat} (hi : i < L.n) : (ledCells L)[i * 12 + 11]? = some (.string (L.r i)) := by
  rw [ledCells_at _ _ (by omega)]
  unfold ledCell
  rw [show (i * 12 + 11) % 12 = 11 by omega, show (i * 12 + 11) / 12 = i by omega, if_pos rfl]
theorem ledCells_set {L : Led} {i j : Nat} (hi : i < L.n) (hj : j < 11) (v : Int) : (ledCells L).setIfInBounds (i * 12 + j) (.int .i64 v) = ledCells (L.set i j v) := by
  apply Array.ext_getElem?
  intro k
  rcases Nat.lt_or_ge k (L.n * 12) with hk | hk
  · rw [ledCells_at (L.set i j v) k hk]
    by_cases he : i * 12 + j = k
    · subst he
      rw [Array.getElem?_setIfInBounds_self_of_lt (by rw [ledCells_size]; exact hk)]
      unfold ledCell Led.set
      rw [show (i * 12 + j) % 12 = j by omega, show (i * 12 + j) / 12 = i by omega, if_neg (by omega)]
      simp
    · rw [Array.getElem?_setIfInBounds_ne he, ledCells_at _ _ hk]
      unfold ledCell Led.set
      have : ¬ (k / 12 = i ∧ k % 12 = j) := by omega
      simp only [this, if_false]
  · rw [Array.getElem?_eq_none (by simpa [ledCells_size] using hk), Array.getElem?_eq_none (by rw [ledCells_size]; exact hk)]
theorem ledCells_setR {L : Led} {i : Nat} (hi : i < L.n) (s : ByteArray) : (ledCells L).setIfInBounds (i * 12 + 11) (.string s) = ledCells (L.setR i s) := by
  apply Array.ext_getElem?
  intro k
  rcases Nat.lt_or_ge k (L.n * 12) with hk | hk
  · rw [ledCells_at (L.setR i s) k hk]
    by_cases he : i * 12 + 11 = k
    · subst he
      rw [Array.getElem?_setIfInBounds_self_of_lt (by rw [ledCells_size]; exact hk)]
      unfold ledCell Led.setR
      rw [show (i * 12 + 11) % 12 = 11 by omega, show (i * 12 + 11) / 12 = i by omega, if_pos rfl]
      simp
    · rw [Array.getElem?_setIfInBounds_ne he, ledCells_at _ _ hk]
      unfold ledCell Led.setR
      by_cases h11 : k % 12 = 11
      · have : ¬ (k / 12 = i) := by omega
        simp only [this, if_false]
      · simp only [h11, if_false]
  · rw [Array.getElem?_eq_none (by simpa [ledCells_size] using hk), Array.getElem?_eq_none (by rw [ledCells_size]; exact hk)]

/-- The ledger L lies at x; its accounts at b. -/
structure LedAt (h : PH) (x b : Nat) (L : Led) : Prop where
  hx : h x = some (.cells #[.int .i64 L.goods, .slice (some ⟨b, 0, none⟩) L.n L.n] 64 (0, 0))
  hb : h b = some (.cells (ledCells L) 66 (0, 0))
  ne : x ≠ b
def putLed (h : PH) (b : Nat) (L : Led) : PH := ins h b (.cells (ledCells L) 66 (0, 0))
theorem putLed_self {h : PH} {x b : Nat} {L : Led} (hL : LedAt h x b L) : putLed h b L = h := ins_self hL.hb
theorem LedAt.put {h : PH} {x b : Nat} {L M : Led} (hL : LedAt h x b L) (hg : M.goods = L.goods) (hn : M.n = L.n) : LedAt (putLed h b M) x b M :=
  ⟨by unfold putLed; rw [ins_ne _ _ hL.ne, hL.hx, hg, hn], ins_eq _ _ _, hL.ne⟩
theorem putLed_put (h : PH) (b : Nat) (L M : Led) : putLed (putLed h b L) b M = putLed h b M := ins_ins _ _ _ _

abbrev ptr (x : Nat) : Value := .pointer (some ⟨x, 0, none⟩)

section
variable {h : PH} {R : AEnd → PH → Prop} {x b : Nat} {L : Led}

theorem amount_spec {n : Int} (hR : R (.ret (.bool (decide (1 ≤ n ∧ n ≤ 1099511627776)))) h) : ACalls Try.prog 64 #[.int .i64 n] h R := by
  refine call64 ?_
  unfold sh64
  by_cases h1 : 1 ≤ n <;> by_cases h2 : n ≤ 1099511627776 <;> simp [h1, h2] at hR <;> simp [h1, h2, hR]

theorem find_nil {w : Value} (hR : R (.ret (.tuple #[.pointer none, .int .i64 1])) h) : ACalls Try.prog 39 #[.pointer none, w] h R := by
  refine call39 ?_
  unfold sh39
  rw [vBin_nilp Try.underlying25]
  simpa using hR

theorem find_bad (hL : LedAt h x b L) {who : Int} (hw : who < 0 ∨ (L.n : Int) ≤ who) (hR : R (.ret (.tuple #[.pointer none, .int .i64 60])) h) : ACalls Try.prog 39 #[ptr x, .int .i64 who] h R := by
  refine call39 ?_
  unfold sh39 ptr
  rw [vBin_pnil Try.underlying25]
  by_cases h0 : who < 0
  · simp [h0, hR]
  · have h1 : (L.n : Int) ≤ who := by omega
    simp [h0, hR, h1, vLoad_1 hL.hx]

theorem find_ok (hL : LedAt h x b L) {i : Nat} (hi : i < L.n) (hR : R (.ret (.tuple #[.pointer (some ⟨b, i * 12, none⟩), .int .i64 0])) h) : ACalls Try.prog 39 #[ptr x, .int .i64 i] h R := by
  refine call39 ?_
  unfold sh39 ptr
  rw [vBin_pnil Try.underlying25]
  have h0 : ¬ ((i : Int) < 0) := by omega
  have h1 : ¬ ((L.n : Int) ≤ (i : Int)) := by omega
  simp [h0, h1, vLoad_1 hL.hx, hR, hi]

/-- Why an amount of a good may not be asked for, of a client that there is. -/
def partE (L : Led) (good n : Int) : Int := if 0 ≤ good ∧ good < L.goods ∧ 1 ≤ n ∧ n ≤ 1099511627776 then 0 else 1

theorem part_nil {w g n : Value} (hR : R (.ret (.tuple #[.pointer none, .int .i64 1])) h) : ACalls Try.prog 56 #[.pointer none, w, g, n] h R := by
  refine call56 ?_
  unfold sh56
  refine find_nil ?_
  simp [AEnd.elim, hR]

theorem part_bad (hL : LedAt h x b L) {who : Int} {g n : Value} (hw : who < 0 ∨ (L.n : Int) ≤ who) (hR : R (.ret (.tuple #[.pointer none, .int .i64 60])) h) :
    ACalls Try.prog 56 #[ptr x, .int .i64 who, g, n] h R := by
  refine call56 ?_
  unfold sh56
  refine find_bad hL hw ?_
  simp [AEnd.elim, hR]

theorem part_ok (hL : LedAt h x b L) {i : Nat} {good n : Int} (hi : i < L.n) (hR : R (.ret (.tuple #[.pointer (some ⟨b, i * 12, none⟩), .int .i64 (partE L good n)])) h) :
    ACalls Try.prog 56 #[ptr x, .int .i64 i, .int .i64 good, .int .i64 n] h R := by
  refine call56 ?_
  unfold sh56
  refine find_ok hL hi ?_
  unfold partE at hR
  by_cases h1 : good < 0
  · have : ¬ (0 ≤ good) := by omega
    simp [this] at hR
    simp [AEnd.elim, h1, hR]
  · have h1' : 0 ≤ good := by omega
    by_cases h2 : L.goods ≤ good
    · have : ¬ (good < L.goods) := by omega
      simp [this] at hR
      simp [AEnd.elim, h1, h2, hR, vLoad_1 hL.hx]
    · have h2' : good < L.goods := by omega
      simp [AEnd.elim, h1, h2, vLoad_1 hL.hx]
      refine amount_spec ?_
      by_cases h3 : 1 ≤ n ∧ n ≤ 1099511627776
      · simp [h1', h2', h3] at hR
        simp [AEnd.elim, h3, hR]
      · have : ¬ (0 ≤ good ∧ good < L.goods ∧ 1 ≤ n ∧ n ≤ 1099511627776) := by omega
        rw [if_neg this] at hR
        simp [AEnd.elim, h3, hR]

theorem wr1 (c : Array Value) (o : Nat) (v : Value) : wr c o [v] = c.setIfInBounds o v := rfl
theorem LedAt.sub {g : PH} (hL : LedAt h x b L) (hs : Sub h g) : LedAt g x b L := ⟨hs _ _ hL.hx, hs _ _ hL.hb, hL.ne⟩

section
variable {K : Value → Prop} {KH : PH → Prop} {i : Nat}
theorem LedAt.ld (hL : LedAt h x b L) (hi : i < L.n) {j : Nat} (hj : j < 11) : vLoad none (.pointer (some ⟨b, i * 12 + j, none⟩)) h K ↔ K (.int .i64 (L.f i j)) := vLoad_1 hL.hb (ledCells_get hi hj)
theorem LedAt.ld0 (hL : LedAt h x b L) (hi : i < L.n) : vLoad none (.pointer (some ⟨b, i * 12, none⟩)) h K ↔ K (.int .i64 (L.f i 0)) := vLoad_1 hL.hb (ledCells_get hi (by omega) (j := 0))
theorem LedAt.ldR (hL : LedAt h x b L) (hi : i < L.n) : vLoad none (.pointer (some ⟨b, i * 12 + 11, none⟩)) h K ↔ K (.string (L.r i)) := vLoad_1 hL.hb (ledCells_rep hi)
theorem LedAt.st (hL : LedAt h x b L) (hi : i < L.n) {j : Nat} (hj : j < 11) (v : Int) : vStore 1 (.pointer (some ⟨b, i * 12 + j, none⟩)) (.int .i64 v) h KH ↔ KH (putLed h b (L.set i j v)) := by
  rw [vStore_1 hL.hb (by rw [ledCells_size]; omega) rfl, ledCells_set hi hj]; rfl
theorem LedAt.st0 (hL : LedAt h x b L) (hi : i < L.n) (v : Int) : vStore 1 (.pointer (some ⟨b, i * 12, none⟩)) (.int .i64 v) h KH ↔ KH (putLed h b (L.set i 0 v)) := hL.st hi (j := 0) (by omega) v
theorem LedAt.stR (hL : LedAt h x b L) (hi : i < L.n) (s : ByteArray) : vStore 1 (.pointer (some ⟨b, i * 12 + 11, none⟩)) (.string s) h KH ↔ KH (putLed h b (L.setR i s)) := by
  rw [vStore_1 hL.hb (by rw [ledCells_size]; omega) rfl, ledCells_setR hi]; rfl
theorem LedAt.after (hL : LedAt h x b L) (i j : Nat) (v : Int) : LedAt (putLed h b (L.set i j v)) x b (L.set i j v) := hL.put rfl rfl
theorem LedAt.afterR (hL : LedAt h x b L) (i : Nat) (v : ByteArray) : LedAt (putLed h b (L.setR i v)) x b (L.setR i v) := hL.put rfl rfl
end

/-- What an act makes of a ledger: the error's number, and the ledger then. -/
def takeL (L : Led) (i : Nat) (n : Int) : Int × Led := if partE L 0 n ≠ 0 then (1, L) else if L.f i 0 - L.f i 1 < n then (61, L) else (0, L.set i 0 (L.f i 0 - n))
def holdL (L : Led) (i : Nat) (n : Int) : Int × Led := if partE L 0 n ≠ 0 then (1, L) else if L.f i 0 - L.f i 1 < n then (61, L) else (0, L.set i 1 (L.f i 1 + n))
def freeL (L : Led) (i : Nat) (n : Int) : Int × Led := if partE L 0 n ≠ 0 then (1, L) else if L.f i 1 < n then (61, L) else (0, L.set i 1 (L.f i 1 - n))
def fetchL (L : Led) (i : Nat) (g n : Int) : Int × Led := if partE L g n ≠ 0 then (1, L) else if L.f i (2 + g.toNat) - L.f i (6 + g.toNat) < n then (61, L) else (0, L.set i (2 + g.toNat) (L.f i (2 + g.toNat) - n))
def lockL (L : Led) (i : Nat) (g n : Int) : Int × Led := if partE L g n ≠ 0 then (1, L) else if L.f i (2 + g.toNat) - L.f i (6 + g.toNat) < n then (61, L) else (0, L.set i (6 + g.toNat) (L.f i (6 + g.toNat) + n))
def unlockL (L : Led) (i : Nat) (g n : Int) : Int × Led := if partE L g n ≠ 0 then (1, L) else if L.f i (6 + g.toNat) < n then (61, L) else (0, L.set i (6 + g.toNat) (L.f i (6 + g.toNat) - n))
/-- All numbers of a ledger are of a sound size; there are at most 16 accounts and 4 goods. -/
structure Led.small (L : Led) : Prop where
  num : ∀ i j, i < L.n → j < 11 → 0 ≤ L.f i j ∧ L.f i j ≤ 1099511627776
  cl : L.n ≤ 16
  gd : L.goods ≤ 4
  rep : ∀ i, i < L.n → (L.r i).size ≤ 256

theorem partE_cases (L : Led) (g n : Int) : partE L g n = 0 ∨ partE L g n = 1 := by unfold partE; split <;> simp
theorem partE_n {g n : Int} (h : partE L g n = 0) : 0 ≤ g ∧ g < L.goods ∧ 1 ≤ n ∧ n ≤ 1099511627776 := by
  unfold partE at h
  split at h
  · assumption
  · cases h

variable {i : Nat} {g n : Int}
theorem take_ok (hL : LedAt h x b L) (hs : L.small) (hi : i < L.n) (hR : R (.ret (.int .i64 (takeL L i n).1)) (putLed h b (takeL L i n).2)) :
    ACalls Try.prog 29 #[ptr x, .int .i64 i, .int .i64 n] h R := by
  refine call29 ?_
  unfold sh29
  refine part_ok hL hi ?_
  rcases partE_cases L 0 n with hp | hp
  · have hn := partE_n hp
    have g0 := hs.num i 0 hi (by omega)
    have g1 := hs.num i 1 hi (by omega)
    simp only [takeL, hp] at hR
    simp [AEnd.elim, hp, hL.ld0 hi, hL.ld hi]
    rw [w64 (by omega) (by omega)]
    refine ⟨fun hlt => ?_, fun hle => ?_⟩
    · simp [hlt, putLed_self hL] at hR
      exact hR
    · have hlt : ¬ (L.f i 0 - L.f i 1 < n) := by omega
      simp [hlt] at hR
      try simp only [vBin_add, vBin_sub]
      rw [w64 (by omega) (by omega), hL.st0 hi]
      exact hR
  · simp [takeL, hp, putLed_self hL] at hR
    simp [AEnd.elim, hp, hR]

theorem hold_ok (hL : LedAt h x b L) (hs : L.small) (hi : i < L.n) (hR : R (.ret (.int .i64 (holdL L i n).1)) (putLed h b (holdL L i n).2)) :
    ACalls Try.prog 32 #[ptr x, .int .i64 i, .int .i64 n] h R := by
  refine call32 ?_
  unfold sh32
  refine part_ok hL hi ?_
  rcases partE_cases L 0 n with hp | hp
  · have hn := partE_n hp
    have g0 := hs.num i 0 hi (by omega)
    have g1 := hs.num i 1 hi (by omega)
    simp only [holdL, hp] at hR
    simp [AEnd.elim, hp, hL.ld0 hi, hL.ld hi]
    rw [w64 (by omega) (by omega)]
    refine ⟨fun hlt => ?_, fun hle => ?_⟩
    · simp [hlt, putLed_self hL] at hR
      exact hR
    · have hlt : ¬ (L.f i 0 - L.f i 1 < n) := by omega
      simp [hlt] at hR
      try simp only [vBin_add, vBin_sub]
      rw [w64 (by omega) (by omega), hL.st hi (by omega)]
      exact hR
  · simp [holdL, hp, putLed_self hL] at hR
    simp [AEnd.elim, hp, hR]

theorem free_ok (hL : LedAt h x b L) (hs : L.small) (hi : i < L.n) (hR : R (.ret (.int .i64 (freeL L i n).1)) (putLed h b (freeL L i n).2)) :
    ACalls Try.prog 33 #[ptr x, .int .i64 i, .int .i64 n] h R := by
  refine call33 ?_
  unfold sh33
  refine part_ok hL hi ?_
  rcases partE_cases L 0 n with hp | hp
  · have hn := partE_n hp
    have g1 := hs.num i 1 hi (by omega)
    simp only [freeL, hp] at hR
    simp [AEnd.elim, hp, hL.ld0 hi, hL.ld hi]
    refine ⟨fun hlt => ?_, fun hle => ?_⟩
    · simp [hlt, putLed_self hL] at hR
      exact hR
    · have hlt : ¬ (L.f i 1 < n) := by omega
      simp [hlt] at hR
      try simp only [vBin_add, vBin_sub]
      rw [w64 (by omega) (by omega), hL.st hi (by omega)]
      exact hR
  · simp [freeL, hp, putLed_self hL] at hR
    simp [AEnd.elim, hp, hR]

theorem fetch_ok (hL : LedAt h x b L) (hs : L.small) (hi : i < L.n) (hR : R (.ret (.int .i64 (fetchL L i g n).1)) (putLed h b (fetchL L i g n).2)) :
    ACalls Try.prog 31 #[ptr x, .int .i64 i, .int .i64 g, .int .i64 n] h R := by
  refine call31 ?_
  unfold sh31
  refine part_ok hL hi ?_
  rcases partE_cases L g n with hp | hp
  · have hn := partE_n hp
    have hg4 : g < 4 := by have := hs.gd; omega
    have g0 := hs.num i (2 + g.toNat) hi (by omega)
    have g1 := hs.num i (6 + g.toNat) hi (by omega)
    simp only [fetchL, hp] at hR
    simp [AEnd.elim, hp, hn.1, hg4, Nat.add_assoc, hL.ld hi (j := 2 + g.toNat) (by omega), hL.ld hi (j := 6 + g.toNat) (by omega)]
    rw [w64 (by omega) (by omega)]
    refine ⟨fun hlt => ?_, fun hle => ?_⟩
    · simp [hlt, putLed_self hL] at hR
      exact hR
    · have hlt : ¬ (L.f i (2 + g.toNat) - L.f i (6 + g.toNat) < n) := by omega
      simp [hlt] at hR
      try simp only [vBin_add, vBin_sub]
      rw [w64 (by omega) (by omega), hL.st hi (by omega)]
      exact hR
  · simp [fetchL, hp, putLed_self hL] at hR
    simp [AEnd.elim, hp, hR]

theorem lock_ok (hL : LedAt h x b L) (hs : L.small) (hi : i < L.n) (hR : R (.ret (.int .i64 (lockL L i g n).1)) (putLed h b (lockL L i g n).2)) :
    ACalls Try.prog 34 #[ptr x, .int .i64 i, .int .i64 g, .int .i64 n] h R := by
  refine call34 ?_
  unfold sh34
  refine part_ok hL hi ?_
  rcases partE_cases L g n with hp | hp
  · have hn := partE_n hp
    have hg4 : g < 4 := by have := hs.gd; omega
    have g0 := hs.num i (2 + g.toNat) hi (by omega)
    have g1 := hs.num i (6 + g.toNat) hi (by omega)
    simp only [lockL, hp] at hR
    simp [AEnd.elim, hp, hn.1, hg4, Nat.add_assoc, hL.ld hi (j := 2 + g.toNat) (by omega), hL.ld hi (j := 6 + g.toNat) (by omega)]
    rw [w64 (by omega) (by omega)]
    refine ⟨fun hlt => ?_, fun hle => ?_⟩
    · simp [hlt, putLed_self hL] at hR
      exact hR
    · have hlt : ¬ (L.f i (2 + g.toNat) - L.f i (6 + g.toNat) < n) := by omega
      simp [hlt] at hR
      try simp only [vBin_add, vBin_sub]
      rw [w64 (by omega) (by omega), hL.st hi (by omega)]
      exact hR
  · simp [lockL, hp, putLed_self hL] at hR
    simp [AEnd.elim, hp, hR]

theorem unlock_ok (hL : LedAt h x b L) (hs : L.small) (hi : i < L.n) (hR : R (.ret (.int .i64 (unlockL L i g n).1)) (putLed h b (unlockL L i g n).2)) :
    ACalls Try.prog 35 #[ptr x, .int .i64 i, .int .i64 g, .int .i64 n] h R := by
  refine call35 ?_
  unfold sh35
  refine part_ok hL hi ?_
  rcases partE_cases L g n with hp | hp
  · have hn := partE_n hp
    have hg4 : g < 4 := by have := hs.gd; omega
    have g1 := hs.num i (6 + g.toNat) hi (by omega)
    simp only [unlockL, hp] at hR
    simp [AEnd.elim, hp, hn.1, hg4, Nat.add_assoc, hL.ld hi (j := 6 + g.toNat) (by omega)]
    refine ⟨fun hlt => ?_, fun hle => ?_⟩
    · simp [hlt, putLed_self hL] at hR
      exact hR
    · have hlt : ¬ (L.f i (6 + g.toNat) < n) := by omega
      simp [hlt] at hR
      try simp only [vBin_add, vBin_sub]
      rw [w64 (by omega) (by omega), hL.st hi (by omega)]
      exact hR
  · simp [unlockL, hp, putLed_self hL] at hR
    simp [AEnd.elim, hp, hR]
end
end Go.Pw
/- Ledgers in memory: totals, payments, moves, marks, accounts, a new one. -/
set_option linter.unusedSimpArgs false
set_option linter.unusedVariables false
namespace Go.Pw
open Go Go.Proofs

def entCells (L : Led) (i : Nat) : Array Value := #[.int .i64 (L.f i 0), .int .i64 (L.f i 1), .int .i64 (L.f i 2), .int .i64 (L.f i 3), .int .i64 (L.f i 4), .int .i64 (L.f i 5), .int .i64 (L.f i 6), .int .i64 (L.f i 7), .int .i64 (L.f i 8), .int .i64 (L.f i 9), .int .i64 (L.f i 10), .string (L.r i)]
def acctCells (L : Led) (i : Nat) : Array Value := #[.int .i64 (L.f i 0), .int .i64 (L.f i 1), .int .i64 (L.f i 2), .int .i64 (L.f i 3), .int .i64 (L.f i 4), .int .i64 (L.f i 5), .int .i64 (L.f i 6), .int .i64 (L.f i 7), .int .i64 (L.f i 8), .int .i64 (L.f i 9)]
theorem ledCells_ent {L : Led} {i : Nat} (hi : i < L.n) : (ledCells L).extract (i * 12) (i * 12 + 12) = entCells L i := by
  have key : ∀ j, j < 12 → (ledCells L)[i * 12 + j]? = (entCells L i)[j]? := fun j hj => match j, hj with
    | 0, _ => by have := ledCells_get hi (j := 0) (by omega); simpa [entCells] using this
    | 1, _ => by have := ledCells_get hi (j := 1) (by omega); simpa [entCells] using this
    | 2, _ => by have := ledCells_get hi (j := 2) (by omega); simpa [entCells] using this
    | 3, _ => by have := ledCells_get hi (j := 3) (by omega); simpa [entCells] using this
    | 4, _ => by have := ledCells_get hi (j := 4) (by omega); simpa [entCells] using this
    | 5, _ => by have := ledCells_get hi (j := 5) (by omega); simpa [entCells] using this
    | 6, _ => by have := ledCells_get hi (j := 6) (by omega); simpa [entCells] using this
    | 7, _ => by have := ledCells_get hi (j := 7) (by omega); simpa [entCells] using this
    | 8, _ => by have := ledCells_get hi (j := 8) (by omega); simpa [entCells] using this
    | 9, _ => by have := ledCells_get hi (j := 9) (by omega); simpa [entCells] using this
    | 10, _ => by have := ledCells_get hi (j := 10) (by omega); simpa [entCells] using this
    | 11, _ => by have := ledCells_rep hi; simpa [entCells] using this
    | n + 12, h => absurd h (by omega)
  apply Array.ext_getElem?
  intro j
  rw [Array.getElem?_extract]
  rcases Nat.lt_or_ge j 12 with hj | hj
  · rw [if_pos (by rw [ledCells_size]; omega), key j hj]
  · rw [if_neg (by rw [ledCells_size]; omega), Array.getElem?_eq_none (by simpa [entCells] using hj)]
theorem entCells_acct (L : Led) (i : Nat) : (entCells L i).extract 0 10 = acctCells L i := rfl

def sumN (g : Nat → Int) : Nat → Int
  | 0 => 0
  | k + 1 => sumN g k + g k
theorem sumN_bd {g : Nat → Int} {M : Int} (hM : 0 ≤ M) : ∀ (k : Nat), (∀ i, i < k → 0 ≤ g i ∧ g i ≤ M) → 0 ≤ sumN g k ∧ sumN g k ≤ k * M
  | 0, _ => by simp [sumN]
  | k + 1, h => by
    have ih := sumN_bd hM k (fun i hi => h i (by omega))
    have h1 := h k (by omega)
    simp only [sumN]
    rw [show ((k + 1 : Nat) : Int) * M = k * M + M by rw [Int.natCast_add, Int.add_mul]; simp]
    omega
def cells4 (g : Nat → Int) : Array Value := #[.int .i64 (g 0), .int .i64 (g 1), .int .i64 (g 2), .int .i64 (g 3)]
theorem cells4_get (g : Nat → Int) {m : Nat} (hm : m < 4) : (cells4 g)[m]? = some (.int .i64 (g m)) := match m, hm with
  | 0, _ => rfl
  | 1, _ => rfl
  | 2, _ => rfl
  | 3, _ => rfl
  | n + 4, h => absurd h (by omega)
theorem cells4_set (g : Nat → Int) {m : Nat} (hm : m < 4) (v : Int) : (cells4 g).setIfInBounds m (.int .i64 v) = cells4 (fun j => if j = m then v else g j) := match m, hm with
  | 0, _ => rfl
  | 1, _ => rfl
  | 2, _ => rfl
  | 3, _ => rfl
  | n + 4, h => absurd h (by omega)
theorem cells4_congr {g g' : Nat → Int} (h : ∀ j, j < 4 → g j = g' j) : cells4 g = cells4 g' := by
  unfold cells4; rw [h 0 (by omega), h 1 (by omega), h 2 (by omega), h 3 (by omega)]
theorem entCells_goods (L : Led) (i : Nat) : (entCells L i).extract 2 6 = cells4 fun j => L.f i (2 + j) := rfl

section
variable {h : PH} {R : AEnd → PH → Prop} {x b : Nat} {L : Led} {K : Value → Prop} {KH : PH → Prop}

theorem LedAt.ldEnt (hL : LedAt h x b L) {i : Nat} (hi : i < L.n) : vLoad (some 12) (.pointer (some ⟨b, i * 12, none⟩)) h K ↔ K (.agg (entCells L i)) := by
  rw [vLoad_n hL.hb (by rw [ledCells_size]; omega), ledCells_ent hi]

/-- The cash of all, and what there is of each good. -/
def cashOf (L : Led) : Int := sumN (fun i => L.f i 0) L.n
def goodOf (L : Led) (j : Nat) : Int := sumN (fun i => L.f i (2 + j)) L.n

theorem totals_ok (hL : LedAt h x b L) (hs : L.small) (hR : R (.ret (.tuple #[.int .i64 (cashOf L), .agg (cells4 (goodOf L))])) h) : ACalls Try.prog 14 #[ptr x] h R := by
  refine ACalls.drop (call14 ?_)
  unfold sh14
  refine vNew_i fun c hc => ?_
  have hL1 : ∀ o, LedAt (ins h c o) x b L := fun o => hL.sub (sub_ins _ hc)
  rw [vBin_pnil Try.underlying25]
  simp only [dIf_b, Bool.false_eq_true, false_implies, true_and, vNil_p, vFA_p, forall_const, Nat.zero_add]
  have hcl := hs.cl
  rw [vLoad_1 (hL1 _).hx (v := .slice (some ⟨b, 0, none⟩) L.n L.n) rfl]
  simp only [vLenS_s]
  have bd : ∀ j k, j < 11 → k ≤ L.n → 0 ≤ sumN (fun i => L.f i j) k ∧ sumN (fun i => L.f i j) k ≤ 17592186044416 := fun j k hj hk => by
    have h1 := sumN_bd (g := fun i => L.f i j) (M := 1099511627776) (by omega) k (fun i hi => hs.num i j (by omega) hj)
    have h2 := hs.cl
    refine ⟨h1.1, ?_⟩
    have : (k : Int) * 1099511627776 ≤ 16 * 1099511627776 := Int.mul_le_mul_of_nonneg_right (by omega) (by omega)
    omega
  refine lf_intro (fun m s g => ∃ k, k ≤ L.n ∧ m = L.n - k ∧ s = (.int .i64 (sumN (fun i => L.f i 0) k), .int .i64 (k : Nat)) ∧ Sub (ins h c (.cells (cells4 fun j => sumN (fun i => L.f i (2 + j)) k) 37 (0, 0))) g) L.n ?_ ?_
  · exact ⟨0, by omega, by omega, rfl, Sub.refl _⟩
  · rintro m s g ⟨k, hk, rfl, rfl, hg⟩
    unfold b14_3
    have hLg : LedAt g x b L := (hL1 _).sub hg
    simp only [vBin_lss, dIf_b, decide_eq_true_eq, decide_eq_false_iff_not]
    refine ⟨fun hlt => ?_, fun hge => ?_⟩
    · have hlt' : k < L.n := by omega
      have b0 := bd 0 k (by omega) hk
      have e0 := hs.num k 0 hlt' (by omega)
      simp only [vIxS_p, Nat.zero_add, Int.toNat_natCast]
      refine ⟨by omega, by omega, ?_⟩
      rw [hLg.ldEnt hlt']
      refine vNew_i fun q hq => ?_
      have hqc : q ≠ c := fun e => by subst e; rw [hg.get] at hq; cases hq
      refine vStore_to (ins_eq _ _ _) (by rfl) (by rfl) (by rfl) ?_
      rw [ins_ins]
      simp only [vFA_p]
      rw [vLoad_1 (ins_eq _ _ _) (v := .int .i64 (L.f k 0)) rfl]
      simp only [vBin_add]
      rw [w64 (by omega) (by omega)]
      rw [vLoad_n (ins_eq _ _ _) (by simp [entCells])]
      rw [show (entCells L k).extract (0 + 0 + 2) (0 + 0 + 2 + 4) = cells4 fun j => L.f k (2 + j) from rfl]
      have hgq : ∀ o, Sub (ins h c (.cells (cells4 fun j => sumN (fun i => L.f i (2 + j)) k) 37 (0, 0))) (ins g q o) := fun o => hg.put (hg.fresh hq)
      refine lf_intro (fun m s g => ∃ t, t ≤ 4 ∧ m = 4 - t ∧ s = .int .i64 (t : Nat) ∧ Sub (ins h c (.cells (cells4 fun j => if j < t then sumN (fun i => L.f i (2 + j)) (k + 1) else sumN (fun i => L.f i (2 + j)) k) 37 (0, 0))) g) 4 ?_ ?_
      · exact ⟨0, by omega, by omega, rfl, by simpa using hgq _⟩
      · rintro m s g' ⟨t, ht, rfl, rfl, hg'⟩
        unfold b14_7
        simp only [vBin_lss, dIf_b, decide_eq_true_eq, decide_eq_false_iff_not]
        refine ⟨fun hlt2 => ?_, fun hge2 => ?_⟩
        · have ht4 : t < 4 := by omega
          have bt := bd (2 + t) k (by omega) hk
          have et := hs.num k (2 + t) hlt' (by omega)
          refine ⟨_, _, _, rfl, rfl, by omega, by omega, .int .i64 (L.f k (2 + t)), ?_, ?_⟩
          · simpa using cells4_get (fun j => L.f k (2 + j)) ht4
          · simp only [vIxA_p, Nat.zero_add, Int.toNat_natCast, Nat.mul_one]
            refine ⟨by omega, by omega, ?_⟩
            rw [vLoad_1 hg'.get (cells4_get _ ht4)]
            simp only [vBin_add, vIxA_p, Nat.zero_add, Int.toNat_natCast, Nat.mul_one]
            refine ⟨by omega, by omega, ?_⟩
            rw [vStore_1 hg'.get (by simpa [cells4] using ht4) rfl, cells4_set _ ht4]
            refine ⟨trivial, 3 - t, by omega, t + 1, by omega, by omega, ?_, ?_⟩
            · rw [w64 (by omega) (by omega)]; rfl
            · rw [if_neg (by omega), w64 (by omega) (by omega)]
              rw [show (cells4 fun j => if j = t then sumN (fun i => L.f i (2 + t)) k + L.f k (2 + t) else if j < t then sumN (fun i => L.f i (2 + j)) (k + 1) else sumN (fun i => L.f i (2 + j)) k) =
                cells4 fun j => if j < t + 1 then sumN (fun i => L.f i (2 + j)) (k + 1) else sumN (fun i => L.f i (2 + j)) k from cells4_congr fun j hj => by
                  by_cases e1 : j = t
                  · subst e1; rw [if_pos rfl, if_pos (by omega)]; rfl
                  · rw [if_neg e1]
                    by_cases e2 : j < t
                    · rw [if_pos e2, if_pos (by omega)]
                    · rw [if_neg e2, if_neg (by omega)]]
              exact hg'.over
        · have : t = 4 := by omega
          subst this
          intro r hr
          simp only [Prod.mk.injEq] at hr
          obtain ⟨r2, r3, r13, r14, r15⟩ := hr
          simp only [r15, vBin_add, r3, r13, r14, r2]
          refine ⟨trivial, L.n - (k + 1), by omega, k + 1, by omega, rfl, ?_, ?_⟩
          · rw [w64 (by omega) (by omega)]; rfl
          · rw [show (cells4 fun j => sumN (fun i => L.f i (2 + j)) (k + 1)) = cells4 fun j => if j < 4 then sumN (fun i => L.f i (2 + j)) (k + 1) else sumN (fun i => L.f i (2 + j)) k from cells4_congr fun j hj => by rw [if_pos hj]]
            exact hg'
    · have : k = L.n := by omega
      subst this
      intro r hr
      simp only [Prod.mk.injEq] at hr
      obtain ⟨r2, r3⟩ := hr
      simp only [r2, r3]
      rw [vLoad_n hg.get (by simp [cells4])]
      exact ⟨h, Sub.under hc hg, hR⟩

def payL (L : Led) (i : Nat) (n : Int) : Int × Led := if partE L 0 n ≠ 0 then (1, L) else if 1099511627776 < cashOf L + n then (62, L) else (0, L.set i 0 (L.f i 0 + n))
def storeL (L : Led) (i : Nat) (g n : Int) : Int × Led := if partE L g n ≠ 0 then (1, L) else if 1099511627776 < goodOf L g.toNat + n then (62, L) else (0, L.set i (2 + g.toNat) (L.f i (2 + g.toNat) + n))
theorem bd_sum (hs : L.small) {j : Nat} (hj : j < 11) : 0 ≤ sumN (fun i => L.f i j) L.n ∧ sumN (fun i => L.f i j) L.n ≤ 17592186044416 := by
  have h1 := sumN_bd (g := fun i => L.f i j) (M := 1099511627776) (by omega) L.n (fun i hi => hs.num i j hi hj)
  have h2 := hs.cl
  refine ⟨h1.1, ?_⟩
  have : (L.n : Int) * 1099511627776 ≤ 16 * 1099511627776 := Int.mul_le_mul_of_nonneg_right (by omega) (by omega)
  omega
variable {i : Nat} {g n : Int}

theorem pay_ok (hL : LedAt h x b L) (hs : L.small) (hi : i < L.n) (hR : R (.ret (.int .i64 (payL L i n).1)) (putLed h b (payL L i n).2)) :
    ACalls Try.prog 28 #[ptr x, .int .i64 i, .int .i64 n] h R := by
  refine ACalls.drop (call28 ?_)
  unfold sh28
  refine part_ok hL hi ?_
  rcases partE_cases L 0 n with hp | hp
  · have hn := partE_n hp
    have g0 := hs.num i 0 hi (by omega)
    have b0 := bd_sum hs (j := 0) (by omega)
    simp only [payL, hp] at hR
    simp [AEnd.elim, hp]
    refine totals_ok hL hs ?_
    simp only [AEnd.elim, vExt_20, vExt_21]
    refine vNew_i fun c hc => ?_
    refine vStore_to (ins_eq _ _ _) (by rfl) (by rfl) (by rfl) ?_
    rw [ins_ins]
    have hL1 : ∀ o, LedAt (ins h c o) x b L := fun o => hL.sub (sub_ins _ hc)
    have hcb : c ≠ b := (ne_fresh hc hL.hb).symm
    simp only [vBin_add]
    unfold cashOf
    rw [w64 (by omega) (by omega)]
    simp only [vBin_gtr, dIf_b, decide_eq_true_eq, decide_eq_false_iff_not, vNil_p, vFA_p, Nat.add_zero]
    refine ⟨fun hlt => ⟨h, sub_ins _ hc, ?_⟩, fun hle => ?_⟩
    · simp [cashOf, hlt, putLed_self hL] at hR
      exact hR
    · simp [cashOf, hle] at hR
      rw [(hL1 _).ld0 hi]
      simp only [vBin_add]
      rw [w64 (by omega) (by omega), (hL1 _).st0 hi]
      refine ⟨_, ?_, hR⟩
      unfold putLed
      exact (sub_ins _ hc).both
  · simp [payL, hp, putLed_self hL] at hR
    simp [AEnd.elim, hp]
    exact ⟨h, Sub.refl _, hR⟩

theorem store_ok (hL : LedAt h x b L) (hs : L.small) (hi : i < L.n) (hR : R (.ret (.int .i64 (storeL L i g n).1)) (putLed h b (storeL L i g n).2)) :
    ACalls Try.prog 30 #[ptr x, .int .i64 i, .int .i64 g, .int .i64 n] h R := by
  refine ACalls.drop (call30 ?_)
  unfold sh30
  refine part_ok hL hi ?_
  rcases partE_cases L g n with hp | hp
  · have hn := partE_n hp
    have hg4 : g < 4 := by have := hs.gd; omega
    have g0 := hs.num i (2 + g.toNat) hi (by omega)
    have b0 := bd_sum hs (j := 2 + g.toNat) (by omega)
    simp only [storeL, hp] at hR
    simp [AEnd.elim, hp]
    refine totals_ok hL hs ?_
    simp only [AEnd.elim, vExt_20, vExt_21]
    refine vNew_i fun c hc => ?_
    refine vStore_to (ins_eq _ _ _) (by rfl) (by rfl) (by rfl) ?_
    rw [ins_ins]
    have hL1 : ∀ o, LedAt (ins h c o) x b L := fun o => hL.sub (sub_ins _ hc)
    simp only [vIxA_p, Nat.zero_add, Nat.mul_one]
    refine ⟨hn.1, by omega, ?_⟩
    rw [vLoad_1 (ins_eq _ _ _) (cells4_get _ (by omega))]
    simp only [vBin_add]
    unfold goodOf
    rw [w64 (by omega) (by omega)]
    simp only [vBin_gtr, dIf_b, decide_eq_true_eq, decide_eq_false_iff_not, vNil_p, vFA_p, Nat.add_zero, vIxA_p, Nat.mul_one]
    refine ⟨fun hlt => ⟨h, sub_ins _ hc, ?_⟩, fun hle => ⟨hn.1, by omega, ?_⟩⟩
    · simp [goodOf, hlt, putLed_self hL] at hR
      exact hR
    · simp [goodOf, hle] at hR
      rw [Nat.add_assoc, (hL1 _).ld hi (by omega)]
      simp only [vBin_add]
      refine ⟨hn.1, by omega, ?_⟩
      rw [w64 (by omega) (by omega), (hL1 _).st hi (by omega)]
      refine ⟨_, ?_, hR⟩
      unfold putLed
      exact (sub_ins _ hc).both
  · simp [storeL, hp, putLed_self hL] at hR
    simp [AEnd.elim, hp]
    exact ⟨h, Sub.refl _, hR⟩
end
end Go.Pw
/- Ledgers in memory: moves, marks, what is told of them, a new one. -/
set_option linter.unusedSimpArgs false
set_option linter.unusedVariables false
namespace Go.Pw
open Go Go.Proofs
section
variable {h : PH} {R : AEnd → PH → Prop} {x b : Nat} {L : Led} {K : Value → Prop} {KH : PH → Prop} {i j : Nat} {g n : Int}

def moveTo (L : Led) (i j : Nat) (n : Int) : Led :=
  let L1 := L.set i 1 (L.f i 1 - n)
  let L2 := L1.set i 0 (L1.f i 0 - n)
  L2.set j 0 (L2.f j 0 + n)
def moveL (L : Led) (i j : Nat) (n : Int) : Int × Led := if partE L 0 n ≠ 0 then (1, L) else if L.f i 1 < n then (61, L) else (0, moveTo L i j n)
def handTo (L : Led) (i j : Nat) (g : Nat) (n : Int) : Led :=
  let L1 := L.set i (6 + g) (L.f i (6 + g) - n)
  let L2 := L1.set i (2 + g) (L1.f i (2 + g) - n)
  L2.set j (2 + g) (L2.f j (2 + g) + n)
def handL (L : Led) (i j : Nat) (g n : Int) : Int × Led := if partE L g n ≠ 0 then (1, L) else if L.f i (6 + g.toNat) < n then (61, L) else (0, handTo L i j g.toNat n)
def markL (L : Led) (i : Nat) (s : Int) (t : ByteArray) : Int × Led :=
  if s < 1 ∨ 1099511627776 < s ∨ 256 < (t.size : Int) then (1, L) else if s ≤ L.f i 10 then (91, L) else (0, (L.set i 10 s).setR i t)

theorem set_ne {L : Led} {i j a c : Nat} {v : Int} (h : ¬ (a = i ∧ c = j)) : (L.set i j v).f a c = L.f a c := by simp [Led.set, h]
theorem set_n (L : Led) (i j : Nat) (v : Int) : (L.set i j v).n = L.n := rfl

theorem move_badFrom (hL : LedAt h x b L) {who : Int} {t n : Value} (hw : who < 0 ∨ (L.n : Int) ≤ who) (hR : R (.ret (.int .i64 60)) h) : ACalls Try.prog 36 #[ptr x, .int .i64 who, t, n] h R := by
  refine call36 ?_
  unfold sh36
  refine find_bad hL hw ?_
  simp [AEnd.elim, hR]
theorem move_badTo (hL : LedAt h x b L) (hi : i < L.n) {who : Int} {n : Value} (hw : who < 0 ∨ (L.n : Int) ≤ who) (hR : R (.ret (.int .i64 60)) h) : ACalls Try.prog 36 #[ptr x, .int .i64 i, .int .i64 who, n] h R := by
  refine call36 ?_
  unfold sh36
  refine find_ok hL hi ?_
  simp [AEnd.elim]
  refine part_bad hL hw ?_
  simp [AEnd.elim, hR]
theorem move_ok (hL : LedAt h x b L) (hs : L.small) (hi : i < L.n) (hj : j < L.n) (hR : R (.ret (.int .i64 (moveL L i j n).1)) (putLed h b (moveL L i j n).2)) :
    ACalls Try.prog 36 #[ptr x, .int .i64 i, .int .i64 j, .int .i64 n] h R := by
  refine call36 ?_
  unfold sh36
  refine find_ok hL hi ?_
  simp [AEnd.elim]
  refine part_ok hL hj ?_
  rcases partE_cases L 0 n with hp | hp
  · have hn := partE_n hp
    have g1 := hs.num i 1 hi (by omega)
    have g0 := hs.num i 0 hi (by omega)
    have g2 := hs.num j 0 hj (by omega)
    simp only [moveL, hp] at hR
    simp [AEnd.elim, hp, vLoad_1 hL.hx, hi, hL.ld hi]
    refine ⟨fun hlt => ?_, fun hle => ?_⟩
    · simp [hlt, putLed_self hL] at hR
      exact hR
    · have hlt : ¬ (L.f i 1 < n) := by omega
      simp [hlt] at hR
      rw [w64 (by omega) (by omega), hL.st hi (by omega)]
      have hL1 := hL.after i 1 (L.f i 1 - n)
      rw [hL1.ld0 hi]
      have e1 : (L.set i 1 (L.f i 1 - n)).f i 0 = L.f i 0 := set_ne (by omega)
      simp only [vBin_sub, vBin_add]
      rw [e1, w64 (by omega) (by omega), hL1.st0 hi]
      have hL2 := hL1.after i 0 (L.f i 0 - n)
      rw [hL2.ld0 hj]
      have e2 : -1099511627776 ≤ ((L.set i 1 (L.f i 1 - n)).set i 0 (L.f i 0 - n)).f j 0 ∧ ((L.set i 1 (L.f i 1 - n)).set i 0 (L.f i 0 - n)).f j 0 ≤ 1099511627776 := by
        by_cases e : j = i
        · subst e; simp only [Led.set, and_self, if_true]; omega
        · rw [set_ne (by omega), set_ne (by omega)]; omega
      simp only [vBin_add]
      rw [w64 (by omega) (by omega), hL2.st0 hj]
      rw [putLed_put, putLed_put]
      unfold moveTo at hR
      simp only [e1] at hR
      exact hR
  · simp [moveL, hp, putLed_self hL] at hR
    simp [AEnd.elim, hp, hR]

theorem hand_badFrom (hL : LedAt h x b L) {who : Int} {t g n : Value} (hw : who < 0 ∨ (L.n : Int) ≤ who) (hR : R (.ret (.int .i64 60)) h) : ACalls Try.prog 37 #[ptr x, .int .i64 who, t, g, n] h R := by
  refine call37 ?_
  unfold sh37
  refine find_bad hL hw ?_
  simp [AEnd.elim, hR]
theorem hand_badTo (hL : LedAt h x b L) (hi : i < L.n) {who : Int} {g n : Value} (hw : who < 0 ∨ (L.n : Int) ≤ who) (hR : R (.ret (.int .i64 60)) h) : ACalls Try.prog 37 #[ptr x, .int .i64 i, .int .i64 who, g, n] h R := by
  refine call37 ?_
  unfold sh37
  refine find_ok hL hi ?_
  simp [AEnd.elim]
  refine part_bad hL hw ?_
  simp [AEnd.elim, hR]
theorem hand_ok (hL : LedAt h x b L) (hs : L.small) (hi : i < L.n) (hj : j < L.n) (hR : R (.ret (.int .i64 (handL L i j g n).1)) (putLed h b (handL L i j g n).2)) :
    ACalls Try.prog 37 #[ptr x, .int .i64 i, .int .i64 j, .int .i64 g, .int .i64 n] h R := by
  refine call37 ?_
  unfold sh37
  refine find_ok hL hi ?_
  simp [AEnd.elim]
  refine part_ok hL hj ?_
  rcases partE_cases L g n with hp | hp
  · have hn := partE_n hp
    have hg4 : g < 4 := by have := hs.gd; omega
    have g1 := hs.num i (6 + g.toNat) hi (by omega)
    have g0 := hs.num i (2 + g.toNat) hi (by omega)
    have g2 := hs.num j (2 + g.toNat) hj (by omega)
    simp only [handL, hp] at hR
    simp [AEnd.elim, hp, vLoad_1 hL.hx, hi, hn.1, hg4, Nat.add_assoc]
    rw [hL.ld hi (by omega)]
    simp only [vBin_lss, dIf_b, decide_eq_true_eq, decide_eq_false_iff_not, Int.not_lt]
    refine ⟨fun hlt => ?_, fun hle => ?_⟩
    · simp [hlt, putLed_self hL] at hR
      exact hR
    · have hlt : ¬ (L.f i (6 + g.toNat) < n) := by omega
      simp [hlt] at hR
      rw [hL.ld hi (by omega)]
      simp only [vBin_sub, vBin_add]
      rw [w64 (by omega) (by omega), hL.st hi (by omega)]
      have hL1 := hL.after i (6 + g.toNat) (L.f i (6 + g.toNat) - n)
      rw [hL1.ld hi (by omega)]
      have e1 : (L.set i (6 + g.toNat) (L.f i (6 + g.toNat) - n)).f i (2 + g.toNat) = L.f i (2 + g.toNat) := set_ne (by omega)
      simp only [vBin_sub, vBin_add]
      rw [e1, w64 (by omega) (by omega), hL1.st hi (by omega)]
      have hL2 := hL1.after i (2 + g.toNat) (L.f i (2 + g.toNat) - n)
      rw [hL2.ld hj (by omega)]
      have e2 : -1099511627776 ≤ ((L.set i (6 + g.toNat) (L.f i (6 + g.toNat) - n)).set i (2 + g.toNat) (L.f i (2 + g.toNat) - n)).f j (2 + g.toNat) ∧ ((L.set i (6 + g.toNat) (L.f i (6 + g.toNat) - n)).set i (2 + g.toNat) (L.f i (2 + g.toNat) - n)).f j (2 + g.toNat) ≤ 1099511627776 := by
        by_cases e : j = i
        · subst e; simp only [Led.set, and_self, if_true]; omega
        · rw [set_ne (by omega), set_ne (by omega)]; omega
      simp only [vBin_sub, vBin_add]
      rw [w64 (by omega) (by omega), hL2.st hj (by omega)]
      rw [putLed_put, putLed_put]
      unfold handTo at hR
      simp only [e1] at hR
      exact hR
  · simp [handL, hp, putLed_self hL] at hR
    simp [AEnd.elim, hp, hR]

theorem mark_bad (hL : LedAt h x b L) {who : Int} {s t : Value} (hw : who < 0 ∨ (L.n : Int) ≤ who) (hR : R (.ret (.int .i64 60)) h) : ACalls Try.prog 38 #[ptr x, .int .i64 who, s, t] h R := by
  refine call38 ?_
  unfold sh38
  refine find_bad hL hw ?_
  simp [AEnd.elim, hR]
theorem mark_ok (hL : LedAt h x b L) (hi : i < L.n) {s : Int} {t : ByteArray} (hR : R (.ret (.int .i64 (markL L i s t).1)) (putLed h b (markL L i s t).2)) :
    ACalls Try.prog 38 #[ptr x, .int .i64 i, .int .i64 s, .string t] h R := by
  refine call38 ?_
  unfold sh38
  refine find_ok hL hi ?_
  unfold markL at hR
  by_cases h1 : s < 1
  · simp [h1, putLed_self hL] at hR
    simp [AEnd.elim, h1, hR]
  · by_cases h2 : 1099511627776 < s
    · simp [h2, putLed_self hL] at hR
      simp [AEnd.elim, h1, h2, hR]
    · by_cases h3 : 256 < (t.size : Int)
      · simp [h3, putLed_self hL] at hR
        simp [AEnd.elim, h1, h2, h3, hR]
      · rw [if_neg (by omega)] at hR
        simp [AEnd.elim, h1, h2, h3, hL.ld hi]
        refine ⟨fun hle => ?_, fun hgt => ?_⟩
        · simp [hle, putLed_self hL] at hR
          exact hR
        · rw [if_neg (by omega)] at hR
          rw [hL.st hi (by omega), (hL.after i 10 s).stR hi, putLed_put]
          exact hR

theorem last_bad (hL : LedAt h x b L) {who : Int} (hw : who < 0 ∨ (L.n : Int) ≤ who) (hR : R (.ret (.tuple #[.int .i64 0, .string ⟨#[]⟩])) h) : ACalls Try.prog 15 #[ptr x, .int .i64 who] h R := by
  refine call15 ?_
  unfold sh15
  refine find_bad hL hw ?_
  simp [AEnd.elim, hR]
theorem last_ok (hL : LedAt h x b L) (hi : i < L.n) (hR : R (.ret (.tuple #[.int .i64 (L.f i 10), .string (L.r i)])) h) : ACalls Try.prog 15 #[ptr x, .int .i64 i] h R := by
  refine call15 ?_
  unfold sh15
  refine find_ok hL hi ?_
  simp [AEnd.elim, hL.ld hi, hL.ldR hi, hR]

def acct0 : Array Value := #[.int .i64 0, .int .i64 0, .int .i64 0, .int .i64 0, .int .i64 0, .int .i64 0, .int .i64 0, .int .i64 0, .int .i64 0, .int .i64 0]
theorem acct_bad (hL : LedAt h x b L) {who : Int} (hw : who < 0 ∨ (L.n : Int) ≤ who) (hR : R (.ret (.tuple #[.agg acct0, .bool false])) h) : ACalls Try.prog 16 #[ptr x, .int .i64 who] h R := by
  refine ACalls.drop (call16 ?_)
  unfold sh16
  refine vNew_i fun c hc => ?_
  refine find_bad (hL.sub (sub_ins _ hc)) hw ?_
  simp [AEnd.elim]
  refine ⟨_, rfl, ?_⟩
  refine vStore_to (ins_eq _ _ _) (by rfl) (by rfl) (by rfl) ?_
  rw [ins_ins, vLoad_n (ins_eq _ _ _) (by simp)]
  exact ⟨h, sub_ins _ hc, hR⟩
theorem acct_ok (hL : LedAt h x b L) (hi : i < L.n) (hR : R (.ret (.tuple #[.agg (acctCells L i), .bool true])) h) : ACalls Try.prog 16 #[ptr x, .int .i64 i] h R := by
  refine ACalls.drop (call16 ?_)
  unfold sh16
  refine vNew_i fun c hc => ?_
  have hL1 := hL.sub (sub_ins (h := h) (.cells acct0 43 (0, 0)) hc)
  refine find_ok (L := L) hL1 hi ?_
  simp [AEnd.elim]
  rw [vLoad_n hL1.hb (by rw [ledCells_size]; omega)]
  have he : (ledCells L).extract (i * 12) (i * 12 + 10) = acctCells L i := by
    have h1 := ledCells_ent hi
    have h2 := entCells_acct L i
    rw [← h1] at h2
    rw [← h2, Array.extract_extract]
    congr 1
    omega
  rw [he]
  refine vStore_to (ins_eq _ _ _) (by rfl) (by rfl) (by rfl) ?_
  rw [ins_ins, vLoad_n (ins_eq _ _ _) (by simp [acctCells])]
  exact ⟨h, sub_ins _ hc, by simpa [acctCells] using hR⟩

/-- A new ledger of empty accounts. -/
def newLed (c g : Int) : Led := { goods := g, n := c.toNat, f := fun _ _ => 0, r := fun _ => ⟨#[]⟩ }
theorem new_bad {c g : Int} (hb : ¬ (1 ≤ c ∧ c ≤ 16 ∧ 1 ≤ g ∧ g ≤ 4)) (hR : R (.ret (.tuple #[.pointer none, .int .i64 1])) h) : ACalls Try.prog 23 #[.int .i64 c, .int .i64 g] h R := by
  refine call23 ?_
  unfold sh23
  by_cases h1 : c < 1
  · simp [h1, hR]
  · by_cases h2 : 16 < c
    · simp [h1, h2, hR]
    · by_cases h3 : g < 1
      · simp [h1, h2, h3, hR]
      · have h4 : 4 < g := by omega
        simp [h1, h2, h3, h4, hR]
theorem newLed_cells (c g : Int) : rep #[.int .i64 0, .int .i64 0, .int .i64 0, .int .i64 0, .int .i64 0, .int .i64 0, .int .i64 0, .int .i64 0, .int .i64 0, .int .i64 0, .int .i64 0, .string ⟨#[]⟩] (c.toNat * 12) = ledCells (newLed c g) := by
  apply Array.ext_getElem?
  intro k
  unfold rep
  rcases Nat.lt_or_ge k (c.toNat * 12) with hk | hk
  · rw [ledCells_at _ _ (by simpa [newLed] using hk)]
    simp only [Array.getElem?_map, Array.getElem?_range, hk, if_true, Option.map_some]
    congr 1
    have hm : k % 12 < 12 := by omega
    unfold ledCell newLed
    simp only [List.size_toArray, List.length_cons, List.length_nil]
    match hk : k % 12, hm with
    | 0, _ => rfl
    | 1, _ => rfl
    | 2, _ => rfl
    | 3, _ => rfl
    | 4, _ => rfl
    | 5, _ => rfl
    | 6, _ => rfl
    | 7, _ => rfl
    | 8, _ => rfl
    | 9, _ => rfl
    | 10, _ => rfl
    | 11, _ => rfl
    | n + 12, h => exact absurd h (by omega)
  · rw [Array.getElem?_eq_none (by simp; omega), Array.getElem?_eq_none (by rw [ledCells_size]; simpa [newLed] using hk)]
theorem new_ok {c g : Int} (hc1 : 1 ≤ c) (hc2 : c ≤ 16) (hg1 : 1 ≤ g) (hg2 : g ≤ 4)
    (hR : ∀ x b, h b = none → h x = none → x ≠ b → R (.ret (.tuple #[ptr x, .int .i64 0])) (ins (ins h b (.cells (ledCells (newLed c g)) 66 (0, 0))) x (.cells #[.int .i64 g, .slice (some ⟨b, 0, none⟩) c.toNat c.toNat] 64 (0, 0)))) :
    ACalls Try.prog 23 #[.int .i64 c, .int .i64 g] h R := by
  refine call23 ?_
  unfold sh23
  have h1 : ¬ c < 1 := by omega
  have h2 : ¬ 16 < c := by omega
  have h3 : ¬ g < 1 := by omega
  have h4 : ¬ 4 < g := by omega
  simp [h1, h2, h3, h4]
  refine ⟨_, _, _, _, rfl, rfl, by omega, by omega, by omega, by omega, fun b hb => ?_⟩
  refine ⟨_, rfl, ?_⟩
  refine vNew_i fun x hx => ?_
  obtain ⟨hx1, hx2⟩ := fresh_of hx
  have := hR x b hb hx1 hx2
  rw [newLed_cells c g]
  exact this
end
end Go.Pw
/- The ledger's calls together; calls on no ledger; the law's own 'done', 'around', 'awake'. -/
set_option linter.unusedSimpArgs false
set_option linter.unusedVariables false
namespace Go.Pw
open Go Go.Proofs

/-- A call of the law's: what kind, who, to whom, which good, how many, what text. -/
structure ActV where
  k : Int
  who : Int
  to : Int
  good : Int
  n : Int
  t : ByteArray
def ActV.cells (a : ActV) : Array Value := #[.int .i64 a.k, .int .i64 a.who, .int .i64 a.to, .int .i64 a.good, .int .i64 a.n, .string a.t]
def ActV.v (a : ActV) : Value := .agg a.cells

/-- what F says of a client that there is. -/
def onC (L : Led) (w : Int) (F : Nat → Int × Led) : Int × Led := if 0 ≤ w ∧ w < L.n then F w.toNat else (60, L)
theorem onC_ok {L : Led} {i : Nat} (hi : i < L.n) (F : Nat → Int × Led) : onC L i F = F i := by
  unfold onC; rw [if_pos (by omega)]; rfl
theorem onC_bad {L : Led} {w : Int} (hw : ¬ (0 ≤ w ∧ w < L.n)) (F : Nat → Int × Led) : onC L w F = (60, L) := by
  unfold onC; rw [if_neg hw]

section
variable {h : PH} {R : AEnd → PH → Prop} {x b : Nat} {L : Led}

theorem pay_all (hL : LedAt h x b L) (hs : L.small) {w n : Int} (hR : R (.ret (.int .i64 (onC L w fun i => payL L i n).1)) (putLed h b (onC L w fun i => payL L i n).2)) :
    ACalls Try.prog 28 #[ptr x, .int .i64 w, .int .i64 n] h R := by
  by_cases hw : 0 ≤ w ∧ w < L.n
  · obtain ⟨i, rfl⟩ : ∃ i : Nat, w = i := ⟨w.toNat, by omega⟩
    have hi : i < L.n := by omega
    rw [onC_ok hi] at hR
    exact pay_ok hL hs hi hR
  · rw [onC_bad hw, putLed_self hL] at hR
    refine call28 ?_
    unfold sh28
    refine part_bad hL (by omega) ?_
    simp [AEnd.elim, hR]
theorem pay_nil {w n : Value} (hR : R (.ret (.int .i64 1)) h) : ACalls Try.prog 28 #[.pointer none, w, n] h R := by
  refine call28 ?_
  unfold sh28
  refine part_nil ?_
  simp [AEnd.elim, hR]

theorem take_all (hL : LedAt h x b L) (hs : L.small) {w n : Int} (hR : R (.ret (.int .i64 (onC L w fun i => takeL L i n).1)) (putLed h b (onC L w fun i => takeL L i n).2)) :
    ACalls Try.prog 29 #[ptr x, .int .i64 w, .int .i64 n] h R := by
  by_cases hw : 0 ≤ w ∧ w < L.n
  · obtain ⟨i, rfl⟩ : ∃ i : Nat, w = i := ⟨w.toNat, by omega⟩
    have hi : i < L.n := by omega
    rw [onC_ok hi] at hR
    exact take_ok hL hs hi hR
  · rw [onC_bad hw, putLed_self hL] at hR
    refine call29 ?_
    unfold sh29
    refine part_bad hL (by omega) ?_
    simp [AEnd.elim, hR]
theorem take_nil {w n : Value} (hR : R (.ret (.int .i64 1)) h) : ACalls Try.prog 29 #[.pointer none, w, n] h R := by
  refine call29 ?_
  unfold sh29
  refine part_nil ?_
  simp [AEnd.elim, hR]

theorem store_all (hL : LedAt h x b L) (hs : L.small) {w g n : Int} (hR : R (.ret (.int .i64 (onC L w fun i => storeL L i g n).1)) (putLed h b (onC L w fun i => storeL L i g n).2)) :
    ACalls Try.prog 30 #[ptr x, .int .i64 w, .int .i64 g, .int .i64 n] h R := by
  by_cases hw : 0 ≤ w ∧ w < L.n
  · obtain ⟨i, rfl⟩ : ∃ i : Nat, w = i := ⟨w.toNat, by omega⟩
    have hi : i < L.n := by omega
    rw [onC_ok hi] at hR
    exact store_ok hL hs hi hR
  · rw [onC_bad hw, putLed_self hL] at hR
    refine call30 ?_
    unfold sh30
    refine part_bad hL (by omega) ?_
    simp [AEnd.elim, hR]
theorem store_nil {w g n : Value} (hR : R (.ret (.int .i64 1)) h) : ACalls Try.prog 30 #[.pointer none, w, g, n] h R := by
  refine call30 ?_
  unfold sh30
  refine part_nil ?_
  simp [AEnd.elim, hR]

theorem fetch_all (hL : LedAt h x b L) (hs : L.small) {w g n : Int} (hR : R (.ret (.int .i64 (onC L w fun i => fetchL L i g n).1)) (putLed h b (onC L w fun i => fetchL L i g n).2)) :
    ACalls Try.prog 31 #[ptr x, .int .i64 w, .int .i64 g, .int .i64 n] h R := by
  by_cases hw : 0 ≤ w ∧ w < L.n
  · obtain ⟨i, rfl⟩ : ∃ i : Nat, w = i := ⟨w.toNat, by omega⟩
    have hi : i < L.n := by omega
    rw [onC_ok hi] at hR
    exact fetch_ok hL hs hi hR
  · rw [onC_bad hw, putLed_self hL] at hR
    refine call31 ?_
    unfold sh31
    refine part_bad hL (by omega) ?_
    simp [AEnd.elim, hR]
theorem fetch_nil {w g n : Value} (hR : R (.ret (.int .i64 1)) h) : ACalls Try.prog 31 #[.pointer none, w, g, n] h R := by
  refine call31 ?_
  unfold sh31
  refine part_nil ?_
  simp [AEnd.elim, hR]

theorem hold_all (hL : LedAt h x b L) (hs : L.small) {w n : Int} (hR : R (.ret (.int .i64 (onC L w fun i => holdL L i n).1)) (putLed h b (onC L w fun i => holdL L i n).2)) :
    ACalls Try.prog 32 #[ptr x, .int .i64 w, .int .i64 n] h R := by
  by_cases hw : 0 ≤ w ∧ w < L.n
  · obtain ⟨i, rfl⟩ : ∃ i : Nat, w = i := ⟨w.toNat, by omega⟩
    have hi : i < L.n := by omega
    rw [onC_ok hi] at hR
    exact hold_ok hL hs hi hR
  · rw [onC_bad hw, putLed_self hL] at hR
    refine call32 ?_
    unfold sh32
    refine part_bad hL (by omega) ?_
    simp [AEnd.elim, hR]
theorem hold_nil {w n : Value} (hR : R (.ret (.int .i64 1)) h) : ACalls Try.prog 32 #[.pointer none, w, n] h R := by
  refine call32 ?_
  unfold sh32
  refine part_nil ?_
  simp [AEnd.elim, hR]

theorem free_all (hL : LedAt h x b L) (hs : L.small) {w n : Int} (hR : R (.ret (.int .i64 (onC L w fun i => freeL L i n).1)) (putLed h b (onC L w fun i => freeL L i n).2)) :
    ACalls Try.prog 33 #[ptr x, .int .i64 w, .int .i64 n] h R := by
  by_cases hw : 0 ≤ w ∧ w < L.n
  · obtain ⟨i, rfl⟩ : ∃ i : Nat, w = i := ⟨w.toNat, by omega⟩
    have hi : i < L.n := by omega
    rw [onC_ok hi] at hR
    exact free_ok hL hs hi hR
  · rw [onC_bad hw, putLed_self hL] at hR
    refine call33 ?_
    unfold sh33
    refine part_bad hL (by omega) ?_
    simp [AEnd.elim, hR]
theorem free_nil {w n : Value} (hR : R (.ret (.int .i64 1)) h) : ACalls Try.prog 33 #[.pointer none, w, n] h R := by
  refine call33 ?_
  unfold sh33
  refine part_nil ?_
  simp [AEnd.elim, hR]

theorem lock_all (hL : LedAt h x b L) (hs : L.small) {w g n : Int} (hR : R (.ret (.int .i64 (onC L w fun i => lockL L i g n).1)) (putLed h b (onC L w fun i => lockL L i g n).2)) :
    ACalls Try.prog 34 #[ptr x, .int .i64 w, .int .i64 g, .int .i64 n] h R := by
  by_cases hw : 0 ≤ w ∧ w < L.n
  · obtain ⟨i, rfl⟩ : ∃ i : Nat, w = i := ⟨w.toNat, by omega⟩
    have hi : i < L.n := by omega
    rw [onC_ok hi] at hR
    exact lock_ok hL hs hi hR
  · rw [onC_bad hw, putLed_self hL] at hR
    refine call34 ?_
    unfold sh34
    refine part_bad hL (by omega) ?_
    simp [AEnd.elim, hR]
theorem lock_nil {w g n : Value} (hR : R (.ret (.int .i64 1)) h) : ACalls Try.prog 34 #[.pointer none, w, g, n] h R := by
  refine call34 ?_
  unfold sh34
  refine part_nil ?_
  simp [AEnd.elim, hR]

theorem unlock_all (hL : LedAt h x b L) (hs : L.small) {w g n : Int} (hR : R (.ret (.int .i64 (onC L w fun i => unlockL L i g n).1)) (putLed h b (onC L w fun i => unlockL L i g n).2)) :
    ACalls Try.prog 35 #[ptr x, .int .i64 w, .int .i64 g, .int .i64 n] h R := by
  by_cases hw : 0 ≤ w ∧ w < L.n
  · obtain ⟨i, rfl⟩ : ∃ i : Nat, w = i := ⟨w.toNat, by omega⟩
    have hi : i < L.n := by omega
    rw [onC_ok hi] at hR
    exact unlock_ok hL hs hi hR
  · rw [onC_bad hw, putLed_self hL] at hR
    refine call35 ?_
    unfold sh35
    refine part_bad hL (by omega) ?_
    simp [AEnd.elim, hR]
theorem unlock_nil {w g n : Value} (hR : R (.ret (.int .i64 1)) h) : ACalls Try.prog 35 #[.pointer none, w, g, n] h R := by
  refine call35 ?_
  unfold sh35
  refine part_nil ?_
  simp [AEnd.elim, hR]

theorem move_all (hL : LedAt h x b L) (hs : L.small) {w t n : Int} (hR : R (.ret (.int .i64 (onC L w fun i => onC L t fun j => moveL L i j n).1)) (putLed h b (onC L w fun i => onC L t fun j => moveL L i j n).2)) :
    ACalls Try.prog 36 #[ptr x, .int .i64 w, .int .i64 t, .int .i64 n] h R := by
  by_cases hw : 0 ≤ w ∧ w < L.n
  · obtain ⟨i, rfl⟩ : ∃ i : Nat, w = i := ⟨w.toNat, by omega⟩
    have hi : i < L.n := by omega
    rw [onC_ok hi] at hR
    by_cases ht : 0 ≤ t ∧ t < L.n
    · obtain ⟨j, rfl⟩ : ∃ j : Nat, t = j := ⟨t.toNat, by omega⟩
      have hj : j < L.n := by omega
      rw [onC_ok hj] at hR
      exact move_ok hL hs hi hj hR
    · rw [onC_bad ht, putLed_self hL] at hR
      exact move_badTo hL hi (by omega) hR
  · rw [onC_bad hw, putLed_self hL] at hR
    exact move_badFrom hL (by omega) hR
theorem hand_all (hL : LedAt h x b L) (hs : L.small) {w t g n : Int} (hR : R (.ret (.int .i64 (onC L w fun i => onC L t fun j => handL L i j g n).1)) (putLed h b (onC L w fun i => onC L t fun j => handL L i j g n).2)) :
    ACalls Try.prog 37 #[ptr x, .int .i64 w, .int .i64 t, .int .i64 g, .int .i64 n] h R := by
  by_cases hw : 0 ≤ w ∧ w < L.n
  · obtain ⟨i, rfl⟩ : ∃ i : Nat, w = i := ⟨w.toNat, by omega⟩
    have hi : i < L.n := by omega
    rw [onC_ok hi] at hR
    by_cases ht : 0 ≤ t ∧ t < L.n
    · obtain ⟨j, rfl⟩ : ∃ j : Nat, t = j := ⟨t.toNat, by omega⟩
      have hj : j < L.n := by omega
      rw [onC_ok hj] at hR
      exact hand_ok hL hs hi hj hR
    · rw [onC_bad ht, putLed_self hL] at hR
      exact hand_badTo hL hi (by omega) hR
  · rw [onC_bad hw, putLed_self hL] at hR
    exact hand_badFrom hL (by omega) hR
theorem mark_all (hL : LedAt h x b L) {w s : Int} {t : ByteArray} (hR : R (.ret (.int .i64 (onC L w fun i => markL L i s t).1)) (putLed h b (onC L w fun i => markL L i s t).2)) :
    ACalls Try.prog 38 #[ptr x, .int .i64 w, .int .i64 s, .string t] h R := by
  by_cases hw : 0 ≤ w ∧ w < L.n
  · obtain ⟨i, rfl⟩ : ∃ i : Nat, w = i := ⟨w.toNat, by omega⟩
    have hi : i < L.n := by omega
    rw [onC_ok hi] at hR
    exact mark_ok hL hi hR
  · rw [onC_bad hw, putLed_self hL] at hR
    exact mark_bad hL (by omega) hR
theorem move_nil {w t n : Value} (hR : R (.ret (.int .i64 1)) h) : ACalls Try.prog 36 #[.pointer none, w, t, n] h R := by
  refine call36 ?_
  unfold sh36
  refine find_nil ?_
  simp [AEnd.elim, hR]
theorem hand_nil {w t g n : Value} (hR : R (.ret (.int .i64 1)) h) : ACalls Try.prog 37 #[.pointer none, w, t, g, n] h R := by
  refine call37 ?_
  unfold sh37
  refine find_nil ?_
  simp [AEnd.elim, hR]
theorem mark_nil {w s t : Value} (hR : R (.ret (.int .i64 1)) h) : ACalls Try.prog 38 #[.pointer none, w, s, t] h R := by
  refine call38 ?_
  unfold sh38
  refine find_nil ?_
  simp [AEnd.elim, hR]

/-- A number gone round 11. -/
def rnd (k : Int) : Int := if k.tmod 11 < 0 then 0 - k.tmod 11 else k.tmod 11
theorem tmod_bd (k : Int) : -11 < k.tmod 11 ∧ k.tmod 11 < 11 := by
  have h1 := Int.tmod_lt_of_pos k (b := 11) (by omega)
  have h2 := Int.lt_tmod_of_pos k (b := 11) (by omega)
  omega
theorem around_11 {k : Int} (hR : R (.ret (.int .i64 (rnd k))) h) : ACalls Try.prog 27 #[.int .i64 k, .int .i64 11] h R := by
  refine call27 ?_
  unfold sh27
  rw [vBin_rem _ _ _ _ (by omega)]
  have hb := tmod_bd k
  unfold rnd at hR
  by_cases hk : k.tmod 11 < 0
  · rw [if_pos hk] at hR
    simp only [vBin_lss, hk, dIf_b, vBin_sub, decide_true]
    refine ⟨fun _ => ?_, fun e => absurd e (by simp)⟩
    rw [w64 (by omega) (by omega)]; exact hR
  · rw [if_neg hk] at hR
    simp only [vBin_lss, hk, dIf_b, vBin_sub, decide_false]
    exact ⟨fun e => absurd e (by simp), fun _ => hR⟩

/-- What a call makes of a ledger. -/
def doneL (L : Led) (a : ActV) : Int × Led :=
  if rnd a.k = 0 then onC L a.who fun i => payL L i a.n
  else if rnd a.k = 1 then onC L a.who fun i => takeL L i a.n
  else if rnd a.k = 2 then onC L a.who fun i => storeL L i a.good a.n
  else if rnd a.k = 3 then onC L a.who fun i => fetchL L i a.good a.n
  else if rnd a.k = 4 then onC L a.who fun i => holdL L i a.n
  else if rnd a.k = 5 then onC L a.who fun i => freeL L i a.n
  else if rnd a.k = 6 then onC L a.who fun i => lockL L i a.good a.n
  else if rnd a.k = 7 then onC L a.who fun i => unlockL L i a.good a.n
  else if rnd a.k = 8 then onC L a.who fun i => onC L a.to fun j => moveL L i j a.n
  else if rnd a.k = 9 then onC L a.who fun i => onC L a.to fun j => handL L i j a.good a.n
  else onC L a.who fun i => markL L i a.n a.t

theorem done_ok (hL : LedAt h x b L) (hs : L.small) {a : ActV} (hR : R (.ret (.int .i64 (doneL L a).1)) (putLed h b (doneL L a).2)) : ACalls Try.prog 11 #[ptr x, a.v] h R := by
  refine ACalls.drop (call11 ?_)
  unfold sh11
  refine vNew_i fun c hc => ?_
  simp only [ActV.v, Value.cells]
  have hl : ∀ {K : Value → Prop} {o : Nat} {v : Value}, a.cells[o]? = some v → (vLoad none (.pointer (some ⟨c, o, none⟩)) (ins h c (.cells a.cells 24)) K ↔ K v) := fun hv => vLoad_1 (ins_eq _ _ _) hv
  have hL1 := hL.sub (sub_ins (h := h) (.cells a.cells 24) hc)
  have fin : ∀ M : Led, (∀ e, R e (putLed h b M) → ∃ g, Sub g (putLed (ins h c (.cells a.cells 24)) b M) ∧ R e g) := fun M e hr => ⟨_, Sub.both (sub_ins _ hc), hr⟩
  have q0 : a.cells[0]? = some (.int .i64 a.k) := rfl
  have q1 : a.cells[1]? = some (.int .i64 a.who) := rfl
  have q2 : a.cells[2]? = some (.int .i64 a.to) := rfl
  have q3 : a.cells[3]? = some (.int .i64 a.good) := rfl
  have q4 : a.cells[4]? = some (.int .i64 a.n) := rfl
  have q5 : a.cells[5]? = some (.string a.t) := rfl
  simp only [vFA_p, Nat.zero_add, hl q0, hl q1, hl q2, hl q3, hl q4, hl q5]
  refine around_11 ?_
  simp only [AEnd.elim, vBin_eql, dIf_b, decide_eq_true_eq, decide_eq_false_iff_not, vFA_p, Nat.zero_add, hl q0, hl q1, hl q2, hl q3, hl q4, hl q5]
  unfold doneL at hR
  refine ⟨fun e => ?_, fun e => ?_⟩
  · rw [if_pos e] at hR
    refine pay_all hL1 hs ?_
    exact fin _ _ hR
  rw [if_neg e] at hR
  refine ⟨fun e => ?_, fun e => ?_⟩
  · rw [if_pos e] at hR
    refine take_all hL1 hs ?_
    exact fin _ _ hR
  rw [if_neg e] at hR
  refine ⟨fun e => ?_, fun e => ?_⟩
  · rw [if_pos e] at hR
    refine store_all hL1 hs ?_
    exact fin _ _ hR
  rw [if_neg e] at hR
  refine ⟨fun e => ?_, fun e => ?_⟩
  · rw [if_pos e] at hR
    refine fetch_all hL1 hs ?_
    exact fin _ _ hR
  rw [if_neg e] at hR
  refine ⟨fun e => ?_, fun e => ?_⟩
  · rw [if_pos e] at hR
    refine hold_all hL1 hs ?_
    exact fin _ _ hR
  rw [if_neg e] at hR
  refine ⟨fun e => ?_, fun e => ?_⟩
  · rw [if_pos e] at hR
    refine free_all hL1 hs ?_
    exact fin _ _ hR
  rw [if_neg e] at hR
  refine ⟨fun e => ?_, fun e => ?_⟩
  · rw [if_pos e] at hR
    refine lock_all hL1 hs ?_
    exact fin _ _ hR
  rw [if_neg e] at hR
  refine ⟨fun e => ?_, fun e => ?_⟩
  · rw [if_pos e] at hR
    refine unlock_all hL1 hs ?_
    exact fin _ _ hR
  rw [if_neg e] at hR
  refine ⟨fun e => ?_, fun e => ?_⟩
  · rw [if_pos e] at hR
    refine move_all hL1 hs ?_
    exact fin _ _ hR
  rw [if_neg e] at hR
  refine ⟨fun e => ?_, fun e => ?_⟩
  · rw [if_pos e] at hR
    refine hand_all hL1 hs ?_
    exact fin _ _ hR
  rw [if_neg e] at hR
  refine mark_all hL1 ?_
  exact fin _ _ hR

theorem done_nil {a : ActV} (hR : R (.ret (.int .i64 1)) h) : ACalls Try.prog 11 #[.pointer none, a.v] h R := by
  refine ACalls.drop (call11 ?_)
  unfold sh11
  refine vNew_i fun c hc => ?_
  simp only [ActV.v, Value.cells]
  have hl : ∀ {K : Value → Prop} {o : Nat} {v : Value}, a.cells[o]? = some v → (vLoad none (.pointer (some ⟨c, o, none⟩)) (ins h c (.cells a.cells 24)) K ↔ K v) := fun hv => vLoad_1 (ins_eq _ _ _) hv
  have fin : ∃ g, Sub g (ins h c (.cells a.cells 24)) ∧ R (.ret (.int .i64 1)) g := ⟨h, sub_ins _ hc, hR⟩
  have q0 : a.cells[0]? = some (.int .i64 a.k) := rfl
  have q1 : a.cells[1]? = some (.int .i64 a.who) := rfl
  have q2 : a.cells[2]? = some (.int .i64 a.to) := rfl
  have q3 : a.cells[3]? = some (.int .i64 a.good) := rfl
  have q4 : a.cells[4]? = some (.int .i64 a.n) := rfl
  have q5 : a.cells[5]? = some (.string a.t) := rfl
  simp only [vFA_p, Nat.zero_add, hl q0, hl q1, hl q2, hl q3, hl q4, hl q5]
  refine around_11 ?_
  simp only [AEnd.elim, vBin_eql, dIf_b, decide_eq_true_eq, decide_eq_false_iff_not, vFA_p, Nat.zero_add, hl q0, hl q1, hl q2, hl q3, hl q4, hl q5]
  refine ⟨fun e => pay_nil fin, fun e => ?_⟩
  refine ⟨fun e => take_nil fin, fun e => ?_⟩
  refine ⟨fun e => store_nil fin, fun e => ?_⟩
  refine ⟨fun e => fetch_nil fin, fun e => ?_⟩
  refine ⟨fun e => hold_nil fin, fun e => ?_⟩
  refine ⟨fun e => free_nil fin, fun e => ?_⟩
  refine ⟨fun e => lock_nil fin, fun e => ?_⟩
  refine ⟨fun e => unlock_nil fin, fun e => ?_⟩
  refine ⟨fun e => move_nil fin, fun e => ?_⟩
  refine ⟨fun e => hand_nil fin, fun e => ?_⟩
  exact mark_nil fin

theorem totals_nil (hR : R (.ret (.tuple #[.int .i64 0, .agg #[.int .i64 0, .int .i64 0, .int .i64 0, .int .i64 0]])) h) : ACalls Try.prog 14 #[.pointer none] h R := by
  refine ACalls.drop (call14 ?_)
  unfold sh14
  refine vNew_i fun c hc => ?_
  simp [vBin_nilp Try.underlying25]
  rw [vLoad_n (ins_eq _ _ _) (by simp)]
  exact ⟨h, sub_ins _ hc, by simpa using hR⟩
theorem last_nil {w : Value} (hR : R (.ret (.tuple #[.int .i64 0, .string ⟨#[]⟩])) h) : ACalls Try.prog 15 #[.pointer none, w] h R := by
  refine call15 ?_
  unfold sh15
  refine find_nil ?_
  simp [AEnd.elim, hR]
theorem acct_nil {w : Value} (hR : R (.ret (.tuple #[.agg acct0, .bool false])) h) : ACalls Try.prog 16 #[.pointer none, w] h R := by
  refine ACalls.drop (call16 ?_)
  unfold sh16
  refine vNew_i fun c hc => ?_
  refine find_nil ?_
  simp [AEnd.elim]
  refine ⟨_, rfl, ?_⟩
  refine vStore_to (ins_eq _ _ _) (by rfl) (by rfl) (by rfl) ?_
  rw [ins_ins, vLoad_n (ins_eq _ _ _) (by simp)]
  exact ⟨h, sub_ins _ hc, hR⟩
theorem records_nil (hR : R (.ret (.slice none 0 0)) h) : ACalls Try.prog 10 #[.pointer none] h R := by
  refine call10 ?_
  unfold sh10
  simp [vBin_nilp Try.underlying25, hR]
end
end Go.Pw
/- Bytes: the records' numbers and texts as the program writes them. -/
set_option linter.unusedSimpArgs false
set_option linter.unusedVariables false
namespace Go.Pw
open Go Go.Proofs

/-! ### words on bits -/
section
variable {P : Program} {K : Value → Prop}
theorem ofInt_toNat {n : Int} (h0 : 0 ≤ n) (h1 : n < 18446744073709551616) : (BitVec.ofInt 64 n).toNat = n.toNat := by
  rw [BitVec.toNat_ofInt]
  have : n % ((2 ^ 64 : Nat) : Int) = n := Int.emod_eq_of_lt h0 (by simpa using h1)
  rw [this]
theorem vBin_and127 (t : TypeId) {n : Int} (h0 : 0 ≤ n) (h1 : n ≤ 9223372036854775807) : vBin P .and t (.int .i64 n) (.int .i64 127) K ↔ K (.int .i64 (n % 128)) := by
  have e : ((n % 2 ^ IntKind.i64.bits).toNat &&& 127 % 2 ^ IntKind.i64.bits) = n.toNat % 128 := by
    show ((n % 18446744073709551616).toNat &&& 127) = _
    rw [Int.emod_eq_of_lt h0 (by omega)]
    exact Nat.and_two_pow_sub_one_eq_mod n.toNat 7
  refine vBin_of fun _ _ => ?_
  simp [eqGuard, binOp, Op.intBits]
  rw [e, show ((n.toNat % 128 : Nat) : Int) = n % 128 by omega, w64 (by omega) (by omega)]
  rfl
theorem or128 : ∀ x : Nat, x < 128 → x ||| 128 = x + 128 := by decide
theorem vBin_or128 (t : TypeId) {n : Int} (h0 : 0 ≤ n) (h1 : n < 128) : vBin P .or t (.int .i64 n) (.int .i64 128) K ↔ K (.int .i64 (n + 128)) := by
  have e : ((n % 2 ^ IntKind.i64.bits).toNat ||| 128 % 2 ^ IntKind.i64.bits) = n.toNat + 128 := by
    show ((n % 18446744073709551616).toNat ||| 128) = _
    rw [Int.emod_eq_of_lt h0 (by omega)]
    exact or128 _ (by omega)
  refine vBin_of fun _ _ => ?_
  simp [eqGuard, binOp, Op.intBits]
  rw [e, show ((n.toNat + 128 : Nat) : Int) = n + 128 by omega, w64 (by omega) (by omega)]
  rfl
theorem vBin_shr7 (t : TypeId) {n : Int} (h0 : 0 ≤ n) : vBin P .shr t (.int .i64 n) (.int .u64 7) K ↔ K (.int .i64 (n / 128)) := by
  refine vBin_of fun _ _ => ?_
  have e : n.fdiv 128 = n / 128 := Int.fdiv_eq_ediv_of_nonneg n (by omega)
  simp [eqGuard, binOp, Op.shift, IntKind.bits, e]
  rfl
theorem wrap_u8 {n : Int} (h0 : 0 ≤ n) (h1 : n < 256) : IntKind.u8.wrap n = n := by
  simp [IntKind.wrap, IntKind.bits, IntKind.signed]; omega
end

/-- A number's letters. -/
def encN (n : Nat) : List UInt8 := if h : n < 128 then [UInt8.ofNat n] else UInt8.ofNat (n % 128 + 128) :: encN (n / 128)
termination_by n
decreasing_by omega

/-- A writer at p: bs is written; everything of h0 stays. -/
structure WB (h0 : PH) (p : Nat) (bs : List UInt8) (h : PH) (s : Value) : Prop where
  sub : Sub h0 h
  hp0 : h0 p = none
  hp : h p = some (.cells #[s] 95 (0, 0))
  buf : (s = .slice none 0 0 ∧ bs = []) ∨ ∃ g c cap, s = .slice (some ⟨g, 0, none⟩) bs.length cap ∧ h g = some (.cells c 5 (0, 0)) ∧ h0 g = none ∧ g ≠ p ∧ c.size = cap ∧ bs.length ≤ cap ∧ c.toList.take bs.length = byteCells bs

theorem byteCells_len (l : List UInt8) : (byteCells l).length = l.length := by simp [byteCells]
theorem byteCells_app (a b : List UInt8) : byteCells (a ++ b) = byteCells a ++ byteCells b := by simp [byteCells]
theorem byte_one {l : List UInt8} : ∀ v ∈ byteCells l, v.oneCell' = true := by
  intro v hv
  simp only [byteCells, List.mem_map] at hv
  obtain ⟨x, _, rfl⟩ := hv
  rfl

section
variable {h h0 : PH} {p : Nat} {bs : List UInt8} {s : Value} {K : PH → Prop}

/-- What an append of the letters 'news' onto a writer's own slice gives, once it is stored. -/
theorem wb_app {str : Bool} {x : Value} {news : List UInt8} {h1 : PH} (hw : WB h0 p bs h s) (hs1 : Sub h h1) (hxs : ∀ c, x ≠ .slice none 0 c) (hlen : (bs.length + news.length) * 1 ≤ roomBytes)
    (hsrc : ∀ K' : Nat → List Value → Prop, K' news.length (byteCells news) → srcCells str 1 x h1 K') (hap : ∀ b off l c, x = .slice (some ⟨b, off, none⟩) l c → h b = none)
    (hk : ∀ h3 s3, WB h0 p (bs ++ news) h3 s3 → K h3) :
    vAppend str 5 1 1 s x h1 fun t h2 => vStore 1 (.pointer (some ⟨p, 0, none⟩)) t h2 K := by
  unfold vAppend
  refine hsrc _ ?_
  rcases hw.buf with ⟨rfl, rfl⟩ | ⟨g, c, cap, rfl, hg, hg0, hgp, hcs, hle, htk⟩
  · refine .inl ⟨rfl, fun hn => ?_, fun hn => ⟨by simpa using hlen, fun b cap rest hb hc hl => ?_⟩⟩
    · have : news = [] := List.eq_nil_of_length_eq_zero hn
      subst this
      refine vStore_to (hs1 _ _ hw.hp) (cs := #[.slice none 0 0]) (by rfl) (by rfl) (by rfl) ?_
      rw [ins_self (hs1 _ _ hw.hp)]
      refine hk _ (.slice none 0 0) ⟨hw.sub.trans hs1, hw.hp0, hs1 _ _ hw.hp, .inl ⟨rfl, rfl⟩⟩
    · have hbp : p ≠ b := fun e => by have := hs1 _ _ hw.hp; rw [e, hb] at this; cases this
      refine vStore_to (cs := #[.slice (some ⟨b, 0, none⟩) news.length cap]) (by rw [ins_ne _ _ hbp]; exact hs1 _ _ hw.hp) (by rfl) (by rfl) (by rfl) ?_
      refine hk _ _ ⟨Sub.put (Sub.put (hw.sub.trans hs1) ((hw.sub.trans hs1).fresh hb)) hw.hp0, hw.hp0, ins_eq _ _ _, .inr ⟨b, (byteCells news ++ rest).toArray, cap, by simp, ?_, (hw.sub.trans hs1).fresh hb, fun e => hbp e.symm, ?_, by simpa using hc, ?_⟩⟩
      · rw [ins_ne _ _ (fun e => hbp e.symm)]; exact ins_eq _ _ _
      · simp only [List.size_toArray, List.length_append]; omega
      · simp [byteCells_len]
  · refine .inr ⟨g, bs.length, cap, c, rfl, hs1 _ _ hg, by omega, hle, hlen, fun b off l c' hx e => ?_, fun b cap' rest hb hc hl => ?_⟩
    · have := hap b off l c' hx
      rw [e, hg] at this; cases this
    · have hp1 := hs1 _ _ hw.hp
      have hbp : p ≠ b := fun e => by
        rcases hb with rfl | hb
        · exact hgp e.symm
        · rw [← e, hp1] at hb; cases hb
      have hb0 : h0 b = none := by
        rcases hb with rfl | hb
        · exact hg0
        · exact (hw.sub.trans hs1).fresh hb
      have hd : ∀ y, y ≠ g → dropB h1 g y = h1 y := fun y hy => by
        unfold dropB
        cases hq : Nat.beq y g
        · rfl
        · exact absurd (Nat.eq_of_beq_eq_true hq) hy
      have hsd : Sub h0 (dropB h1 g) := fun y o hy => by
        rw [hd y (fun e => by rw [e, hg0] at hy; cases hy)]
        exact (hw.sub.trans hs1) y o hy
      refine vStore_to (cs := #[.slice (some ⟨b, 0, none⟩) (bs.length + news.length) cap']) (by rw [ins_ne _ _ hbp, hd p (fun e => hgp e.symm)]; exact hp1) (by rfl) (by rfl) (by rfl) ?_
      have e1 : List.take (bs.length * 1) c.toList = byteCells bs := by rw [Nat.mul_one]; exact htk
      refine hk _ _ ⟨Sub.put (Sub.put hsd hb0) hw.hp0, hw.hp0, ins_eq _ _ _, .inr ⟨b, _, cap', by simp, by rw [ins_ne _ _ (fun e => hbp e.symm)]; exact ins_eq _ _ _, hb0, fun e => hbp e.symm, ?_, by simpa using hc, ?_⟩⟩
      · simp only [List.size_toArray, List.length_append] at hl ⊢; omega
      · rw [e1, byteCells_app, ← byteCells_app bs news]
        simp only
        rw [show (bs ++ news).length = (byteCells (bs ++ news)).length from (byteCells_len _).symm, List.take_left]

theorem fill_one (b : UInt8) : Instr.fill (fun i => some (i * 1, 1)) (rep #[Value.int IntKind.u8 0] (1 * 1)) [(0, Value.int IntKind.u8 ↑b.toNat)] = some #[.int .u8 b.toNat] := by
  have e : Array.range 1 = #[0] := by decide
  simp [Instr.fill, rep, Value.cells, e]
theorem wb_push {b : UInt8} (hw : WB h0 p bs h s) (hl : bs.length < 1073741824) (hk : ∀ h3 s3, WB h0 p (bs ++ [b]) h3 s3 → K h3) :
    (1 * 1 ≤ 2 ^ 24) ∧ vBuildS 5 1 1 #[.int .u8 0] [(0, .int .u8 b.toNat)] h fun t h1 =>
      (0 < 1) ∧ (0 < 1) ∧ (Array.size #[(.int .u8 0 : Value)] = 1) ∧ vAppend false 5 1 1 s t h1 fun t2 h2 => vStore 1 (.pointer (some ⟨p, 0, none⟩)) t2 h2 K := by
  refine ⟨by omega, #[.int .u8 b.toNat], fill_one b, fun q hq => ⟨by omega, by omega, rfl, ?_⟩⟩
  refine wb_app (news := [b]) hw (Sub.put (Sub.refl h) hq) (fun c e => by cases e) (by simp only [List.length_cons, List.length_nil, roomBytes]; omega) (fun K' hk' => .inr (.inr ⟨rfl, q, 0, 1, 1, _, _, _, rfl, ins_eq _ _ _, ?_, ?_, ?_⟩)) (fun b off l c e => by cases e; exact hq) hk
  · simp
  · intro v hv
    have : v = .int .u8 b.toNat := by simpa using hv
    subst this; rfl
  · exact hk'
theorem wb_text {t : ByteArray} (hw : WB h0 p bs h s) (hl : bs.length + t.size < 1073741824) (hk : ∀ h3 s3, WB h0 p (bs ++ t.data.toList) h3 s3 → K h3) :
    (0 < 1) ∧ (0 < 1) ∧ (Array.size #[(.int .u8 0 : Value)] = 1) ∧ vAppend true 5 1 1 s (.string t) h fun t2 h2 => vStore 1 (.pointer (some ⟨p, 0, none⟩)) t2 h2 K := by
  refine ⟨by omega, by omega, rfl, ?_⟩
  have hz : t.data.toList.length = t.size := by rw [Array.length_toList]; rfl
  refine wb_app (news := t.data.toList) hw (Sub.refl h) (fun c e => by cases e) (by rw [hz]; simp only [roomBytes]; omega) (fun K' hk' => .inl ⟨rfl, t, rfl, rfl, by rw [← hz]; exact hk'⟩) (fun b off l c e => by cases e) hk
end
end Go.Pw
/- The wire's writers, and a record's key. -/
set_option linter.unusedSimpArgs false
set_option linter.unusedVariables false
namespace Go.Pw
open Go Go.Proofs

theorem encN_small {n : Nat} (h : n < 128) : encN n = [UInt8.ofNat n] := by rw [encN, dif_pos h]
theorem encN_big {n : Nat} (h : ¬ n < 128) : encN n = UInt8.ofNat (n % 128 + 128) :: encN (n / 128) := by rw [encN, dif_neg h]
theorem encN_len : ∀ (k n : Nat), n < 128 ^ (k + 1) → (encN n).length ≤ k + 1
  | k, n, h => by
    by_cases hs : n < 128
    · rw [encN_small hs]; simp
    · rw [encN_big hs]
      match k, h with
      | 0, h => exact absurd h (by omega)
      | k + 1, h =>
        have := encN_len k (n / 128) (by rw [Nat.pow_succ] at h; exact Nat.div_lt_of_lt_mul (by rw [Nat.mul_comm]; exact h))
        simp only [List.length_cons]; omega
theorem encN_10 {n : Nat} (h : n < 9223372036854775808) : (encN n).length ≤ 10 := encN_len 9 n (by omega)
theorem u8_of {n : Nat} (h : n < 256) : ((UInt8.ofNat n).toNat : Int) = (n : Int) := by
  rw [UInt8.toNat_ofNat']; omega

theorem wrap_u8n {n : Nat} (h : n < 256) {x : Int} (hx : x = (n : Int)) : IntKind.u8.wrap x = ((UInt8.ofNat n).toNat : Int) := by
  rw [hx, wrap_u8 (by omega) (by omega), u8_of h]
section
variable {h h0 : PH} {R : AEnd → PH → Prop} {p : Nat} {bs : List UInt8} {s : Value}

theorem number_ok {n : Nat} (hw : WB h0 p bs h s) (hn : n < 9223372036854775808) (hl : bs.length < 1000000000) (hR : ∀ h3 s3, WB h0 p (bs ++ encN n) h3 s3 → R (.ret (ptr p)) h3) :
    ACalls Try.prog 54 #[ptr p, .int .i64 n] h R := by
  refine call54 ?_
  unfold sh54
  refine lf_intro (fun m s' g => ∃ (k : Nat) (bs' : List UInt8) (s3 : Value), s' = .int .i64 k ∧ m = k ∧ k < 9223372036854775808 ∧ WB h0 p bs' g s3 ∧ bs' ++ encN k = bs ++ encN n) n ⟨n, bs, s, rfl, rfl, hn, hw, rfl⟩ ?_
  rintro m s' g ⟨k, bs', s3, rfl, rfl, hk, hw', he⟩
  have hlen : bs'.length + (encN m).length = bs.length + (encN n).length := by rw [← List.length_append, he, List.length_append]
  have h10 := encN_10 hn
  unfold b54_1
  simp only [vBin_geq, dIf_b, decide_eq_true_eq, decide_eq_false_iff_not]
  refine ⟨fun hge => ?_, fun hlt => ?_⟩
  · have hb : ¬ m < 128 := by omega
    rw [encN_big hb] at he hlen
    simp only [vNil_p, vFA_p, vLoad_1 hw'.hp (show (#[s3] : Array Value)[0 + 0]? = some s3 from rfl)]
    rw [vBin_and127 _ (by omega) (by omega), vBin_or128 _ (by omega) (by omega)]
    simp only [vConvI_i]
    rw [wrap_u8n (n := m % 128 + 128) (by omega) (by omega)]
    refine wb_push hw' (by simp only [List.length_cons] at hlen; omega) fun h4 s4 hw4 => ?_
    rw [vBin_shr7 _ (by omega)]
    exact ⟨trivial, m / 128, by omega, m / 128, _, s4, by rw [show ((m : Int) / 128) = ((m / 128 : Nat) : Int) by omega], rfl, by omega, hw4, by rw [List.append_assoc]; exact he⟩
  · have hb : m < 128 := by omega
    intro r hr
    simp only [Prod.mk.injEq] at hr
    obtain ⟨r0, r1⟩ := hr
    rw [r0, r1]
    rw [encN_small hb] at he hlen
    simp only [vNil_p, vFA_p, vLoad_1 hw'.hp (show (#[s3] : Array Value)[0 + 0]? = some s3 from rfl), vConvI_i]
    rw [wrap_u8n (n := m) (by omega) rfl]
    refine wb_push hw' (by simp only [List.length_cons] at hlen; omega) fun h4 s4 hw4 => ?_
    rw [he] at hw4
    exact hR _ _ hw4

theorem text_ok {t : ByteArray} (hw : WB h0 p bs h s) (ht : t.size < 16777216) (hl : bs.length < 16777216) (hR : ∀ h3 s3, WB h0 p (bs ++ (encN t.size ++ t.data.toList)) h3 s3 → R (.ret (ptr p)) h3) :
    ACalls Try.prog 55 #[ptr p, .string t] h R := by
  refine call55 ?_
  unfold sh55
  simp only [vLenStr_s]
  refine number_ok hw (by omega) (by omega) fun h3 s3 hw3 => ?_
  have h10 := encN_10 (show t.size < 9223372036854775808 by omega)
  simp only [AEnd.elim, vNil_p, vFA_p, vLoad_1 hw3.hp (show (#[s3] : Array Value)[0 + 0]? = some s3 from rfl)]
  refine wb_text hw3 (by rw [List.length_append]; omega) fun h4 s4 hw4 => ?_
  rw [List.append_assoc] at hw4
  exact hR _ _ hw4

theorem wb_conv {K : Value → Prop} (hw : WB h0 p bs h s) (hk : K (.string ⟨bs.toArray⟩)) : vConvBS s h K := by
  rcases hw.buf with ⟨rfl, rfl⟩ | ⟨g, c, cap, rfl, hg, _, _, hcs, hle, htk⟩
  · exact .inl ⟨rfl, hk⟩
  · exact .inr ⟨g, 0, bs.length, cap, c, _, _, bs, rfl, hg, rfl, by simpa using htk, hk⟩
theorem wb_new (hp : h p = none) : WB h p [] (ins h p (.cells #[.slice none 0 0] 95)) (.slice none 0 0) := ⟨sub_ins _ hp, hp, ins_eq _ _ _, .inl ⟨rfl, rfl⟩⟩

theorem putInt_ok {n : Nat} (hn : n ≤ 9007199254740992) (hR : R (.ret (.tuple #[.string ⟨(encN n).toArray⟩, .int .i64 0])) h) : ACalls Try.prog 24 #[.int .i64 n] h R := by
  refine ACalls.drop (call24 ?_)
  unfold sh24
  have h1 : ¬ ((n : Int) < 0) := by omega
  have h2 : ¬ (9007199254740992 < (n : Int)) := by omega
  simp [h1, h2]
  refine vNew_i fun p hp => ?_
  refine number_ok (wb_new hp) (by omega) (by simp) fun h3 s3 hw3 => ?_
  simp [AEnd.elim, vLoad_1 hw3.hp (show (#[s3] : Array Value)[0]? = some s3 from rfl)]
  refine wb_conv hw3 ?_
  exact ⟨h, hw3.sub, by simpa using hR⟩

theorem putText_ok {t : ByteArray} (ht : t.size ≤ 1048576) (hR : R (.ret (.tuple #[.string ⟨(encN t.size ++ t.data.toList).toArray⟩, .int .i64 0])) h) : ACalls Try.prog 25 #[.string t] h R := by
  refine ACalls.drop (call25 ?_)
  unfold sh25
  have h1 : ¬ (1048576 < (t.size : Int)) := by omega
  simp [h1]
  refine vNew_i fun p hp => ?_
  refine text_ok (wb_new hp) (by omega) (by simp) fun h3 s3 hw3 => ?_
  simp [AEnd.elim, vLoad_1 hw3.hp (show (#[s3] : Array Value)[0]? = some s3 from rfl)]
  refine wb_conv hw3 ?_
  exact ⟨h, hw3.sub, by simpa using hR⟩

/-- An account's key. -/
def keyB (i : Nat) : ByteArray := ⟨#[97, 99, 99, 116, 47, UInt8.ofNat (48 + i / 10), UInt8.ofNat (48 + i % 10)]⟩
theorem fill_two (a b : UInt8) : Instr.fill (fun i => some (i * 1, 1)) (rep #[Value.int IntKind.u8 0] (2 * 1)) [(0, Value.int IntKind.u8 ↑a.toNat), (1, Value.int IntKind.u8 ↑b.toNat)] = some #[.int .u8 a.toNat, .int .u8 b.toNat] := by
  have e : Array.range 2 = #[0, 1] := by decide
  simp [Instr.fill, rep, Value.cells, e]
theorem key_ok {i : Nat} (hi : i < 100) (hR : R (.ret (.string (keyB i))) h) : ACalls Try.prog 26 #[.int .i64 i] h R := by
  refine ACalls.drop (call26 ?_)
  unfold sh26
  rw [vBin_quo _ _ _ _ (by omega)]
  have e1 : ((i : Int).tdiv 10) = ((i / 10 : Nat) : Int) := by rw [Int.tdiv_eq_ediv_of_nonneg (by omega)]; omega
  have e2 : ((i : Int).tmod 10) = ((i % 10 : Nat) : Int) := by rw [Int.tmod_eq_emod_of_nonneg (by omega)]; omega
  rw [e1, w64 (by omega) (by omega)]
  simp only [vBin_add, vConvI_i]
  rw [w64 (by omega) (by omega), wrap_u8n (n := 48 + i / 10) (by omega) (by omega), vBin_rem _ _ _ _ (by omega), e2]
  simp only [vBin_add, vConvI_i]
  rw [w64 (by omega) (by omega), wrap_u8n (n := 48 + i % 10) (by omega) (by omega)]
  refine ⟨by omega, _, fill_two _ _, fun q hq => ?_⟩
  refine .inr ⟨q, 0, 2, 2, _, _, _, [UInt8.ofNat (48 + i / 10), UInt8.ofNat (48 + i % 10)], rfl, ins_eq _ _ _, rfl, rfl, ?_⟩
  show vBin _ _ _ _ _ _
  rw [vBin_sadd _ _ _ (by simp [ByteArray.size])]
  refine ⟨h, sub_ins _ hq, ?_⟩
  have : (⟨#[97, 99, 99, 116, 47]⟩ : ByteArray) ++ ⟨[UInt8.ofNat (48 + i / 10), UInt8.ofNat (48 + i % 10)].toArray⟩ = keyB i := by
    apply ByteArray.ext
    rw [ByteArray.data_append]
    rfl
  rw [this]; exact hR
end
end Go.Pw
/- What every call keeps: nothing below 0, nobody holds more than there is, no total above the greatest. Then chapter 6's example. -/
set_option linter.unusedSimpArgs false
set_option linter.unusedVariables false
namespace Go.Pw
open Go Go.Proofs

structure Inv (L : Led) : Prop where
  pos : ∀ i j, i < L.n → j < 11 → 0 ≤ L.f i j
  cash : cashOf L ≤ 1099511627776
  good : ∀ j, j < 4 → goodOf L j ≤ 1099511627776
  held : ∀ i, i < L.n → L.f i 1 ≤ L.f i 0
  lock : ∀ i j, i < L.n → j < 4 → L.f i (6 + j) ≤ L.f i (2 + j)
  stamp : ∀ i, i < L.n → L.f i 10 ≤ 1099511627776
  cl : L.n ≤ 16
  gd : L.goods ≤ 4
  g0 : 1 ≤ L.goods
  rep : ∀ i, i < L.n → (L.r i).size ≤ 256

theorem sumN_ge {g : Nat → Int} : ∀ (k : Nat), (∀ i, i < k → 0 ≤ g i) → ∀ i, i < k → g i ≤ sumN g k
  | 0, _, i, hi => absurd hi (by omega)
  | k + 1, h, i, hi => by
    have h0 : 0 ≤ sumN g k := by
      have : ∀ m, m ≤ k → 0 ≤ sumN g m := fun m => by
        induction m with
        | zero => intro _; simp [sumN]
        | succ m ih => intro hm; simp only [sumN]; have := ih (by omega); have := h m (by omega); omega
      exact this k (Nat.le_refl _)
    simp only [sumN]
    by_cases e : i = k
    · subst e; omega
    · have := sumN_ge k (fun i hi => h i (by omega)) i (by omega)
      have := h k (by omega)
      omega
theorem sumN_congr {g g' : Nat → Int} : ∀ (k : Nat), (∀ i, i < k → g i = g' i) → sumN g k = sumN g' k
  | 0, _ => rfl
  | k + 1, h => by simp only [sumN]; rw [sumN_congr k (fun i hi => h i (by omega)), h k (by omega)]
theorem sumN_put {g : Nat → Int} {a : Nat} {v : Int} : ∀ (k : Nat), a < k → sumN (fun i => if i = a then v else g i) k = sumN g k + v - g a
  | 0, h => absurd h (by omega)
  | k + 1, h => by
    simp only [sumN]
    by_cases e : a = k
    · subst e
      rw [sumN_congr (g' := g) a (fun i hi => if_neg (by omega)), if_pos rfl]; omega
    · rw [sumN_put k (by omega), if_neg (by omega)]; omega

theorem Inv.small {L : Led} (h : Inv L) : L.small where
  num i j hi hj := by
    refine ⟨h.pos i j hi hj, ?_⟩
    have hc : L.f i 0 ≤ 1099511627776 := Int.le_trans (sumN_ge (g := fun i => L.f i 0) L.n (fun a ha => h.pos a 0 ha (by omega)) i hi) h.cash
    have hg : ∀ m, m < 4 → L.f i (2 + m) ≤ 1099511627776 := fun m hm => Int.le_trans (sumN_ge (g := fun i => L.f i (2 + m)) L.n (fun a ha => h.pos a (2 + m) ha (by omega)) i hi) (h.good m hm)
    match j, hj with
    | 0, _ => exact hc
    | 1, _ => exact Int.le_trans (h.held i hi) hc
    | 2, _ => exact hg 0 (by omega)
    | 3, _ => exact hg 1 (by omega)
    | 4, _ => exact hg 2 (by omega)
    | 5, _ => exact hg 3 (by omega)
    | 6, _ => exact Int.le_trans (h.lock i 0 hi (by omega)) (hg 0 (by omega))
    | 7, _ => exact Int.le_trans (h.lock i 1 hi (by omega)) (hg 1 (by omega))
    | 8, _ => exact Int.le_trans (h.lock i 2 hi (by omega)) (hg 2 (by omega))
    | 9, _ => exact Int.le_trans (h.lock i 3 hi (by omega)) (hg 3 (by omega))
    | 10, _ => exact h.stamp i hi
    | n + 11, hj => exact absurd hj (by omega)
  cl := h.cl
  gd := h.gd
  rep := h.rep

theorem sum_set (L : Led) {i j c : Nat} {v : Int} (hi : i < L.n) : sumN (fun a => (L.set i j v).f a c) L.n = if c = j then sumN (fun a => L.f a c) L.n + v - L.f i c else sumN (fun a => L.f a c) L.n := by
  by_cases e : c = j
  · subst e
    rw [if_pos rfl, ← sumN_put (g := fun a => L.f a c) L.n hi]
    apply sumN_congr
    intro a _
    simp [Led.set]
  · rw [if_neg e]
    apply sumN_congr
    intro a _
    simp [Led.set, e]

theorem Inv.set {L : Led} (h : Inv L) {i j : Nat} {v : Int} (hi : i < L.n) (hj : j < 11) (hv : 0 ≤ v)
    (c0 : j = 0 → L.f i 1 ≤ v ∧ cashOf L + v - L.f i 0 ≤ 1099511627776)
    (c1 : j = 1 → v ≤ L.f i 0)
    (c2 : ∀ m, m < 4 → j = 2 + m → L.f i (6 + m) ≤ v ∧ goodOf L m + v - L.f i (2 + m) ≤ 1099511627776)
    (c3 : ∀ m, m < 4 → j = 6 + m → v ≤ L.f i (2 + m))
    (c4 : j = 10 → v ≤ 1099511627776) : Inv (L.set i j v) where
  pos a c ha hc := by
    have := h.pos a c ha hc
    simp only [Led.set]; split <;> omega
  cash := by
    have e := sum_set L (j := j) (c := 0) (v := v) hi
    unfold cashOf
    have h1 := h.cash
    rw [show (L.set i j v).n = L.n from rfl, e]
    split
    · rename_i e0; have := (c0 e0.symm).2; unfold cashOf at this; omega
    · exact h1
  good m hm := by
    have e := sum_set L (j := j) (c := 2 + m) (v := v) hi
    unfold goodOf
    have h1 := h.good m hm
    rw [show (L.set i j v).n = L.n from rfl, e]
    split
    · rename_i e0; have := (c2 m hm e0.symm).2; unfold goodOf at this; omega
    · exact h1
  held a ha := by
    have := h.held a ha
    simp only [Led.set]
    by_cases e : a = i
    · subst e
      by_cases e0 : j = 0
      · subst e0; have := (c0 rfl).1; simp; omega
      · by_cases e1 : j = 1
        · subst e1; have := c1 rfl; simp; omega
        · rw [if_neg (by omega), if_neg (by omega)]; exact this
    · rw [if_neg (by omega), if_neg (by omega)]; exact this
  lock a m ha hm := by
    have := h.lock a m ha hm
    simp only [Led.set]
    by_cases e : a = i
    · subst e
      by_cases e0 : j = 2 + m
      · have := (c2 m hm e0).1; rw [if_neg (by omega), if_pos (by omega)]; exact this
      · by_cases e1 : j = 6 + m
        · have := c3 m hm e1; rw [if_pos (by omega), if_neg (by omega)]; exact this
        · rw [if_neg (by omega), if_neg (by omega)]; exact this
    · rw [if_neg (by omega), if_neg (by omega)]; exact this
  stamp a ha := by
    have := h.stamp a ha
    simp only [Led.set]; split
    · rename_i e; exact c4 e.2.symm
    · exact this
  cl := h.cl
  gd := h.gd
  g0 := h.g0
  rep := h.rep
theorem Inv.setR {L : Led} (h : Inv L) {i : Nat} {s : ByteArray} (hs : s.size ≤ 256) : Inv (L.setR i s) where
  pos := h.pos
  cash := h.cash
  good := h.good
  held := h.held
  lock := h.lock
  stamp := h.stamp
  cl := h.cl
  gd := h.gd
  g0 := h.g0
  rep a ha := by
    simp only [Led.setR]; split
    · exact hs
    · exact h.rep a ha

section
variable {L : Led} {i j : Nat} {g n : Int}
theorem gnat {L : Led} {g n : Int} (h : Inv L) (hp : partE L g n = 0) : ∃ m : Nat, g = m ∧ m < 4 ∧ g.toNat = m := by
  have := partE_n hp
  have := h.gd
  exact ⟨g.toNat, by omega, by omega, rfl⟩
theorem inv_pay (h : Inv L) (hi : i < L.n) : Inv (payL L i n).2 := by
  unfold payL
  split
  · exact h
  · rename_i hp
    have hn := partE_n (Decidable.of_not_not hp)
    split
    · exact h
    · have := h.held i hi
      have := h.pos i 0 hi (by omega)
      exact h.set hi (by omega) (by omega) (fun _ => ⟨by omega, by omega⟩) (fun e => absurd e (by omega)) (fun m hm e => absurd e (by omega)) (fun m hm e => absurd e (by omega)) (fun e => absurd e (by omega))
theorem inv_take (h : Inv L) (hi : i < L.n) : Inv (takeL L i n).2 := by
  unfold takeL
  split
  · exact h
  · rename_i hp
    have hn := partE_n (Decidable.of_not_not hp)
    split
    · exact h
    · have := h.held i hi
      have := h.pos i 1 hi (by omega)
      have := h.cash
      exact h.set hi (by omega) (by omega) (fun _ => ⟨by omega, by omega⟩) (fun e => absurd e (by omega)) (fun m hm e => absurd e (by omega)) (fun m hm e => absurd e (by omega)) (fun e => absurd e (by omega))
theorem inv_hold (h : Inv L) (hi : i < L.n) : Inv (holdL L i n).2 := by
  unfold holdL
  split
  · exact h
  · rename_i hp
    have hn := partE_n (Decidable.of_not_not hp)
    split
    · exact h
    · have := h.pos i 1 hi (by omega)
      exact h.set hi (by omega) (by omega) (fun e => absurd e (by omega)) (fun e => by omega) (fun m hm e => absurd e (by omega)) (fun m hm e => absurd e (by omega)) (fun e => absurd e (by omega))
theorem inv_free (h : Inv L) (hi : i < L.n) : Inv (freeL L i n).2 := by
  unfold freeL
  split
  · exact h
  · rename_i hp
    have hn := partE_n (Decidable.of_not_not hp)
    split
    · exact h
    · have := h.held i hi
      exact h.set hi (by omega) (by omega) (fun e => absurd e (by omega)) (fun e => by omega) (fun m hm e => absurd e (by omega)) (fun m hm e => absurd e (by omega)) (fun e => absurd e (by omega))
theorem inv_store (h : Inv L) (hi : i < L.n) : Inv (storeL L i g n).2 := by
  unfold storeL
  split
  · exact h
  · rename_i hp
    have hn := partE_n (Decidable.of_not_not hp)
    obtain ⟨m, _, hm, e⟩ := gnat h (Decidable.of_not_not hp)
    rw [e]
    split
    · exact h
    · have := h.lock i m hi hm
      have := h.pos i (2 + m) hi (by omega)
      exact h.set hi (by omega) (by omega) (fun e => absurd e (by omega)) (fun e => absurd e (by omega)) (fun m' hm' e => by (have em : m = m' := (by omega)); subst em; exact ⟨by omega, by omega⟩) (fun m hm e => absurd e (by omega)) (fun e => absurd e (by omega))
theorem inv_fetch (h : Inv L) (hi : i < L.n) : Inv (fetchL L i g n).2 := by
  unfold fetchL
  split
  · exact h
  · rename_i hp
    have hn := partE_n (Decidable.of_not_not hp)
    obtain ⟨m, _, hm, e⟩ := gnat h (Decidable.of_not_not hp)
    rw [e]
    split
    · exact h
    · have := h.lock i m hi hm
      have := h.pos i (6 + m) hi (by omega)
      have := h.good m hm
      exact h.set hi (by omega) (by omega) (fun e => absurd e (by omega)) (fun e => absurd e (by omega)) (fun m' hm' e => by (have em : m = m' := (by omega)); subst em; exact ⟨by omega, by omega⟩) (fun m hm e => absurd e (by omega)) (fun e => absurd e (by omega))
theorem inv_lock (h : Inv L) (hi : i < L.n) : Inv (lockL L i g n).2 := by
  unfold lockL
  split
  · exact h
  · rename_i hp
    have hn := partE_n (Decidable.of_not_not hp)
    obtain ⟨m, _, hm, e⟩ := gnat h (Decidable.of_not_not hp)
    rw [e]
    split
    · exact h
    · have := h.pos i (6 + m) hi (by omega)
      exact h.set hi (by omega) (by omega) (fun e => absurd e (by omega)) (fun e => absurd e (by omega)) (fun m hm e => absurd e (by omega)) (fun m' hm' e => by (have em : m = m' := (by omega)); subst em; omega) (fun e => absurd e (by omega))
theorem inv_unlock (h : Inv L) (hi : i < L.n) : Inv (unlockL L i g n).2 := by
  unfold unlockL
  split
  · exact h
  · rename_i hp
    have hn := partE_n (Decidable.of_not_not hp)
    obtain ⟨m, _, hm, e⟩ := gnat h (Decidable.of_not_not hp)
    rw [e]
    split
    · exact h
    · have := h.lock i m hi hm
      exact h.set hi (by omega) (by omega) (fun e => absurd e (by omega)) (fun e => absurd e (by omega)) (fun m hm e => absurd e (by omega)) (fun m' hm' e => by (have em : m = m' := (by omega)); subst em; omega) (fun e => absurd e (by omega))
theorem set_eq {L : Led} {i j : Nat} {v : Int} : (L.set i j v).f i j = v := by simp [Led.set]
theorem inv_move (h : Inv L) (hi : i < L.n) (hj : j < L.n) : Inv (moveL L i j n).2 := by
  unfold moveL
  split
  · exact h
  · rename_i hp
    have hn := partE_n (Decidable.of_not_not hp)
    split
    · exact h
    · have h1 := h.held i hi
      have h2 := h.cash
      have i1 : Inv (L.set i 1 (L.f i 1 - n)) := h.set hi (by omega) (by omega) (fun e => absurd e (by omega)) (fun e => by omega) (fun m hm e => absurd e (by omega)) (fun m hm e => absurd e (by omega)) (fun e => absurd e (by omega))
      have e0 : (L.set i 1 (L.f i 1 - n)).f i 0 = L.f i 0 := set_ne (by omega)
      have e1 : (L.set i 1 (L.f i 1 - n)).f i 1 = L.f i 1 - n := set_eq
      have ec : cashOf (L.set i 1 (L.f i 1 - n)) = cashOf L := by unfold cashOf; rw [show (L.set i 1 (L.f i 1 - n)).n = L.n from rfl, sum_set L hi, if_neg (by omega)]
      have i2 : Inv ((L.set i 1 (L.f i 1 - n)).set i 0 ((L.set i 1 (L.f i 1 - n)).f i 0 - n)) := i1.set hi (by omega) (by omega) (fun _ => ⟨by omega, by omega⟩) (fun e => absurd e (by omega)) (fun m hm e => absurd e (by omega)) (fun m hm e => absurd e (by omega)) (fun e => absurd e (by omega))
      have ec2 : cashOf ((L.set i 1 (L.f i 1 - n)).set i 0 ((L.set i 1 (L.f i 1 - n)).f i 0 - n)) = cashOf L - n := by
        unfold cashOf at ec ⊢
        rw [show ((L.set i 1 (L.f i 1 - n)).set i 0 ((L.set i 1 (L.f i 1 - n)).f i 0 - n)).n = (L.set i 1 (L.f i 1 - n)).n from rfl, sum_set (L.set i 1 (L.f i 1 - n)) hi, if_pos rfl]; omega
      unfold moveTo
      simp only
      have hh := i2.held j hj
      have hp2 := i2.pos j 0 hj (by omega)
      exact i2.set hj (by omega) (by omega) (fun _ => ⟨by omega, by omega⟩) (fun e => absurd e (by omega)) (fun m hm e => absurd e (by omega)) (fun m hm e => absurd e (by omega)) (fun e => absurd e (by omega))
theorem inv_hand (h : Inv L) (hi : i < L.n) (hj : j < L.n) : Inv (handL L i j g n).2 := by
  unfold handL
  split
  · exact h
  · rename_i hp
    have hn := partE_n (Decidable.of_not_not hp)
    obtain ⟨m, _, hm, e⟩ := gnat h (Decidable.of_not_not hp)
    rw [e]
    split
    · exact h
    · have h1 := h.lock i m hi hm
      have h2 := h.good m hm
      have i1 : Inv (L.set i (6 + m) (L.f i (6 + m) - n)) := h.set hi (by omega) (by omega) (fun e => absurd e (by omega)) (fun e => absurd e (by omega)) (fun m hm e => absurd e (by omega)) (fun m' hm' e => by (have em : m = m' := (by omega)); subst em; omega) (fun e => absurd e (by omega))
      have e0 : (L.set i (6 + m) (L.f i (6 + m) - n)).f i (2 + m) = L.f i (2 + m) := set_ne (by omega)
      have e1 : (L.set i (6 + m) (L.f i (6 + m) - n)).f i (6 + m) = L.f i (6 + m) - n := set_eq
      have ec : goodOf (L.set i (6 + m) (L.f i (6 + m) - n)) m = goodOf L m := by unfold goodOf; rw [show (L.set i (6 + m) (L.f i (6 + m) - n)).n = L.n from rfl, sum_set L hi, if_neg (by omega)]
      have i2 : Inv ((L.set i (6 + m) (L.f i (6 + m) - n)).set i (2 + m) ((L.set i (6 + m) (L.f i (6 + m) - n)).f i (2 + m) - n)) := i1.set hi (by omega) (by omega) (fun e => absurd e (by omega)) (fun e => absurd e (by omega)) (fun m' hm' e => by (have em : m = m' := (by omega)); subst em; exact ⟨by omega, by omega⟩) (fun m' hm' e => absurd e (by omega)) (fun e => absurd e (by omega))
      have ec2 : goodOf ((L.set i (6 + m) (L.f i (6 + m) - n)).set i (2 + m) ((L.set i (6 + m) (L.f i (6 + m) - n)).f i (2 + m) - n)) m = goodOf L m - n := by
        unfold goodOf at ec ⊢
        rw [show ((L.set i (6 + m) (L.f i (6 + m) - n)).set i (2 + m) ((L.set i (6 + m) (L.f i (6 + m) - n)).f i (2 + m) - n)).n = (L.set i (6 + m) (L.f i (6 + m) - n)).n from rfl, sum_set (L.set i (6 + m) (L.f i (6 + m) - n)) hi, if_pos rfl]; omega
      unfold handTo
      simp only
      have hh := i2.lock j m hj hm
      have hp2 := i2.pos j (2 + m) hj (by omega)
      exact i2.set hj (by omega) (by omega) (fun e => absurd e (by omega)) (fun e => absurd e (by omega)) (fun m' hm' e => by (have em : m = m' := (by omega)); subst em; exact ⟨by omega, by omega⟩) (fun m' hm' e => absurd e (by omega)) (fun e => absurd e (by omega))
theorem inv_mark {s : Int} {t : ByteArray} (h : Inv L) (hi : i < L.n) : Inv (markL L i s t).2 := by
  unfold markL
  split
  · exact h
  · split
    · exact h
    · rename_i hn _
      have : Inv (L.set i 10 s) := h.set hi (by omega) (by omega) (fun e => absurd e (by omega)) (fun e => absurd e (by omega)) (fun m hm e => absurd e (by omega)) (fun m hm e => absurd e (by omega)) (fun e => by omega)
      exact this.setR (by omega)
theorem inv_on {w : Int} {F : Nat → Int × Led} (h : Inv L) (hF : ∀ i, i < L.n → Inv (F i).2) : Inv (onC L w F).2 := by
  unfold onC
  split
  · exact hF _ (by omega)
  · exact h
theorem inv_done (h : Inv L) (a : ActV) : Inv (doneL L a).2 := by
  unfold doneL
  repeat' split
  · exact inv_on h fun i hi => inv_pay h hi
  · exact inv_on h fun i hi => inv_take h hi
  · exact inv_on h fun i hi => inv_store h hi
  · exact inv_on h fun i hi => inv_fetch h hi
  · exact inv_on h fun i hi => inv_hold h hi
  · exact inv_on h fun i hi => inv_free h hi
  · exact inv_on h fun i hi => inv_lock h hi
  · exact inv_on h fun i hi => inv_unlock h hi
  · exact inv_on h fun i hi => inv_on h fun j hj => inv_move h hi hj
  · exact inv_on h fun i hi => inv_on h fun j hj => inv_hand h hi hj
  · exact inv_on h fun i hi => inv_mark h hi
theorem inv_new {c g : Int} (hc : c ≤ 16) (hg : g ≤ 4) (hg0 : 1 ≤ g) : Inv (newLed c g) where
  pos i j _ _ := by simp [newLed]
  cash := by
    have : ∀ k, sumN (fun _ => (0 : Int)) k = 0 := fun k => by induction k with
      | zero => rfl
      | succ k ih => simp [sumN, ih]
    simp only [cashOf, newLed]; rw [this]; omega
  good j _ := by
    have : ∀ k, sumN (fun _ => (0 : Int)) k = 0 := fun k => by induction k with
      | zero => rfl
      | succ k ih => simp [sumN, ih]
    simp only [goodOf, newLed]; rw [this]; omega
  held i _ := by simp [newLed]
  lock i j _ _ := by simp [newLed]
  stamp i _ := by simp [newLed]
  cl := by simp only [newLed]; omega
  gd := hg
  g0 := hg0
  rep i _ := by simp [newLed, ByteArray.size]
end

/-- Of a good that there is not nobody has any. -/
def Zer (L : Led) : Prop := ∀ (i j : Nat), i < L.n → L.goods ≤ (j : Int) → j < 4 → L.f i (2 + j) = 0
theorem Zer.set {L : Led} (h : Zer L) {i c : Nat} {v : Int} (hc : ∀ j : Nat, L.goods ≤ (j : Int) → j < 4 → c ≠ 2 + j) : Zer (L.set i c v) := fun a j ha hj hj4 => by
  rw [set_ne (fun e => hc j hj hj4 e.2.symm)]
  exact h a j ha hj hj4
theorem Zer.setR {L : Led} (h : Zer L) {i : Nat} {v : ByteArray} : Zer (L.setR i v) := h
section
variable {L : Led} {i j : Nat} {g n : Int}
theorem zer_on {w : Int} {F : Nat → Int × Led} (h : Zer L) (hF : ∀ i, Zer (F i).2) : Zer (onC L w F).2 := by
  unfold onC
  split
  · exact hF _
  · exact h
theorem zer_done (h : Zer L) (a : ActV) : Zer (doneL L a).2 := by
  unfold doneL
  repeat' split
  · exact zer_on h fun i => by unfold payL; (repeat' split) <;> first | exact h | exact h.set fun j _ _ => by omega
  · exact zer_on h fun i => by unfold takeL; (repeat' split) <;> first | exact h | exact h.set fun j _ _ => by omega
  · refine zer_on h fun i => ?_
    unfold storeL
    split
    · exact h
    · rename_i hp
      have := partE_n (Decidable.of_not_not hp)
      split
      · exact h
      · exact h.set fun j _ _ => by omega
  · refine zer_on h fun i => ?_
    unfold fetchL
    split
    · exact h
    · rename_i hp
      have := partE_n (Decidable.of_not_not hp)
      split
      · exact h
      · exact h.set fun j _ _ => by omega
  · exact zer_on h fun i => by unfold holdL; (repeat' split) <;> first | exact h | exact h.set fun j _ _ => by omega
  · exact zer_on h fun i => by unfold freeL; (repeat' split) <;> first | exact h | exact h.set fun j _ _ => by omega
  · exact zer_on h fun i => by unfold lockL; (repeat' split) <;> first | exact h | exact h.set fun j _ _ => by omega
  · exact zer_on h fun i => by unfold unlockL; (repeat' split) <;> first | exact h | exact h.set fun j _ _ => by omega
  · exact zer_on h fun i => zer_on h fun j => by unfold moveL moveTo; (repeat' split) <;> first | exact h | exact ((h.set fun j _ _ => by omega).set fun j _ _ => by omega).set fun j _ _ => by omega
  · refine zer_on h fun i => zer_on h fun k => ?_
    unfold handL handTo
    split
    · exact h
    · rename_i hp
      have := partE_n (Decidable.of_not_not hp)
      split
      · exact h
      · refine Zer.set (Zer.set (Zer.set h ?_) ?_) ?_
        · intro j h1 h2; omega
        · intro j h1 h2; have h1 : L.goods ≤ (j : Int) := h1; omega
        · intro j h1 h2; have h1 : L.goods ≤ (j : Int) := h1; omega
  · exact zer_on h fun i => by unfold markL; (repeat' split) <;> first | exact h | exact (h.set fun j _ _ => by omega).setR
theorem zer_new {c g : Int} : Zer (newLed c g) := fun _ _ _ _ _ => rfl
end

end Go.Pw
/- The records of a ledger. -/
set_option linter.unusedSimpArgs false
set_option linter.unusedVariables false
namespace Go.Pw
open Go Go.Proofs

/-- A slice of one's own: n elements, the cells l; everything of h0 stays. -/
structure OB (e : TypeId) (esz : Nat) (h0 : PH) (n : Nat) (l : List Value) (h : PH) (s : Value) : Prop where
  sub : Sub h0 h
  len : l.length = n * esz
  buf : (s = .slice none 0 0 ∧ n = 0 ∧ l = []) ∨ ∃ g c cap, s = .slice (some ⟨g, 0, none⟩) n cap ∧ h g = some (.cells c e (0, 0)) ∧ h0 g = none ∧ c.size = cap * esz ∧ n ≤ cap ∧ c.toList.take (n * esz) = l

section
variable {h h0 h1 : PH} {e : TypeId} {esz n : Nat} {l : List Value} {s : Value}
theorem OB.up (hw : OB e esz h0 n l h s) (hs : Sub h h1) : OB e esz h0 n l h1 s :=
  ⟨hw.sub.trans hs, hw.len, by
    rcases hw.buf with a | ⟨g, c, cap, a1, a2, a3⟩
    · exact .inl a
    · exact .inr ⟨g, c, cap, a1, hs _ _ a2, a3⟩⟩
theorem ob_app {K : Value → PH → Prop} {bytes m : Nat} {str : Bool} {x : Value} {news : List Value} (hw : OB e esz h0 n l h1 s) (hlen : (n + m) * bytes ≤ roomBytes) (hm : 0 < m) (hnl : news.length = m * esz)
    (hsrc : ∀ K' : Nat → List Value → Prop, K' m news → srcCells str esz x h1 K') (hap : ∀ b off l c, x = .slice (some ⟨b, off, none⟩) l c → ∀ g cap, s = .slice (some ⟨g, 0, none⟩) n cap → b ≠ g)
    (hk : ∀ h3 s3, OB e esz h0 (n + m) (l ++ news) h3 s3 → K s3 h3) :
    vAppend str e esz bytes s x h1 K := by
  unfold vAppend
  refine hsrc _ ?_
  rcases hw.buf with ⟨rfl, rfl, rfl⟩ | ⟨g, c, cap, rfl, hg, hg0, hcs, hle, htk⟩
  · refine .inl ⟨rfl, fun hn => absurd hn (by omega), fun hn => ⟨by simpa using hlen, fun b cap rest hb hc hl => ?_⟩⟩
    have : OB e esz h0 (0 + m) ([] ++ news) (ins h1 b (.cells (news ++ rest).toArray e)) (.slice (some ⟨b, 0, none⟩) (0 + m) cap) :=
      ⟨Sub.put hw.sub (hw.sub.fresh hb), by simpa using hnl, .inr ⟨b, _, cap, rfl, ins_eq _ _ _, hw.sub.fresh hb, by simpa using hl, by omega, by
        simp only [Nat.zero_add, List.nil_append]
        rw [← hnl, List.take_left]⟩⟩
    have := hk _ _ this
    rw [Nat.zero_add] at this
    exact this
  · refine .inr ⟨g, n, cap, c, rfl, hg, hcs, hle, hlen, fun b off l c' hx => hap b off l c' hx g cap rfl, fun b cap' rest hb hc hl => ?_⟩
    have hb0 : h0 b = none := by
      rcases hb with rfl | hb
      · exact hg0
      · exact hw.sub.fresh hb
    have hsd : Sub h0 (dropB h1 g) := fun y o hy => by
      unfold dropB
      cases hq : Nat.beq y g
      · exact hw.sub y o hy
      · rw [Nat.eq_of_beq_eq_true hq, hg0] at hy; cases hy
    refine hk _ _ ⟨Sub.put hsd hb0, by rw [List.length_append, hw.len, hnl, Nat.add_mul], .inr ⟨b, _, cap', rfl, ins_eq _ _ _, hb0, ?_, hc, ?_⟩⟩
    · simp only [List.size_toArray, List.length_append] at hl ⊢; omega
    · rw [htk]
      simp only
      rw [show (n + m) * esz = (l ++ news).length by rw [List.length_append, hw.len, hnl, Nat.add_mul], List.take_left]
theorem ob_get (hw : OB e esz h0 n l h s) (hn : 0 < n) : ∃ g c cap, s = .slice (some ⟨g, 0, none⟩) n cap ∧ h g = some (.cells c e (0, 0)) ∧ n * esz ≤ c.size ∧ ∀ j, j < n * esz → c[j]? = l[j]? := by
  rcases hw.buf with ⟨_, h0, _⟩ | ⟨g, c, cap, rfl, hg, hg0, hcs, hle, htk⟩
  · omega
  · refine ⟨g, c, cap, rfl, hg, by rw [hcs]; exact Nat.mul_le_mul_right _ hle, fun j hj => ?_⟩
    rw [← htk, List.getElem?_take, if_pos hj, Array.getElem?_toList]
theorem ob_len (hw : OB e esz h0 n l h s) : ∃ p cap, s = .slice p n cap := by
  rcases hw.buf with ⟨a, b, _⟩ | ⟨g, c, cap, a, _⟩
  · exact ⟨none, 0, by rw [a, b]⟩
  · exact ⟨_, _, a⟩
end

/-- The numbers of an account's record. -/
def numsOf (L : Led) (i : Nat) : List Int := [L.f i 10, L.f i 0, L.f i 1] ++ (List.range L.goods.toNat).map (fun j => L.f i (2 + j)) ++ (List.range L.goods.toNat).map (fun j => L.f i (6 + j))
def encL (l : List Int) : List UInt8 := l.flatMap fun n => encN n.toNat
def payB (L : Led) (i : Nat) : List UInt8 := encL (numsOf L i) ++ (encN (L.r i).size ++ (L.r i).data.toList)
def recCells (L : Led) (n : Nat) : List Value := (List.range n).flatMap fun i => [.string (keyB i), .string ⟨(payB L i).toArray⟩]
theorem recCells_len (L : Led) (n : Nat) : (recCells L n).length = n * 2 := by
  unfold recCells
  induction n with
  | zero => rfl
  | succ n ih => rw [List.range_succ, List.flatMap_append, List.length_append, ih]; simp; omega
theorem recCells_succ (L : Led) (n : Nat) : recCells L (n + 1) = recCells L n ++ [.string (keyB n), .string ⟨(payB L n).toArray⟩] := by
  unfold recCells
  rw [List.range_succ, List.flatMap_append]; simp
theorem encL_len {l : List Int} (h : ∀ x ∈ l, 0 ≤ x ∧ x ≤ 1099511627776) : (encL l).length ≤ 10 * l.length := by
  induction l with
  | nil => simp [encL]
  | cons a l ih =>
    have h1 := ih fun x hx => h x (by simp [hx])
    have h2 := h a (by simp)
    have h3 := encN_10 (n := a.toNat) (by omega)
    simp only [encL, List.flatMap_cons, List.length_append, List.length_cons] at h1 ⊢
    omega
theorem numsOf_len (L : Led) (i : Nat) : (numsOf L i).length = 3 + L.goods.toNat + L.goods.toNat := by simp [numsOf]; omega
theorem numsOf_bd {L : Led} (h : Inv L) {i : Nat} (hi : i < L.n) : ∀ x ∈ numsOf L i, 0 ≤ x ∧ x ≤ 1099511627776 := by
  have hg := h.gd
  intro x hx
  simp only [numsOf, List.mem_append, List.mem_cons, List.mem_map, List.mem_range, List.not_mem_nil, or_false] at hx
  rcases hx with ((rfl | rfl | rfl) | ⟨j, hj, rfl⟩) | ⟨j, hj, rfl⟩
  · exact h.small.num i 10 hi (by omega)
  · exact h.small.num i 0 hi (by omega)
  · exact h.small.num i 1 hi (by omega)
  · exact h.small.num i (2 + j) hi (by omega)
  · exact h.small.num i (6 + j) hi (by omega)
def iv (n : Int) : Value := .int .i64 n
theorem ent_goods (L : Led) (i : Nat) : ∀ k, k ≤ 4 → ((entCells L i).toList.drop 2).take (k * 1) = ((List.range k).map (fun j => L.f i (2 + j))).map iv
  | 0, _ => rfl
  | 1, _ => rfl
  | 2, _ => rfl
  | 3, _ => rfl
  | 4, _ => rfl
  | n + 5, h => absurd h (by omega)
theorem ent_lock (L : Led) (i : Nat) : ∀ k, k ≤ 4 → ((entCells L i).toList.drop 6).take (k * 1) = ((List.range k).map (fun j => L.f i (6 + j))).map iv
  | 0, _ => rfl
  | 1, _ => rfl
  | 2, _ => rfl
  | 3, _ => rfl
  | 4, _ => rfl
  | n + 5, h => absurd h (by omega)
theorem iv_one {l : List Int} : ∀ v ∈ l.map iv, v.oneCell' = true := by
  intro v hv
  obtain ⟨x, _, rfl⟩ := List.mem_map.1 hv
  rfl
theorem vSlA_p {K : Value → Prop} {n esz b o : Nat} {k : IntKind} {m : Int} (h0 : 0 ≤ m) (h1 : m ≤ n) (hn : n ≠ 0) : vSlA n esz none (some (.int k m)) (.pointer (some ⟨b, o, none⟩)) K ↔ K (.slice (some ⟨b, o, none⟩) m.toNat n) := by
  constructor
  · rintro ⟨b', o', e, k', m', e2, _, _, hk⟩
    cases e; cases e2
    simp only [intBetween, if_neg hn, Nat.zero_mul, Nat.add_zero, Nat.sub_zero] at hk
    exact hk
  · intro hk
    refine ⟨b, o, rfl, k, m, rfl, by omega, h1, ?_⟩
    simp only [intBetween, if_neg hn, Nat.zero_mul, Nat.add_zero, Nat.sub_zero]
    exact hk
theorem fill_three (a b c : Value) (ha : a.cells = #[a]) (hb : b.cells = #[b]) (hc : c.cells = #[c]) : Instr.fill (fun i => some (i * 1, 1)) (rep #[Value.int .i64 0] (3 * 1)) [(0, a), (1, b), (2, c)] = some #[a, b, c] := by
  have e : Array.range 3 = #[0, 1, 2] := by decide
  simp [Instr.fill, rep, ha, hb, hc, e]
theorem fill_rec (a b : ByteArray) : Instr.fill (fun i => some (i * 2, 2)) (rep #[.string ⟨#[]⟩, .string ⟨#[]⟩] (1 * 2)) [(0, Value.agg #[.string a, .string b])] = some #[.string a, .string b] := by
  have e : Array.range 2 = #[0, 1] := by decide
  simp [Instr.fill, rep, Value.cells, e]

section
variable {h : PH} {R : AEnd → PH → Prop} {x b : Nat} {L : Led}
theorem records_ok (hL : LedAt h x b L) (hi : Inv L) (hR : ∀ g s, OB 32 2 h L.n (recCells L L.n) g s → R (.ret s) g) : ACalls Try.prog 10 #[ptr x] h R := by
  refine call10 ?_
  unfold sh10 ptr
  have hgd := hi.gd
  have hg0 := hi.g0
  have hcl := hi.cl
  rw [vBin_pnil Try.underlying25]
  simp
  rw [vLoad_1 hL.hx (show (#[Value.int .i64 L.goods, .slice (some ⟨b, 0, none⟩) L.n L.n] : Array Value)[1]? = some (.slice (some ⟨b, 0, none⟩) L.n L.n) from rfl)]
  simp
  refine lf_intro (fun m s' g => ∃ (i : Nat) (sv : Value), s' = (sv, .int .i64 i) ∧ m = L.n - i ∧ i ≤ L.n ∧ OB 32 2 h i (recCells L i) g sv) L.n ⟨0, .slice none 0 0, rfl, rfl, by omega, Sub.refl h, rfl, .inl ⟨rfl, rfl, rfl⟩⟩ ?_
  rintro m s' g ⟨i, sv, rfl, rfl, hle, hob⟩
  unfold b10_5
  simp only [vBin_lss, dIf_b, decide_eq_true_eq, decide_eq_false_iff_not]
  refine ⟨fun hlt => ?_, fun hge => ?_⟩
  · have hin : i < L.n := by omega
    have hLg : LedAt g x b L := hL.sub hob.sub
    simp
    refine ⟨hin, ?_⟩
    rw [hLg.ldEnt hin]
    refine vNew_i fun c hc => ?_
    refine vStore_to (ins_eq _ _ _) (by rfl) (by rfl) (by rfl) ?_
    rw [ins_ins]
    have hEc : ins g c (.cells (entCells L i) 66 (0, 0)) c = some (.cells (entCells L i) 66 (0, 0)) := ins_eq _ _ _
    have hsE : Sub g (ins g c (.cells (entCells L i) 66 (0, 0))) := sub_ins _ hc
    revert hEc hsE
    generalize ins g c (.cells (entCells L i) 66 (0, 0)) = E
    intro hEc hsE
    have hEL : LedAt E x b L := hLg.sub hsE
    have e10 : (entCells L i)[10]? = some (iv (L.f i 10)) := rfl
    have e0 : (entCells L i)[0]? = some (iv (L.f i 0)) := rfl
    have e1 : (entCells L i)[1]? = some (iv (L.f i 1)) := rfl
    have e11 : (entCells L i)[11]? = some (.string (L.r i)) := rfl
    have eg : (#[Value.int .i64 L.goods, .slice (some ⟨b, 0, none⟩) L.n L.n] : Array Value)[0]? = some (.int .i64 L.goods) := rfl
    have hsl : ∀ {K : Value → Prop} {o : Nat}, vSlA 4 1 none (some (.int .i64 L.goods)) (.pointer (some ⟨c, o, none⟩)) K ↔ K (.slice (some ⟨c, o, none⟩) L.goods.toNat 4) := fun {K o} => vSlA_p (by omega) (by omega) (by omega)
    simp [vLoad_1 hEc e10, vLoad_1 hEc e0, vLoad_1 hEc e1, vLoad_1 hEL.hx eg, hsl]
    refine ⟨_, fill_three _ _ _ rfl rfl rfl, fun q hq => ?_⟩
    have hE3 : Sub E (ins E q (.cells #[iv (L.f i 10), iv (L.f i 0), iv (L.f i 1)] 3)) := sub_ins _ hq
    have ob0 : OB 3 1 E 3 ([L.f i 10, L.f i 0, L.f i 1].map iv) (ins E q (.cells #[iv (L.f i 10), iv (L.f i 0), iv (L.f i 1)] 3)) (.slice (some ⟨q, 0, none⟩) 3 3) :=
      ⟨hE3, rfl, .inr ⟨q, _, 3, rfl, ins_eq _ _ _, hq, rfl, by omega, rfl⟩⟩
    have hcq : c ≠ q := fun e => by rw [← e, hEc] at hq; cases hq
    have hlm : ∀ o, ((List.range L.goods.toNat).map (fun j => L.f i (o + j)) |>.map iv).length = L.goods.toNat * 1 := fun o => by simp
    refine ⟨by rw [vLoad_1 (hE3 _ _ hEL.hx) eg], ?_⟩
    refine ob_app (m := L.goods.toNat) (news := ((List.range L.goods.toNat).map (fun j => L.f i (2 + j))).map iv) ob0 (by simp only [roomBytes]; omega) (by omega) (hlm 2)
      (fun K' hk' => .inr (.inr ⟨rfl, c, 2, L.goods.toNat, 4, _, _, _, rfl, hE3 _ _ hEc, ?_, ?_, ?_⟩)) (fun b' off l cc hx gg cap hs => by cases hx; cases hs; exact hcq) fun h4 s4 ob1 => ?_
    · show 2 + L.goods.toNat * 1 ≤ 12
      omega
    · rw [ent_goods L i _ (by omega)]; exact iv_one
    · rw [ent_goods L i _ (by omega)]; exact hk'
    refine ⟨by rw [vLoad_1 (ob1.sub _ _ hEL.hx) eg], ?_⟩
    refine ob_app (m := L.goods.toNat) (news := ((List.range L.goods.toNat).map (fun j => L.f i (6 + j))).map iv) ob1 (by simp only [roomBytes]; omega) (by omega) (hlm 6)
      (fun K' hk' => .inr (.inr ⟨rfl, c, 6, L.goods.toNat, 4, _, _, _, rfl, ob1.sub _ _ hEc, ?_, ?_, ?_⟩)) (fun b' off l cc hx gg cap hs => ?_) fun h5 s5 ob2 => ?_
    · show 6 + L.goods.toNat * 1 ≤ 12
      omega
    · rw [ent_lock L i _ (by omega)]; exact iv_one
    · rw [ent_lock L i _ (by omega)]; exact hk'
    · cases hx
      intro e
      rcases ob1.buf with ⟨h1, _⟩ | ⟨g', c', cap', h1, _, h3, _⟩
      · rw [h1] at hs; cases hs
      · rw [h1] at hs; cases hs; rw [← e, hEc] at h3; cases h3
    have hl2 : List.map iv [L.f i 10, L.f i 0, L.f i 1] ++ List.map iv (List.map (fun j => L.f i (2 + j)) (List.range L.goods.toNat)) ++ List.map iv (List.map (fun j => L.f i (6 + j)) (List.range L.goods.toNat)) = (numsOf L i).map iv := by
      simp only [numsOf, List.map_append]
    rw [hl2] at ob2
    have hN : 3 + L.goods.toNat + L.goods.toNat = (numsOf L i).length := (numsOf_len L i).symm
    rw [hN] at ob2
    have hN11 : (numsOf L i).length ≤ 11 := by omega
    have hN0 : 0 < (numsOf L i).length := by omega
    have hbd := numsOf_bd hi hin
    obtain ⟨gg, cc, ccap, hs5, hgg, hsz, hget⟩ := ob_get ob2 hN0
    rw [hs5]
    simp only [vLenS_s]
    clear ob0 ob1 hlm hl2
    generalize hNs : numsOf L i = N at *
    refine lf_intro (fun m s' g' => ∃ j : Nat, s' = (.string ⟨(encL (N.take j)).toArray⟩, .int .i64 j) ∧ m = N.length - j ∧ j ≤ N.length ∧ g' = h5) N.length ⟨0, rfl, rfl, by omega, rfl⟩ ?_
    rintro m s' g' ⟨j, rfl, rfl, hj, rfl⟩
    unfold b10_9
    simp only [vBin_lss, dIf_b, decide_eq_true_eq, decide_eq_false_iff_not]
    have hlt1 : ∀ j, (encL (N.take j)).length ≤ 110 := fun j => by
      have := encL_len (l := N.take j) fun x hx => hbd x (List.mem_of_mem_take hx)
      have : (N.take j).length ≤ N.length := by rw [List.length_take]; omega
      omega
    refine ⟨fun hlt2 => ?_, fun hge => ?_⟩
    · have hjl : j < N.length := by omega
      obtain ⟨v, hv⟩ : ∃ v, N[j]? = some v := ⟨_, List.getElem?_eq_getElem hjl⟩
      have hvb := hbd v (List.mem_of_getElem? hv)
      obtain ⟨k, rfl⟩ : ∃ k : Nat, v = k := ⟨v.toNat, by omega⟩
      have hcj : cc[j]? = some (.int .i64 k) := by rw [hget j (by omega), List.getElem?_map, hv]; rfl
      simp only [vIxS_p]
      refine ⟨by omega, by omega, ?_⟩
      rw [vLoad_1 hgg (v := .int .i64 k) (by simpa using hcj)]
      refine putInt_ok (n := k) (by omega) ?_
      simp only [AEnd.elim, vExt_20, vExt_21]
      have h10 := encN_10 (n := k) (by omega)
      have hlj := hlt1 j
      rw [vBin_sadd _ _ _ (by simp [ByteArray.size]; omega)]
      simp only [vBin_add]
      rw [w64 (by omega) (by omega)]
      refine ⟨by trivial, N.length - (j + 1), by omega, j + 1, ?_, by trivial, by omega, by trivial⟩
      have e1 : encL (N.take (j + 1)) = encL (N.take j) ++ encN k := by
        rw [List.take_add_one, hv]
        simp [encL]
      have e2 : (⟨(encL (N.take j)).toArray⟩ : ByteArray) ++ ⟨(encN k).toArray⟩ = ⟨(encL (N.take (j + 1))).toArray⟩ := by
        apply ByteArray.ext
        rw [ByteArray.data_append, e1]
        simp
      rw [e2]
      rfl
    · have hjn : j = N.length := by omega
      subst hjn
      intro r hr
      simp only [Prod.mk.injEq] at hr
      obtain ⟨r0, r3, r4, r5, r6, r19, r20, r21⟩ := hr
      rw [r0, r3, r4, r5, r6, r19, r20, r21]
      have hcc : g' c = some (.cells (entCells L i) 66 (0, 0)) := ob2.sub _ _ hEc
      simp only [vFA_p, vLoad_1 hcc e11, Nat.zero_add]
      have hrep := hi.rep i hin
      refine putText_ok (by omega) ?_
      simp only [AEnd.elim, vExt_20, vExt_21]
      refine key_ok (by omega) ?_
      simp only [AEnd.elim]
      have hlj := hlt1 N.length
      have h10 := encN_10 (n := (L.r i).size) (by omega)
      have hzz : (L.r i).data.toList.length = (L.r i).size := by rw [Array.length_toList]; rfl
      rw [vBin_sadd _ _ _ (by simp only [ByteArray.size, List.size_toArray, List.length_append]; have := hzz; simp only [ByteArray.size] at *; omega)]
      have e3 : (⟨(encL (N.take N.length)).toArray⟩ : ByteArray) ++ ⟨(encN (L.r i).size ++ (L.r i).data.toList).toArray⟩ = ⟨(payB L i).toArray⟩ := by
        apply ByteArray.ext
        rw [ByteArray.data_append, List.take_length, payB, hNs]
        simp
      rw [e3]
      refine ⟨#[.string (keyB i), .string ⟨(payB L i).toArray⟩], rfl, ?_⟩
      refine ⟨_, fill_rec _ _, fun q' hq' => ?_⟩
      have hsG : Sub g (ins g' q' (.cells #[.string (keyB i), .string ⟨(payB L i).toArray⟩] 32)) := (hsE.trans ob2.sub).trans (sub_ins _ hq')
      refine ob_app (m := 1) (news := [.string (keyB i), .string ⟨(payB L i).toArray⟩]) (hob.up hsG) (by simp only [roomBytes]; omega) (by omega) rfl
        (fun K' hk' => .inr (.inr ⟨rfl, q', 0, 1, 1, _, _, _, rfl, ins_eq _ _ _, ?_, ?_, ?_⟩)) (fun b' off l cc' hx gg' cap hs => ?_) fun h6 s6 ob3 => ?_
      · simp
      · intro v hv
        have : v = .string (keyB i) ∨ v = .string ⟨(payB L i).toArray⟩ := by simpa using hv
        rcases this with rfl | rfl <;> rfl
      · exact hk'
      · cases hx
        intro e
        rcases hob.buf with ⟨h1, _⟩ | ⟨g2, c2, cap2, h1, h2, _⟩
        · rw [h1] at hs; cases hs
        · rw [h1] at hs; cases hs
          have := (hsE.trans ob2.sub) _ _ h2
          rw [← e, hq'] at this; cases this
      simp only [vBin_add]
      rw [w64 (by omega) (by omega)]
      rw [← recCells_succ] at ob3
      exact ⟨by simp, L.n - (i + 1), by omega, i + 1, s6, by simp, rfl, by omega, ob3⟩
  · have hin : i = L.n := by omega
    subst hin
    intro r hr
    rw [show r 3 = sv from hr]
    exact hR _ _ hob
end
end Go.Pw
/- Chapter 6's example, and the law of the ledger that there is not. -/
set_option linter.unusedSimpArgs false
set_option linter.unusedVariables false
namespace Go.Pw
open Go Go.Proofs

def aw0 : Led := newLed 2 1
def aw1 : Led := (onC aw0 0 fun i => payL aw0 i 9).2
def aw2 : Led := (onC aw1 0 fun i => holdL aw1 i 5).2
def aw3 : Led := (onC aw2 0 fun i => onC aw2 1 fun j => moveL aw2 i j 3).2
theorem aw0_inv : Inv aw0 := inv_new (by omega) (by omega) (by omega)
theorem aw1_inv : Inv aw1 := inv_on aw0_inv fun i hi => inv_pay aw0_inv hi
theorem aw2_inv : Inv aw2 := inv_on aw1_inv fun i hi => inv_hold aw1_inv hi
theorem aw_e1 : (onC aw0 0 fun i => payL aw0 i 9).1 = 0 := by kernel_rfl
theorem aw_e2 : (onC aw1 0 fun i => holdL aw1 i 5).1 = 0 := by kernel_rfl
theorem aw_e3 : (onC aw2 0 fun i => takeL aw2 i 5) = (61, aw2) := by
  have : onC aw2 0 (fun i => takeL aw2 i 5) = takeL aw2 0 5 := by kernel_rfl
  rw [this]
  unfold takeL
  rw [if_neg (by decide), if_pos (by decide)]
theorem aw_e4 : (onC aw2 0 fun i => onC aw2 1 fun j => moveL aw2 i j 3).1 = 0 := by kernel_rfl

section
variable {h : PH} {R : AEnd → PH → Prop}
theorem awake_ok (hR : R (.ret (.bool true)) h) : ACalls Try.prog 12 #[] h R := by
  refine ACalls.drop (call12 ?_)
  unfold sh12
  refine new_ok (by omega) (by omega) (by omega) (by omega) fun x b hb hx hne => ?_
  have hL0 : LedAt (ins (ins h b (.cells (ledCells (newLed 2 1)) 66 (0, 0))) x (.cells #[.int .i64 1, .slice (some ⟨b, 0, none⟩) (2 : Int).toNat (2 : Int).toNat] 64 (0, 0))) x b aw0 :=
    ⟨ins_eq _ _ _, by rw [ins_ne _ _ (fun e => hne e.symm)]; exact ins_eq _ _ _, hne⟩
  have hs0 : Sub h (ins (ins h b (.cells (ledCells (newLed 2 1)) 66 (0, 0))) x (.cells #[.int .i64 1, .slice (some ⟨b, 0, none⟩) (2 : Int).toNat (2 : Int).toNat] 64 (0, 0))) :=
    Sub.put (Sub.put (Sub.refl h) hb) hx
  revert hL0 hs0
  generalize (ins (ins h b (.cells (ledCells (newLed 2 1)) 66 (0, 0))) x (.cells #[.int .i64 1, .slice (some ⟨b, 0, none⟩) (2 : Int).toNat (2 : Int).toNat] 64 (0, 0))) = g
  intro hL0 hs0
  simp [AEnd.elim, vBin_pnil Try.underlying25]
  refine pay_all hL0 aw0_inv.small ?_
  simp only [aw_e1]
  change AEnd.elim _ _ _ (putLed g b aw1)
  have hL1 : LedAt (putLed g b aw1) x b aw1 := hL0.put rfl rfl
  simp [AEnd.elim]
  refine hold_all hL1 aw1_inv.small ?_
  simp only [aw_e2]
  change AEnd.elim _ _ _ (putLed (putLed g b aw1) b aw2)
  rw [putLed_put]
  have hL2 : LedAt (putLed g b aw2) x b aw2 := hL0.put rfl rfl
  simp [AEnd.elim]
  refine take_all hL2 aw2_inv.small ?_
  simp only [aw_e3]
  rw [putLed_put]
  simp [AEnd.elim]
  refine move_all hL2 aw2_inv.small ?_
  simp only [aw_e4]
  change AEnd.elim _ _ _ (putLed (putLed g b aw2) b aw3)
  rw [putLed_put]
  have hL3 : LedAt (putLed g b aw3) x b aw3 := hL0.put rfl rfl
  have hs3 : Sub h (putLed g b aw3) := Sub.put hs0 hb
  revert hL3 hs3
  generalize putLed g b aw3 = g3
  intro hL3 hs3
  simp [AEnd.elim]
  refine acct_ok (i := 0) hL3 (by decide) ?_
  simp [AEnd.elim]
  refine vNew_i fun c hc => ?_
  have hcc := hs3.fresh hc
  refine vStore_to (ins_eq _ _ _) (by rfl) (by rfl) (by rfl) ?_
  rw [ins_ins]
  refine acct_ok (i := 1) (hL3.sub (sub_ins _ hc)) (by decide) ?_
  simp [AEnd.elim]
  refine vNew_i fun d hd => ?_
  obtain ⟨hd1, hdc⟩ := fresh_of hd
  have hdd := hs3.fresh hd1
  refine vStore_to (ins_eq _ _ _) (by rfl) (by rfl) (by rfl) ?_
  rw [ins_ins]
  have hcg : (ins (ins g3 c (.cells (acctCells aw3 0) 43 (0, 0))) d (.cells (acctCells aw3 1) 43 (0, 0))) c = some (.cells (acctCells aw3 0) 43 (0, 0)) := by
    rw [ins_ne _ _ (fun e => hdc e.symm)]; exact ins_eq _ _ _
  have f0 : (acctCells aw3 0)[0]? = some (.int .i64 6) := by kernel_rfl
  have f1 : (acctCells aw3 0)[1]? = some (.int .i64 2) := by kernel_rfl
  have f2 : (acctCells aw3 1)[0]? = some (.int .i64 3) := by kernel_rfl
  have f3 : (acctCells aw3 1)[1]? = some (.int .i64 0) := by kernel_rfl
  simp [vLoad_1 hcg f0, vLoad_1 hcg f1, vLoad_1 (ins_eq _ d _) f2, vLoad_1 (ins_eq _ d _) f3]
  exact ⟨h, Sub.put (Sub.put hs3 hcc) hdd, hR⟩

theorem zero_eq {K : Value → Prop} : vBin Try.prog .eql 37 (.agg #[.int .i64 0, .int .i64 0, .int .i64 0, .int .i64 0]) (.agg #[.int .i64 0, .int .i64 0, .int .i64 0, .int .i64 0]) K ↔ K (.bool true) :=
  vBin_of (v := .bool true) (fun x y => by kernel_rfl)
theorem nobody_ok (a : ActV) (hR : R (.ret (.bool true)) h) : ACalls Try.prog 5 #[a.v] h R := by
  refine ACalls.drop (call5 ?_)
  unfold sh5
  refine vNew_i fun c hc => ?_
  refine totals_nil ?_
  simp [AEnd.elim]
  refine vNew_i fun d hd => ?_
  obtain ⟨hd1, hdc⟩ := fresh_of hd
  refine vStore_to (ins_eq _ _ _) (by rfl) (by rfl) (by rfl) ?_
  rw [ins_ins]
  simp only [ActV.v, Value.cells]
  have hcg : ∀ o, (ins (ins h c (.cells a.cells 24 (0, 0))) d o) c = some (.cells a.cells 24 (0, 0)) := fun o => by
    rw [ins_ne _ _ (fun e => hdc e.symm)]; exact ins_eq _ _ _
  have q1 : a.cells[1]? = some (.int .i64 a.who) := rfl
  simp [vLoad_1 (hcg _) q1]
  refine last_nil ?_
  simp [AEnd.elim]
  simp [vLoad_1 (hcg _) q1]
  refine acct_nil ?_
  simp [AEnd.elim]
  refine vNew_i fun e he => ?_
  obtain ⟨he1, hed⟩ := fresh_of he
  obtain ⟨he2, hec⟩ := fresh_of he1
  refine vStore_to (ins_eq _ _ _) (by rfl) (by rfl) (by rfl) ?_
  rw [ins_ins]
  have hcg2 : ∀ o p, (ins (ins (ins h c (.cells a.cells 24 (0, 0))) d o) e p) c = some (.cells a.cells 24 (0, 0)) := fun o p => by
    rw [ins_ne _ _ (fun e => hec e.symm)]; exact hcg o
  have hdg : ∀ g o p, (ins (ins g d o) e p) d = some o := fun g o p => by rw [ins_ne _ _ (fun e => hed e.symm)]; exact ins_eq _ _ _
  rw [vLoad_n (hcg2 _ _) (by simp [ActV.cells])]
  have hx : Value.agg (a.cells.extract 0 (0 + 6)) = a.v := rfl
  rw [hx]
  refine done_nil ?_
  simp [AEnd.elim]
  rw [vLoad_n (hdg _ _ _) (by simp)]
  refine ⟨_, rfl, ?_⟩
  have hz : (#[Value.int .i64 0, .int .i64 0, .int .i64 0, .int .i64 0].extract 0 (0 + 4)) = #[Value.int .i64 0, .int .i64 0, .int .i64 0, .int .i64 0] := rfl
  rw [hz]
  simp [zero_eq]
  refine records_nil ?_
  simp [AEnd.elim]
  refine awake_ok ?_
  simp [AEnd.elim]
  exact ⟨h, Sub.put (Sub.put (Sub.put (Sub.refl h) hc) hd1) he2, hR⟩
end
end Go.Pw

/- Ledgers in memory, and what the ledger's own functions do to them. -/
import Derived.Test.YtbidgpchoamdfaaPwS
import Derived.Test.YtbidgpchoamdfaaSh2
import Derived.Test.YtbidgpchoamdfaaSh3
import Derived.Test.YtbidgpchoamdfaaSh5
import Derived.Test.YtbidgpchoamdfaaSh6
import Derived.Test.YtbidgpchoamdfaaSh1
set_option linter.unusedSimpArgs false
set_option linter.unusedVariables false
namespace Go.Pw
open Go Go.Proofs

/-- A ledger: how many goods, how many accounts; of the account i the number j (0 cash, 1 held, 2 to 5 goods, 6 to 9 locked, 10 stamp) and the reply. -/
structure Led where
  goods : Int
  n : Nat
  f : Nat → Nat → Int
  r : Nat → ByteArray

def Led.set (L : Led) (i j : Nat) (v : Int) : Led := { L with f := fun a b => if a = i ∧ b = j then v else L.f a b }
def Led.setR (L : Led) (i : Nat) (s : ByteArray) : Led := { L with r := fun a => if a = i then s else L.r a }
def ledCell (L : Led) (k : Nat) : Value := if k % 12 = 11 then .string (L.r (k / 12)) else .int .i64 (L.f (k / 12) (k % 12))
def ledCells (L : Led) : Array Value := Array.ofFn (n := L.n * 12) fun k => ledCell L k.val
theorem ledCells_size (L : Led) : (ledCells L).size = L.n * 12 := by simp [ledCells]
theorem ledCells_at (L : Led) (k : Nat) (hk : k < L.n * 12) : (ledCells L)[k]? = some (ledCell L k) := by
  unfold ledCells; simp [hk]
theorem ledCells_get {L : Led} {i j : Nat} (hi : i < L.n) (hj : j < 11) : (ledCells L)[i * 12 + j]? = some (.int .i64 (L.f i j)) := by
  rw [ledCells_at _ _ (by omega)]
  unfold ledCell
  rw [show (i * 12 + j) % 12 = j by omega, show (i * 12 + j) / 12 = i by omega, if_neg (by omega)]
theorem ledCells_rep {L : Led} {i : Nat} (hi : i < L.n) : (ledCells L)[i * 12 + 11]? = some (.string (L.r i)) := by
  rw [ledCells_at _ _ (by omega)]
  unfold ledCell
  rw [show (i * 12 + 11) % 12 = 11 by omega, show (i * 12 + 11) / 12 = i by omega, if_pos rfl]
theorem ledCells_set {L : Led} {i j : Nat} (hi : i < L.n) (hj : j < 11) (v : Int) : (ledCells L).setIfInBounds (i * 12 + j) (.int .i64 v) = ledCells (L.set i j v) := by
  apply Array.ext_getElem?
  intro k
  rcases Nat.lt_or_ge k (L.n * 12) with hk | hk
  · rw [ledCells_at (L.set i j v) k hk]
    by_cases he : i * 12 + j = k
    · subst he
      rw [Array.getElem?_setIfInBounds_self_of_lt (by rw [ledCells_size]; exact hk)]
      unfold ledCell Led.set
      rw [show (i * 12 + j) % 12 = j by omega, show (i * 12 + j) / 12 = i by omega, if_neg (by omega)]
      simp
    · rw [Array.getElem?_setIfInBounds_ne he, ledCells_at _ _ hk]
      unfold ledCell Led.set
      have : ¬ (k / 12 = i ∧ k % 12 = j) := by omega
      simp only [this, if_false]
  · rw [Array.getElem?_eq_none (by simpa [ledCells_size] using hk), Array.getElem?_eq_none (by rw [ledCells_size]; exact hk)]
theorem ledCells_setR {L : Led} {i : Nat} (hi : i < L.n) (s : ByteArray) : (ledCells L).setIfInBounds (i * 12 + 11) (.string s) = ledCells (L.setR i s) := by
  apply Array.ext_getElem?
  intro k
  rcases Nat.lt_or_ge k (L.n * 12) with hk | hk
  · rw [ledCells_at (L.setR i s) k hk]
    by_cases he : i * 12 + 11 = k
    · subst he
      rw [Array.getElem?_setIfInBounds_self_of_lt (by rw [ledCells_size]; exact hk)]
      unfold ledCell Led.setR
      rw [show (i * 12 + 11) % 12 = 11 by omega, show (i * 12 + 11) / 12 = i by omega, if_pos rfl]
      simp
    · rw [Array.getElem?_setIfInBounds_ne he, ledCells_at _ _ hk]
      unfold ledCell Led.setR
      by_cases h11 : k % 12 = 11
      · have : ¬ (k / 12 = i) := by omega
        simp only [this, if_false]
      · simp only [h11, if_false]
  · rw [Array.getElem?_eq_none (by simpa [ledCells_size] using hk), Array.getElem?_eq_none (by rw [ledCells_size]; exact hk)]

/-- The ledger L lies at x; its accounts at b. -/
structure LedAt (h : PH) (x b : Nat) (L : Led) : Prop where
  hx : h x = some (.cells #[.int .i64 L.goods, .slice (some ⟨b, 0, none⟩) L.n L.n] 64 (0, 0))
  hb : h b = some (.cells (ledCells L) 66 (0, 0))
  ne : x ≠ b
def putLed (h : PH) (b : Nat) (L : Led) : PH := ins h b (.cells (ledCells L) 66 (0, 0))
theorem putLed_self {h : PH} {x b : Nat} {L : Led} (hL : LedAt h x b L) : putLed h b L = h := ins_self hL.hb
theorem LedAt.put {h : PH} {x b : Nat} {L M : Led} (hL : LedAt h x b L) (hg : M.goods = L.goods) (hn : M.n = L.n) : LedAt (putLed h b M) x b M :=
  ⟨by unfold putLed; rw [ins_ne _ _ hL.ne, hL.hx, hg, hn], ins_eq _ _ _, hL.ne⟩
theorem putLed_put (h : PH) (b : Nat) (L M : Led) : putLed (putLed h b L) b M = putLed h b M := ins_ins _ _ _ _

abbrev ptr (x : Nat) : Value := .pointer (some ⟨x, 0, none⟩)

section
variable {h : PH} {R : AEnd → PH → Prop} {x b : Nat} {L : Led}

theorem amount_spec {n : Int} (hR : R (.ret (.bool (decide (1 ≤ n ∧ n ≤ 1099511627776)))) h) : ACalls Try.prog 64 #[.int .i64 n] h R := by
  refine call64 ?_
  unfold sh64
  by_cases h1 : 1 ≤ n <;> by_cases h2 : n ≤ 1099511627776 <;> simp [h1, h2] at hR <;> simp [h1, h2, hR]

theorem find_nil {w : Value} (hR : R (.ret (.tuple #[.pointer none, .int .i64 1])) h) : ACalls Try.prog 39 #[.pointer none, w] h R := by
  refine call39 ?_
  unfold sh39
  rw [vBin_nilp Try.underlying25]
  simpa using hR

theorem find_bad (hL : LedAt h x b L) {who : Int} (hw : who < 0 ∨ (L.n : Int) ≤ who) (hR : R (.ret (.tuple #[.pointer none, .int .i64 60])) h) : ACalls Try.prog 39 #[ptr x, .int .i64 who] h R := by
  refine call39 ?_
  unfold sh39 ptr
  rw [vBin_pnil Try.underlying25]
  by_cases h0 : who < 0
  · simp [h0, hR]
  · have h1 : (L.n : Int) ≤ who := by omega
    simp [h0, hR, h1, vLoad_1 hL.hx]

theorem find_ok (hL : LedAt h x b L) {i : Nat} (hi : i < L.n) (hR : R (.ret (.tuple #[.pointer (some ⟨b, i * 12, none⟩), .int .i64 0])) h) : ACalls Try.prog 39 #[ptr x, .int .i64 i] h R := by
  refine call39 ?_
  unfold sh39 ptr
  rw [vBin_pnil Try.underlying25]
  have h0 : ¬ ((i : Int) < 0) := by omega
  have h1 : ¬ ((L.n : Int) ≤ (i : Int)) := by omega
  simp [h0, h1, vLoad_1 hL.hx, hR, hi]

/-- Why an amount of a good may not be asked for, of a client that there is. -/
def partE (L : Led) (good n : Int) : Int := if 0 ≤ good ∧ good < L.goods ∧ 1 ≤ n ∧ n ≤ 1099511627776 then 0 else 1

theorem part_nil {w g n : Value} (hR : R (.ret (.tuple #[.pointer none, .int .i64 1])) h) : ACalls Try.prog 56 #[.pointer none, w, g, n] h R := by
  refine call56 ?_
  unfold sh56
  refine find_nil ?_
  simp [AEnd.elim, hR]

theorem part_bad (hL : LedAt h x b L) {who : Int} {g n : Value} (hw : who < 0 ∨ (L.n : Int) ≤ who) (hR : R (.ret (.tuple #[.pointer none, .int .i64 60])) h) :
    ACalls Try.prog 56 #[ptr x, .int .i64 who, g, n] h R := by
  refine call56 ?_
  unfold sh56
  refine find_bad hL hw ?_
  simp [AEnd.elim, hR]

theorem part_ok (hL : LedAt h x b L) {i : Nat} {good n : Int} (hi : i < L.n) (hR : R (.ret (.tuple #[.pointer (some ⟨b, i * 12, none⟩), .int .i64 (partE L good n)])) h) :
    ACalls Try.prog 56 #[ptr x, .int .i64 i, .int .i64 good, .int .i64 n] h R := by
  refine call56 ?_
  unfold sh56
  refine find_ok hL hi ?_
  unfold partE at hR
  by_cases h1 : good < 0
  · have : ¬ (0 ≤ good) := by omega
    simp [this] at hR
    simp [AEnd.elim, h1, hR]
  · have h1' : 0 ≤ good := by omega
    by_cases h2 : L.goods ≤ good
    · have : ¬ (good < L.goods) := by omega
      simp [this] at hR
      simp [AEnd.elim, h1, h2, hR, vLoad_1 hL.hx]
    · have h2' : good < L.goods := by omega
      simp [AEnd.elim, h1, h2, vLoad_1 hL.hx]
      refine amount_spec ?_
      by_cases h3 : 1 ≤ n ∧ n ≤ 1099511627776
      · simp [h1', h2', h3] at hR
        simp [AEnd.elim, h3, hR]
      · have : ¬ (0 ≤ good ∧ good < L.goods ∧ 1 ≤ n ∧ n ≤ 1099511627776) := by omega
        rw [if_neg this] at hR
        simp [AEnd.elim, h3, hR]

theorem wr1 (c : Array Value) (o : Nat) (v : Value) : wr c o [v] = c.setIfInBounds o v := rfl
theorem LedAt.sub {g : PH} (hL : LedAt h x b L) (hs : Sub h g) : LedAt g x b L := ⟨hs _ _ hL.hx, hs _ _ hL.hb, hL.ne⟩

section
variable {K : Value → Prop} {KH : PH → Prop} {i : Nat}
theorem LedAt.ld (hL : LedAt h x b L) (hi : i < L.n) {j : Nat} (hj : j < 11) : vLoad none (.pointer (some ⟨b, i * 12 + j, none⟩)) h K ↔ K (.int .i64 (L.f i j)) := vLoad_1 hL.hb (ledCells_get hi hj)
theorem LedAt.ld0 (hL : LedAt h x b L) (hi : i < L.n) : vLoad none (.pointer (some ⟨b, i * 12, none⟩)) h K ↔ K (.int .i64 (L.f i 0)) := vLoad_1 hL.hb (ledCells_get hi (by omega) (j := 0))
theorem LedAt.ldR (hL : LedAt h x b L) (hi : i < L.n) : vLoad none (.pointer (some ⟨b, i * 12 + 11, none⟩)) h K ↔ K (.string (L.r i)) := vLoad_1 hL.hb (ledCells_rep hi)
theorem LedAt.st (hL : LedAt h x b L) (hi : i < L.n) {j : Nat} (hj : j < 11) (v : Int) : vStore 1 (.pointer (some ⟨b, i * 12 + j, none⟩)) (.int .i64 v) h KH ↔ KH (putLed h b (L.set i j v)) := by
  rw [vStore_1 hL.hb (by rw [ledCells_size]; omega) rfl, ledCells_set hi hj]; rfl
theorem LedAt.st0 (hL : LedAt h x b L) (hi : i < L.n) (v : Int) : vStore 1 (.pointer (some ⟨b, i * 12, none⟩)) (.int .i64 v) h KH ↔ KH (putLed h b (L.set i 0 v)) := hL.st hi (j := 0) (by omega) v
theorem LedAt.stR (hL : LedAt h x b L) (hi : i < L.n) (s : ByteArray) : vStore 1 (.pointer (some ⟨b, i * 12 + 11, none⟩)) (.string s) h KH ↔ KH (putLed h b (L.setR i s)) := by
  rw [vStore_1 hL.hb (by rw [ledCells_size]; omega) rfl, ledCells_setR hi]; rfl
theorem LedAt.after (hL : LedAt h x b L) (i j : Nat) (v : Int) : LedAt (putLed h b (L.set i j v)) x b (L.set i j v) := hL.put rfl rfl
theorem LedAt.afterR (hL : LedAt h x b L) (i : Nat) (v : ByteArray) : LedAt (putLed h b (L.setR i v)) x b (L.setR i v) := hL.put rfl rfl
end

/-- What an act makes of a ledger: the error's number, and the ledger then. -/
def takeL (L : Led) (i : Nat) (n : Int) : Int × Led := if partE L 0 n ≠ 0 then (1, L) else if L.f i 0 - L.f i 1 < n then (61, L) else (0, L.set i 0 (L.f i 0 - n))
def holdL (L : Led) (i : Nat) (n : Int) : Int × Led := if partE L 0 n ≠ 0 then (1, L) else if L.f i 0 - L.f i 1 < n then (61, L) else (0, L.set i 1 (L.f i 1 + n))
def freeL (L : Led) (i : Nat) (n : Int) : Int × Led := if partE L 0 n ≠ 0 then (1, L) else if L.f i 1 < n then (61, L) else (0, L.set i 1 (L.f i 1 - n))
def fetchL (L : Led) (i : Nat) (g n : Int) : Int × Led := if partE L g n ≠ 0 then (1, L) else if L.f i (2 + g.toNat) - L.f i (6 + g.toNat) < n then (61, L) else (0, L.set i (2 + g.toNat) (L.f i (2 + g.toNat) - n))
def lockL (L : Led) (i : Nat) (g n : Int) : Int × Led := if partE L g n ≠ 0 then (1, L) else if L.f i (2 + g.toNat) - L.f i (6 + g.toNat) < n then (61, L) else (0, L.set i (6 + g.toNat) (L.f i (6 + g.toNat) + n))
def unlockL (L : Led) (i : Nat) (g n : Int) : Int × Led := if partE L g n ≠ 0 then (1, L) else if L.f i (6 + g.toNat) < n then (61, L) else (0, L.set i (6 + g.toNat) (L.f i (6 + g.toNat) - n))
/-- All numbers of a ledger are of a sound size; there are at most 16 accounts and 4 goods. -/
structure Led.small (L : Led) : Prop where
  num : ∀ i j, i < L.n → j < 11 → 0 ≤ L.f i j ∧ L.f i j ≤ 1099511627776
  cl : L.n ≤ 16
  gd : L.goods ≤ 4
  rep : ∀ i, i < L.n → (L.r i).size ≤ 256

theorem partE_cases (L : Led) (g n : Int) : partE L g n = 0 ∨ partE L g n = 1 := by unfold partE; split <;> simp
theorem partE_n {g n : Int} (h : partE L g n = 0) : 0 ≤ g ∧ g < L.goods ∧ 1 ≤ n ∧ n ≤ 1099511627776 := by
  unfold partE at h
  split at h
  · assumption
  · cases h

variable {i : Nat} {g n : Int}
theorem take_ok (hL : LedAt h x b L) (hs : L.small) (hi : i < L.n) (hR : R (.ret (.int .i64 (takeL L i n).1)) (putLed h b (takeL L i n).2)) :
    ACalls Try.prog 29 #[ptr x, .int .i64 i, .int .i64 n] h R := by
  refine call29 ?_
  unfold sh29
  refine part_ok hL hi ?_
  rcases partE_cases L 0 n with hp | hp
  · have hn := partE_n hp
    have g0 := hs.num i 0 hi (by omega)
    have g1 := hs.num i 1 hi (by omega)
    simp only [takeL, hp] at hR
    simp [AEnd.elim, hp, hL.ld0 hi, hL.ld hi]
    rw [w64 (by omega) (by omega)]
    refine ⟨fun hlt => ?_, fun hle => ?_⟩
    · simp [hlt, putLed_self hL] at hR
      exact hR
    · have hlt : ¬ (L.f i 0 - L.f i 1 < n) := by omega
      simp [hlt] at hR
      try simp only [vBin_add, vBin_sub]
      rw [w64 (by omega) (by omega), hL.st0 hi]
      exact hR
  · simp [takeL, hp, putLed_self hL] at hR
    simp [AEnd.elim, hp, hR]

theorem hold_ok (hL : LedAt h x b L) (hs : L.small) (hi : i < L.n) (hR : R (.ret (.int .i64 (holdL L i n).1)) (putLed h b (holdL L i n).2)) :
    ACalls Try.prog 32 #[ptr x, .int .i64 i, .int .i64 n] h R := by
  refine call32 ?_
  unfold sh32
  refine part_ok hL hi ?_
  rcases partE_cases L 0 n with hp | hp
  · have hn := partE_n hp
    have g0 := hs.num i 0 hi (by omega)
    have g1 := hs.num i 1 hi (by omega)
    simp only [holdL, hp] at hR
    simp [AEnd.elim, hp, hL.ld0 hi, hL.ld hi]
    rw [w64 (by omega) (by omega)]
    refine ⟨fun hlt => ?_, fun hle => ?_⟩
    · simp [hlt, putLed_self hL] at hR
      exact hR
    · have hlt : ¬ (L.f i 0 - L.f i 1 < n) := by omega
      simp [hlt] at hR
      try simp only [vBin_add, vBin_sub]
      rw [w64 (by omega) (by omega), hL.st hi (by omega)]
      exact hR
  · simp [holdL, hp, putLed_self hL] at hR
    simp [AEnd.elim, hp, hR]

theorem free_ok (hL : LedAt h x b L) (hs : L.small) (hi : i < L.n) (hR : R (.ret (.int .i64 (freeL L i n).1)) (putLed h b (freeL L i n).2)) :
    ACalls Try.prog 33 #[ptr x, .int .i64 i, .int .i64 n] h R := by
  refine call33 ?_
  unfold sh33
  refine part_ok hL hi ?_
  rcases partE_cases L 0 n with hp | hp
  · have hn := partE_n hp
    have g1 := hs.num i 1 hi (by omega)
    simp only [freeL, hp] at hR
    simp [AEnd.elim, hp, hL.ld0 hi, hL.ld hi]
    refine ⟨fun hlt => ?_, fun hle => ?_⟩
    · simp [hlt, putLed_self hL] at hR
      exact hR
    · have hlt : ¬ (L.f i 1 < n) := by omega
      simp [hlt] at hR
      try simp only [vBin_add, vBin_sub]
      rw [w64 (by omega) (by omega), hL.st hi (by omega)]
      exact hR
  · simp [freeL, hp, putLed_self hL] at hR
    simp [AEnd.elim, hp, hR]

theorem fetch_ok (hL : LedAt h x b L) (hs : L.small) (hi : i < L.n) (hR : R (.ret (.int .i64 (fetchL L i g n).1)) (putLed h b (fetchL L i g n).2)) :
    ACalls Try.prog 31 #[ptr x, .int .i64 i, .int .i64 g, .int .i64 n] h R := by
  refine call31 ?_
  unfold sh31
  refine part_ok hL hi ?_
  rcases partE_cases L g n with hp | hp
  · have hn := partE_n hp
    have hg4 : g < 4 := by have := hs.gd; omega
    have g0 := hs.num i (2 + g.toNat) hi (by omega)
    have g1 := hs.num i (6 + g.toNat) hi (by omega)
    simp only [fetchL, hp] at hR
    simp [AEnd.elim, hp, hn.1, hg4, Nat.add_assoc, hL.ld hi (j := 2 + g.toNat) (by omega), hL.ld hi (j := 6 + g.toNat) (by omega)]
    rw [w64 (by omega) (by omega)]
    refine ⟨fun hlt => ?_, fun hle => ?_⟩
    · simp [hlt, putLed_self hL] at hR
      exact hR
    · have hlt : ¬ (L.f i (2 + g.toNat) - L.f i (6 + g.toNat) < n) := by omega
      simp [hlt] at hR
      try simp only [vBin_add, vBin_sub]
      rw [w64 (by omega) (by omega), hL.st hi (by omega)]
      exact hR
  · simp [fetchL, hp, putLed_self hL] at hR
    simp [AEnd.elim, hp, hR]

theorem lock_ok (hL : LedAt h x b L) (hs : L.small) (hi : i < L.n) (hR : R (.ret (.int .i64 (lockL L i g n).1)) (putLed h b (lockL L i g n).2)) :
    ACalls Try.prog 34 #[ptr x, .int .i64 i, .int .i64 g, .int .i64 n] h R := by
  refine call34 ?_
  unfold sh34
  refine part_ok hL hi ?_
  rcases partE_cases L g n with hp | hp
  · have hn := partE_n hp
    have hg4 : g < 4 := by have := hs.gd; omega
    have g0 := hs.num i (2 + g.toNat) hi (by omega)
    have g1 := hs.num i (6 + g.toNat) hi (by omega)
    simp only [lockL, hp] at hR
    simp [AEnd.elim, hp, hn.1, hg4, Nat.add_assoc, hL.ld hi (j := 2 + g.toNat) (by omega), hL.ld hi (j := 6 + g.toNat) (by omega)]
    rw [w64 (by omega) (by omega)]
    refine ⟨fun hlt => ?_, fun hle => ?_⟩
    · simp [hlt, putLed_self hL] at hR
      exact hR
    · have hlt : ¬ (L.f i (2 + g.toNat) - L.f i (6 + g.toNat) < n) := by omega
      simp [hlt] at hR
      try simp only [vBin_add, vBin_sub]
      rw [w64 (by omega) (by omega), hL.st hi (by omega)]
      exact hR
  · simp [lockL, hp, putLed_self hL] at hR
    simp [AEnd.elim, hp, hR]

theorem unlock_ok (hL : LedAt h x b L) (hs : L.small) (hi : i < L.n) (hR : R (.ret (.int .i64 (unlockL L i g n).1)) (putLed h b (unlockL L i g n).2)) :
    ACalls Try.prog 35 #[ptr x, .int .i64 i, .int .i64 g, .int .i64 n] h R := by
  refine call35 ?_
  unfold sh35
  refine part_ok hL hi ?_
  rcases partE_cases L g n with hp | hp
  · have hn := partE_n hp
    have hg4 : g < 4 := by have := hs.gd; omega
    have g1 := hs.num i (6 + g.toNat) hi (by omega)
    simp only [unlockL, hp] at hR
    simp [AEnd.elim, hp, hn.1, hg4, Nat.add_assoc, hL.ld hi (j := 6 + g.toNat) (by omega)]
    refine ⟨fun hlt => ?_, fun hle => ?_⟩
    · simp [hlt, putLed_self hL] at hR
      exact hR
    · have hlt : ¬ (L.f i (6 + g.toNat) < n) := by omega
      simp [hlt] at hR
      try simp only [vBin_add, vBin_sub]
      rw [w64 (by omega) (by omega), hL.st hi (by omega)]
      exact hR
  · simp [unlockL, hp, putLed_self hL] at hR
    simp [AEnd.elim, hp, hR]
end
end Go.Pw

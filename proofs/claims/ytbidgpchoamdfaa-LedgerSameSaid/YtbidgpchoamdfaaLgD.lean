/- The ledger's calls together; calls on no ledger; the law's own 'done', 'around', 'awake'. -/
import Derived.Test.YtbidgpchoamdfaaLgC
import Derived.Test.YtbidgpchoamdfaaSh0
set_option linter.unusedSimpArgs false
set_option linter.unusedVariables false
namespace Go.Pw
open Go Go.Proofs

/-- A call of the law's: what kind, who, to whom, which good, how many, what text. -/
structure ActV where
  k : Int
  who : Int
  to : Int
  good : Int
  n : Int
  t : ByteArray
def ActV.cells (a : ActV) : Array Value := #[.int .i64 a.k, .int .i64 a.who, .int .i64 a.to, .int .i64 a.good, .int .i64 a.n, .string a.t]
def ActV.v (a : ActV) : Value := .agg a.cells

/-- what F says of a client that there is. -/
def onC (L : Led) (w : Int) (F : Nat → Int × Led) : Int × Led := if 0 ≤ w ∧ w < L.n then F w.toNat else (60, L)
theorem onC_ok {L : Led} {i : Nat} (hi : i < L.n) (F : Nat → Int × Led) : onC L i F = F i := by
  unfold onC; rw [if_pos (by omega)]; rfl
theorem onC_bad {L : Led} {w : Int} (hw : ¬ (0 ≤ w ∧ w < L.n)) (F : Nat → Int × Led) : onC L w F = (60, L) := by
  unfold onC; rw [if_neg hw]

section
variable {h : PH} {R : AEnd → PH → Prop} {x b : Nat} {L : Led}

theorem pay_all (hL : LedAt h x b L) (hs : L.small) {w n : Int} (hR : R (.ret (.int .i64 (onC L w fun i => payL L i n).1)) (putLed h b (onC L w fun i => payL L i n).2)) :
    ACalls Try.prog 28 #[ptr x, .int .i64 w, .int .i64 n] h R := by
  by_cases hw : 0 ≤ w ∧ w < L.n
  · obtain ⟨i, rfl⟩ : ∃ i : Nat, w = i := ⟨w.toNat, by omega⟩
    have hi : i < L.n := by omega
    rw [onC_ok hi] at hR
    exact pay_ok hL hs hi hR
  · rw [onC_bad hw, putLed_self hL] at hR
    refine call28 ?_
    unfold sh28
    refine part_bad hL (by omega) ?_
    simp [AEnd.elim, hR]
theorem pay_nil {w n : Value} (hR : R (.ret (.int .i64 1)) h) : ACalls Try.prog 28 #[.pointer none, w, n] h R := by
  refine call28 ?_
  unfold sh28
  refine part_nil ?_
  simp [AEnd.elim, hR]

theorem take_all (hL : LedAt h x b L) (hs : L.small) {w n : Int} (hR : R (.ret (.int .i64 (onC L w fun i => takeL L i n).1)) (putLed h b (onC L w fun i => takeL L i n).2)) :
    ACalls Try.prog 29 #[ptr x, .int .i64 w, .int .i64 n] h R := by
  by_cases hw : 0 ≤ w ∧ w < L.n
  · obtain ⟨i, rfl⟩ : ∃ i : Nat, w = i := ⟨w.toNat, by omega⟩
    have hi : i < L.n := by omega
    rw [onC_ok hi] at hR
    exact take_ok hL hs hi hR
  · rw [onC_bad hw, putLed_self hL] at hR
    refine call29 ?_
    unfold sh29
    refine part_bad hL (by omega) ?_
    simp [AEnd.elim, hR]
theorem take_nil {w n : Value} (hR : R (.ret (.int .i64 1)) h) : ACalls Try.prog 29 #[.pointer none, w, n] h R := by
  refine call29 ?_
  unfold sh29
  refine part_nil ?_
  simp [AEnd.elim, hR]

theorem store_all (hL : LedAt h x b L) (hs : L.small) {w g n : Int} (hR : R (.ret (.int .i64 (onC L w fun i => storeL L i g n).1)) (putLed h b (onC L w fun i => storeL L i g n).2)) :
    ACalls Try.prog 30 #[ptr x, .int .i64 w, .int .i64 g, .int .i64 n] h R := by
  by_cases hw : 0 ≤ w ∧ w < L.n
  · obtain ⟨i, rfl⟩ : ∃ i : Nat, w = i := ⟨w.toNat, by omega⟩
    have hi : i < L.n := by omega
    rw [onC_ok hi] at hR
    exact store_ok hL hs hi hR
  · rw [onC_bad hw, putLed_self hL] at hR
    refine call30 ?_
    unfold sh30
    refine part_bad hL (by omega) ?_
    simp [AEnd.elim, hR]
theorem store_nil {w g n : Value} (hR : R (.ret (.int .i64 1)) h) : ACalls Try.prog 30 #[.pointer none, w, g, n] h R := by
  refine call30 ?_
  unfold sh30
  refine part_nil ?_
  simp [AEnd.elim, hR]

theorem fetch_all (hL : LedAt h x b L) (hs : L.small) {w g n : Int} (hR : R (.ret (.int .i64 (onC L w fun i => fetchL L i g n).1)) (putLed h b (onC L w fun i => fetchL L i g n).2)) :
    ACalls Try.prog 31 #[ptr x, .int .i64 w, .int .i64 g, .int .i64 n] h R := by
  by_cases hw : 0 ≤ w ∧ w < L.n
  · obtain ⟨i, rfl⟩ : ∃ i : Nat, w = i := ⟨w.toNat, by omega⟩
    have hi : i < L.n := by omega
    rw [onC_ok hi] at hR
    exact fetch_ok hL hs hi hR
  · rw [onC_bad hw, putLed_self hL] at hR
    refine call31 ?_
    unfold sh31
    refine part_bad hL (by omega) ?_
    simp [AEnd.elim, hR]
theorem fetch_nil {w g n : Value} (hR : R (.ret (.int .i64 1)) h) : ACalls Try.prog 31 #[.pointer none, w, g, n] h R := by
  refine call31 ?_
  unfold sh31
  refine part_nil ?_
  simp [AEnd.elim, hR]

theorem hold_all (hL : LedAt h x b L) (hs : L.small) {w n : Int} (hR : R (.ret (.int .i64 (onC L w fun i => holdL L i n).1)) (putLed h b (onC L w fun i => holdL L i n).2)) :
    ACalls Try.prog 32 #[ptr x, .int .i64 w, .int .i64 n] h R := by
  by_cases hw : 0 ≤ w ∧ w < L.n
  · obtain ⟨i, rfl⟩ : ∃ i : Nat, w = i := ⟨w.toNat, by omega⟩
    have hi : i < L.n := by omega
    rw [onC_ok hi] at hR
    exact hold_ok hL hs hi hR
  · rw [onC_bad hw, putLed_self hL] at hR
    refine call32 ?_
    unfold sh32
    refine part_bad hL (by omega) ?_
    simp [AEnd.elim, hR]
theorem hold_nil {w n : Value} (hR : R (.ret (.int .i64 1)) h) : ACalls Try.prog 32 #[.pointer none, w, n] h R := by
  refine call32 ?_
  unfold sh32
  refine part_nil ?_
  simp [AEnd.elim, hR]

theorem free_all (hL : LedAt h x b L) (hs : L.small) {w n : Int} (hR : R (.ret (.int .i64 (onC L w fun i => freeL L i n).1)) (putLed h b (onC L w fun i => freeL L i n).2)) :
    ACalls Try.prog 33 #[ptr x, .int .i64 w, .int .i64 n] h R := by
  by_cases hw : 0 ≤ w ∧ w < L.n
  · obtain ⟨i, rfl⟩ : ∃ i : Nat, w = i := ⟨w.toNat, by omega⟩
    have hi : i < L.n := by omega
    rw [onC_ok hi] at hR
    exact free_ok hL hs hi hR
  · rw [onC_bad hw, putLed_self hL] at hR
    refine call33 ?_
    unfold sh33
    refine part_bad hL (by omega) ?_
    simp [AEnd.elim, hR]
theorem free_nil {w n : Value} (hR : R (.ret (.int .i64 1)) h) : ACalls Try.prog 33 #[.pointer none, w, n] h R := by
  refine call33 ?_
  unfold sh33
  refine part_nil ?_
  simp [AEnd.elim, hR]

theorem lock_all (hL : LedAt h x b L) (hs : L.small) {w g n : Int} (hR : R (.ret (.int .i64 (onC L w fun i => lockL L i g n).1)) (putLed h b (onC L w fun i => lockL L i g n).2)) :
    ACalls Try.prog 34 #[ptr x, .int .i64 w, .int .i64 g, .int .i64 n] h R := by
  by_cases hw : 0 ≤ w ∧ w < L.n
  · obtain ⟨i, rfl⟩ : ∃ i : Nat, w = i := ⟨w.toNat, by omega⟩
    have hi : i < L.n := by omega
    rw [onC_ok hi] at hR
    exact lock_ok hL hs hi hR
  · rw [onC_bad hw, putLed_self hL] at hR
    refine call34 ?_
    unfold sh34
    refine part_bad hL (by omega) ?_
    simp [AEnd.elim, hR]
theorem lock_nil {w g n : Value} (hR : R (.ret (.int .i64 1)) h) : ACalls Try.prog 34 #[.pointer none, w, g, n] h R := by
  refine call34 ?_
  unfold sh34
  refine part_nil ?_
  simp [AEnd.elim, hR]

theorem unlock_all (hL : LedAt h x b L) (hs : L.small) {w g n : Int} (hR : R (.ret (.int .i64 (onC L w fun i => unlockL L i g n).1)) (putLed h b (onC L w fun i => unlockL L i g n).2)) :
    ACalls Try.prog 35 #[ptr x, .int .i64 w, .int .i64 g, .int .i64 n] h R := by
  by_cases hw : 0 ≤ w ∧ w < L.n
  · obtain ⟨i, rfl⟩ : ∃ i : Nat, w = i := ⟨w.toNat, by omega⟩
    have hi : i < L.n := by omega
    rw [onC_ok hi] at hR
    exact unlock_ok hL hs hi hR
  · rw [onC_bad hw, putLed_self hL] at hR
    refine call35 ?_
    unfold sh35
    refine part_bad hL (by omega) ?_
    simp [AEnd.elim, hR]
theorem unlock_nil {w g n : Value} (hR : R (.ret (.int .i64 1)) h) : ACalls Try.prog 35 #[.pointer none, w, g, n] h R := by
  refine call35 ?_
  unfold sh35
  refine part_nil ?_
  simp [AEnd.elim, hR]

theorem move_all (hL : LedAt h x b L) (hs : L.small) {w t n : Int} (hR : R (.ret (.int .i64 (onC L w fun i => onC L t fun j => moveL L i j n).1)) (putLed h b (onC L w fun i => onC L t fun j => moveL L i j n).2)) :
    ACalls Try.prog 36 #[ptr x, .int .i64 w, .int .i64 t, .int .i64 n] h R := by
  by_cases hw : 0 ≤ w ∧ w < L.n
  · obtain ⟨i, rfl⟩ : ∃ i : Nat, w = i := ⟨w.toNat, by omega⟩
    have hi : i < L.n := by omega
    rw [onC_ok hi] at hR
    by_cases ht : 0 ≤ t ∧ t < L.n
    · obtain ⟨j, rfl⟩ : ∃ j : Nat, t = j := ⟨t.toNat, by omega⟩
      have hj : j < L.n := by omega
      rw [onC_ok hj] at hR
      exact move_ok hL hs hi hj hR
    · rw [onC_bad ht, putLed_self hL] at hR
      exact move_badTo hL hi (by omega) hR
  · rw [onC_bad hw, putLed_self hL] at hR
    exact move_badFrom hL (by omega) hR
theorem hand_all (hL : LedAt h x b L) (hs : L.small) {w t g n : Int} (hR : R (.ret (.int .i64 (onC L w fun i => onC L t fun j => handL L i j g n).1)) (putLed h b (onC L w fun i => onC L t fun j => handL L i j g n).2)) :
    ACalls Try.prog 37 #[ptr x, .int .i64 w, .int .i64 t, .int .i64 g, .int .i64 n] h R := by
  by_cases hw : 0 ≤ w ∧ w < L.n
  · obtain ⟨i, rfl⟩ : ∃ i : Nat, w = i := ⟨w.toNat, by omega⟩
    have hi : i < L.n := by omega
    rw [onC_ok hi] at hR
    by_cases ht : 0 ≤ t ∧ t < L.n
    · obtain ⟨j, rfl⟩ : ∃ j : Nat, t = j := ⟨t.toNat, by omega⟩
      have hj : j < L.n := by omega
      rw [onC_ok hj] at hR
      exact hand_ok hL hs hi hj hR
    · rw [onC_bad ht, putLed_self hL] at hR
      exact hand_badTo hL hi (by omega) hR
  · rw [onC_bad hw, putLed_self hL] at hR
    exact hand_badFrom hL (by omega) hR
theorem mark_all (hL : LedAt h x b L) {w s : Int} {t : ByteArray} (hR : R (.ret (.int .i64 (onC L w fun i => markL L i s t).1)) (putLed h b (onC L w fun i => markL L i s t).2)) :
    ACalls Try.prog 38 #[ptr x, .int .i64 w, .int .i64 s, .string t] h R := by
  by_cases hw : 0 ≤ w ∧ w < L.n
  · obtain ⟨i, rfl⟩ : ∃ i : Nat, w = i := ⟨w.toNat, by omega⟩
    have hi : i < L.n := by omega
    rw [onC_ok hi] at hR
    exact mark_ok hL hi hR
  · rw [onC_bad hw, putLed_self hL] at hR
    exact mark_bad hL (by omega) hR
theorem move_nil {w t n : Value} (hR : R (.ret (.int .i64 1)) h) : ACalls Try.prog 36 #[.pointer none, w, t, n] h R := by
  refine call36 ?_
  unfold sh36
  refine find_nil ?_
  simp [AEnd.elim, hR]
theorem hand_nil {w t g n : Value} (hR : R (.ret (.int .i64 1)) h) : ACalls Try.prog 37 #[.pointer none, w, t, g, n] h R := by
  refine call37 ?_
  unfold sh37
  refine find_nil ?_
  simp [AEnd.elim, hR]
theorem mark_nil {w s t : Value} (hR : R (.ret (.int .i64 1)) h) : ACalls Try.prog 38 #[.pointer none, w, s, t] h R := by
  refine call38 ?_
  unfold sh38
  refine find_nil ?_
  simp [AEnd.elim, hR]

/-- A number gone round 11. -/
def rnd (k : Int) : Int := if k.tmod 11 < 0 then 0 - k.tmod 11 else k.tmod 11
theorem tmod_bd (k : Int) : -11 < k.tmod 11 ∧ k.tmod 11 < 11 := by
  have h1 := Int.tmod_lt_of_pos k (b := 11) (by omega)
  have h2 := Int.lt_tmod_of_pos k (b := 11) (by omega)
  omega
theorem around_11 {k : Int} (hR : R (.ret (.int .i64 (rnd k))) h) : ACalls Try.prog 27 #[.int .i64 k, .int .i64 11] h R := by
  refine call27 ?_
  unfold sh27
  rw [vBin_rem _ _ _ _ (by omega)]
  have hb := tmod_bd k
  unfold rnd at hR
  by_cases hk : k.tmod 11 < 0
  · rw [if_pos hk] at hR
    simp only [vBin_lss, hk, dIf_b, vBin_sub, decide_true]
    refine ⟨fun _ => ?_, fun e => absurd e (by simp)⟩
    rw [w64 (by omega) (by omega)]; exact hR
  · rw [if_neg hk] at hR
    simp only [vBin_lss, hk, dIf_b, vBin_sub, decide_false]
    exact ⟨fun e => absurd e (by simp), fun _ => hR⟩

/-- What a call makes of a ledger. -/
def doneL (L : Led) (a : ActV) : Int × Led :=
  if rnd a.k = 0 then onC L a.who fun i => payL L i a.n
  else if rnd a.k = 1 then onC L a.who fun i => takeL L i a.n
  else if rnd a.k = 2 then onC L a.who fun i => storeL L i a.good a.n
  else if rnd a.k = 3 then onC L a.who fun i => fetchL L i a.good a.n
  else if rnd a.k = 4 then onC L a.who fun i => holdL L i a.n
  else if rnd a.k = 5 then onC L a.who fun i => freeL L i a.n
  else if rnd a.k = 6 then onC L a.who fun i => lockL L i a.good a.n
  else if rnd a.k = 7 then onC L a.who fun i => unlockL L i a.good a.n
  else if rnd a.k = 8 then onC L a.who fun i => onC L a.to fun j => moveL L i j a.n
  else if rnd a.k = 9 then onC L a.who fun i => onC L a.to fun j => handL L i j a.good a.n
  else onC L a.who fun i => markL L i a.n a.t

theorem done_ok (hL : LedAt h x b L) (hs : L.small) {a : ActV} (hR : R (.ret (.int .i64 (doneL L a).1)) (putLed h b (doneL L a).2)) : ACalls Try.prog 11 #[ptr x, a.v] h R := by
  refine ACalls.drop (call11 ?_)
  unfold sh11
  refine vNew_i fun c hc => ?_
  simp only [ActV.v, Value.cells]
  have hl : ∀ {K : Value → Prop} {o : Nat} {v : Value}, a.cells[o]? = some v → (vLoad none (.pointer (some ⟨c, o, none⟩)) (ins h c (.cells a.cells 24)) K ↔ K v) := fun hv => vLoad_1 (ins_eq _ _ _) hv
  have hL1 := hL.sub (sub_ins (h := h) (.cells a.cells 24) hc)
  have fin : ∀ M : Led, (∀ e, R e (putLed h b M) → ∃ g, Sub g (putLed (ins h c (.cells a.cells 24)) b M) ∧ R e g) := fun M e hr => ⟨_, Sub.both (sub_ins _ hc), hr⟩
  have q0 : a.cells[0]? = some (.int .i64 a.k) := rfl
  have q1 : a.cells[1]? = some (.int .i64 a.who) := rfl
  have q2 : a.cells[2]? = some (.int .i64 a.to) := rfl
  have q3 : a.cells[3]? = some (.int .i64 a.good) := rfl
  have q4 : a.cells[4]? = some (.int .i64 a.n) := rfl
  have q5 : a.cells[5]? = some (.string a.t) := rfl
  simp only [vFA_p, Nat.zero_add, hl q0, hl q1, hl q2, hl q3, hl q4, hl q5]
  refine around_11 ?_
  simp only [AEnd.elim, vBin_eql, dIf_b, decide_eq_true_eq, decide_eq_false_iff_not, vFA_p, Nat.zero_add, hl q0, hl q1, hl q2, hl q3, hl q4, hl q5]
  unfold doneL at hR
  refine ⟨fun e => ?_, fun e => ?_⟩
  · rw [if_pos e] at hR
    refine pay_all hL1 hs ?_
    exact fin _ _ hR
  rw [if_neg e] at hR
  refine ⟨fun e => ?_, fun e => ?_⟩
  · rw [if_pos e] at hR
    refine take_all hL1 hs ?_
    exact fin _ _ hR
  rw [if_neg e] at hR
  refine ⟨fun e => ?_, fun e => ?_⟩
  · rw [if_pos e] at hR
    refine store_all hL1 hs ?_
    exact fin _ _ hR
  rw [if_neg e] at hR
  refine ⟨fun e => ?_, fun e => ?_⟩
  · rw [if_pos e] at hR
    refine fetch_all hL1 hs ?_
    exact fin _ _ hR
  rw [if_neg e] at hR
  refine ⟨fun e => ?_, fun e => ?_⟩
  · rw [if_pos e] at hR
    refine hold_all hL1 hs ?_
    exact fin _ _ hR
  rw [if_neg e] at hR
  refine ⟨fun e => ?_, fun e => ?_⟩
  · rw [if_pos e] at hR
    refine free_all hL1 hs ?_
    exact fin _ _ hR
  rw [if_neg e] at hR
  refine ⟨fun e => ?_, fun e => ?_⟩
  · rw [if_pos e] at hR
    refine lock_all hL1 hs ?_
    exact fin _ _ hR
  rw [if_neg e] at hR
  refine ⟨fun e => ?_, fun e => ?_⟩
  · rw [if_pos e] at hR
    refine unlock_all hL1 hs ?_
    exact fin _ _ hR
  rw [if_neg e] at hR
  refine ⟨fun e => ?_, fun e => ?_⟩
  · rw [if_pos e] at hR
    refine move_all hL1 hs ?_
    exact fin _ _ hR
  rw [if_neg e] at hR
  refine ⟨fun e => ?_, fun e => ?_⟩
  · rw [if_pos e] at hR
    refine hand_all hL1 hs ?_
    exact fin _ _ hR
  rw [if_neg e] at hR
  refine mark_all hL1 ?_
  exact fin _ _ hR

theorem done_nil {a : ActV} (hR : R (.ret (.int .i64 1)) h) : ACalls Try.prog 11 #[.pointer none, a.v] h R := by
  refine ACalls.drop (call11 ?_)
  unfold sh11
  refine vNew_i fun c hc => ?_
  simp only [ActV.v, Value.cells]
  have hl : ∀ {K : Value → Prop} {o : Nat} {v : Value}, a.cells[o]? = some v → (vLoad none (.pointer (some ⟨c, o, none⟩)) (ins h c (.cells a.cells 24)) K ↔ K v) := fun hv => vLoad_1 (ins_eq _ _ _) hv
  have fin : ∃ g, Sub g (ins h c (.cells a.cells 24)) ∧ R (.ret (.int .i64 1)) g := ⟨h, sub_ins _ hc, hR⟩
  have q0 : a.cells[0]? = some (.int .i64 a.k) := rfl
  have q1 : a.cells[1]? = some (.int .i64 a.who) := rfl
  have q2 : a.cells[2]? = some (.int .i64 a.to) := rfl
  have q3 : a.cells[3]? = some (.int .i64 a.good) := rfl
  have q4 : a.cells[4]? = some (.int .i64 a.n) := rfl
  have q5 : a.cells[5]? = some (.string a.t) := rfl
  simp only [vFA_p, Nat.zero_add, hl q0, hl q1, hl q2, hl q3, hl q4, hl q5]
  refine around_11 ?_
  simp only [AEnd.elim, vBin_eql, dIf_b, decide_eq_true_eq, decide_eq_false_iff_not, vFA_p, Nat.zero_add, hl q0, hl q1, hl q2, hl q3, hl q4, hl q5]
  refine ⟨fun e => pay_nil fin, fun e => ?_⟩
  refine ⟨fun e => take_nil fin, fun e => ?_⟩
  refine ⟨fun e => store_nil fin, fun e => ?_⟩
  refine ⟨fun e => fetch_nil fin, fun e => ?_⟩
  refine ⟨fun e => hold_nil fin, fun e => ?_⟩
  refine ⟨fun e => free_nil fin, fun e => ?_⟩
  refine ⟨fun e => lock_nil fin, fun e => ?_⟩
  refine ⟨fun e => unlock_nil fin, fun e => ?_⟩
  refine ⟨fun e => move_nil fin, fun e => ?_⟩
  refine ⟨fun e => hand_nil fin, fun e => ?_⟩
  exact mark_nil fin

theorem totals_nil (hR : R (.ret (.tuple #[.int .i64 0, .agg #[.int .i64 0, .int .i64 0, .int .i64 0, .int .i64 0]])) h) : ACalls Try.prog 14 #[.pointer none] h R := by
  refine ACalls.drop (call14 ?_)
  unfold sh14
  refine vNew_i fun c hc => ?_
  simp [vBin_nilp Try.underlying25]
  rw [vLoad_n (ins_eq _ _ _) (by simp)]
  exact ⟨h, sub_ins _ hc, by simpa using hR⟩
theorem last_nil {w : Value} (hR : R (.ret (.tuple #[.int .i64 0, .string ⟨#[]⟩])) h) : ACalls Try.prog 15 #[.pointer none, w] h R := by
  refine call15 ?_
  unfold sh15
  refine find_nil ?_
  simp [AEnd.elim, hR]
theorem acct_nil {w : Value} (hR : R (.ret (.tuple #[.agg acct0, .bool false])) h) : ACalls Try.prog 16 #[.pointer none, w] h R := by
  refine ACalls.drop (call16 ?_)
  unfold sh16
  refine vNew_i fun c hc => ?_
  refine find_nil ?_
  simp [AEnd.elim]
  refine ⟨_, rfl, ?_⟩
  refine vStore_to (ins_eq _ _ _) (by rfl) (by rfl) (by rfl) ?_
  rw [ins_ins, vLoad_n (ins_eq _ _ _) (by simp)]
  exact ⟨h, sub_ins _ hc, hR⟩
theorem records_nil (hR : R (.ret (.slice none 0 0)) h) : ACalls Try.prog 10 #[.pointer none] h R := by
  refine call10 ?_
  unfold sh10
  simp [vBin_nilp Try.underlying25, hR]
end
end Go.Pw

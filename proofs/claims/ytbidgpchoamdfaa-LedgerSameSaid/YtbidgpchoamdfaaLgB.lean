/- Ledgers in memory: totals, payments, moves, marks, accounts, a new one. -/
import Derived.Test.YtbidgpchoamdfaaLgA
set_option linter.unusedSimpArgs false
set_option linter.unusedVariables false
namespace Go.Pw
open Go Go.Proofs

def entCells (L : Led) (i : Nat) : Array Value := #[.int .i64 (L.f i 0), .int .i64 (L.f i 1), .int .i64 (L.f i 2), .int .i64 (L.f i 3), .int .i64 (L.f i 4), .int .i64 (L.f i 5), .int .i64 (L.f i 6), .int .i64 (L.f i 7), .int .i64 (L.f i 8), .int .i64 (L.f i 9), .int .i64 (L.f i 10), .string (L.r i)]
def acctCells (L : Led) (i : Nat) : Array Value := #[.int .i64 (L.f i 0), .int .i64 (L.f i 1), .int .i64 (L.f i 2), .int .i64 (L.f i 3), .int .i64 (L.f i 4), .int .i64 (L.f i 5), .int .i64 (L.f i 6), .int .i64 (L.f i 7), .int .i64 (L.f i 8), .int .i64 (L.f i 9)]
theorem ledCells_ent {L : Led} {i : Nat} (hi : i < L.n) : (ledCells L).extract (i * 12) (i * 12 + 12) = entCells L i := by
  have key : ∀ j, j < 12 → (ledCells L)[i * 12 + j]? = (entCells L i)[j]? := fun j hj => match j, hj with
    | 0, _ => by have := ledCells_get hi (j := 0) (by omega); simpa [entCells] using this
    | 1, _ => by have := ledCells_get hi (j := 1) (by omega); simpa [entCells] using this
    | 2, _ => by have := ledCells_get hi (j := 2) (by omega); simpa [entCells] using this
    | 3, _ => by have := ledCells_get hi (j := 3) (by omega); simpa [entCells] using this
    | 4, _ => by have := ledCells_get hi (j := 4) (by omega); simpa [entCells] using this
    | 5, _ => by have := ledCells_get hi (j := 5) (by omega); simpa [entCells] using this
    | 6, _ => by have := ledCells_get hi (j := 6) (by omega); simpa [entCells] using this
    | 7, _ => by have := ledCells_get hi (j := 7) (by omega); simpa [entCells] using this
    | 8, _ => by have := ledCells_get hi (j := 8) (by omega); simpa [entCells] using this
    | 9, _ => by have := ledCells_get hi (j := 9) (by omega); simpa [entCells] using this
    | 10, _ => by have := ledCells_get hi (j := 10) (by omega); simpa [entCells] using this
    | 11, _ => by have := ledCells_rep hi; simpa [entCells] using this
    | n + 12, h => absurd h (by omega)
  apply Array.ext_getElem?
  intro j
  rw [Array.getElem?_extract]
  rcases Nat.lt_or_ge j 12 with hj | hj
  · rw [if_pos (by rw [ledCells_size]; omega), key j hj]
  · rw [if_neg (by rw [ledCells_size]; omega), Array.getElem?_eq_none (by simpa [entCells] using hj)]
theorem entCells_acct (L : Led) (i : Nat) : (entCells L i).extract 0 10 = acctCells L i := rfl

def sumN (g : Nat → Int) : Nat → Int
  | 0 => 0
  | k + 1 => sumN g k + g k
theorem sumN_bd {g : Nat → Int} {M : Int} (hM : 0 ≤ M) : ∀ (k : Nat), (∀ i, i < k → 0 ≤ g i ∧ g i ≤ M) → 0 ≤ sumN g k ∧ sumN g k ≤ k * M
  | 0, _ => by simp [sumN]
  | k + 1, h => by
    have ih := sumN_bd hM k (fun i hi => h i (by omega))
    have h1 := h k (by omega)
    simp only [sumN]
    rw [show ((k + 1 : Nat) : Int) * M = k * M + M by rw [Int.natCast_add, Int.add_mul]; simp]
    omega
def cells4 (g : Nat → Int) : Array Value := #[.int .i64 (g 0), .int .i64 (g 1), .int .i64 (g 2), .int .i64 (g 3)]
theorem cells4_get (g : Nat → Int) {m : Nat} (hm : m < 4) : (cells4 g)[m]? = some (.int .i64 (g m)) := match m, hm with
  | 0, _ => rfl
  | 1, _ => rfl
  | 2, _ => rfl
  | 3, _ => rfl
  | n + 4, h => absurd h (by omega)
theorem cells4_set (g : Nat → Int) {m : Nat} (hm : m < 4) (v : Int) : (cells4 g).setIfInBounds m (.int .i64 v) = cells4 (fun j => if j = m then v else g j) := match m, hm with
  | 0, _ => rfl
  | 1, _ => rfl
  | 2, _ => rfl
  | 3, _ => rfl
  | n + 4, h => absurd h (by omega)
theorem cells4_congr {g g' : Nat → Int} (h : ∀ j, j < 4 → g j = g' j) : cells4 g = cells4 g' := by
  unfold cells4; rw [h 0 (by omega), h 1 (by omega), h 2 (by omega), h 3 (by omega)]
theorem entCells_goods (L : Led) (i : Nat) : (entCells L i).extract 2 6 = cells4 fun j => L.f i (2 + j) := rfl

section
variable {h : PH} {R : AEnd → PH → Prop} {x b : Nat} {L : Led} {K : Value → Prop} {KH : PH → Prop}

theorem LedAt.ldEnt (hL : LedAt h x b L) {i : Nat} (hi : i < L.n) : vLoad (some 12) (.pointer (some ⟨b, i * 12, none⟩)) h K ↔ K (.agg (entCells L i)) := by
  rw [vLoad_n hL.hb (by rw [ledCells_size]; omega), ledCells_ent hi]

/-- The cash of all, and what there is of each good. -/
def cashOf (L : Led) : Int := sumN (fun i => L.f i 0) L.n
def goodOf (L : Led) (j : Nat) : Int := sumN (fun i => L.f i (2 + j)) L.n

theorem totals_ok (hL : LedAt h x b L) (hs : L.small) (hR : R (.ret (.tuple #[.int .i64 (cashOf L), .agg (cells4 (goodOf L))])) h) : ACalls Try.prog 14 #[ptr x] h R := by
  refine ACalls.drop (call14 ?_)
  unfold sh14
  refine vNew_i fun c hc => ?_
  have hL1 : ∀ o, LedAt (ins h c o) x b L := fun o => hL.sub (sub_ins _ hc)
  rw [vBin_pnil Try.underlying25]
  simp only [dIf_b, Bool.false_eq_true, false_implies, true_and, vNil_p, vFA_p, forall_const, Nat.zero_add]
  have hcl := hs.cl
  rw [vLoad_1 (hL1 _).hx (v := .slice (some ⟨b, 0, none⟩) L.n L.n) rfl]
  simp only [vLenS_s]
  have bd : ∀ j k, j < 11 → k ≤ L.n → 0 ≤ sumN (fun i => L.f i j) k ∧ sumN (fun i => L.f i j) k ≤ 17592186044416 := fun j k hj hk => by
    have h1 := sumN_bd (g := fun i => L.f i j) (M := 1099511627776) (by omega) k (fun i hi => hs.num i j (by omega) hj)
    have h2 := hs.cl
    refine ⟨h1.1, ?_⟩
    have : (k : Int) * 1099511627776 ≤ 16 * 1099511627776 := Int.mul_le_mul_of_nonneg_right (by omega) (by omega)
    omega
  refine lf_intro (fun m s g => ∃ k, k ≤ L.n ∧ m = L.n - k ∧ s = (.int .i64 (sumN (fun i => L.f i 0) k), .int .i64 (k : Nat)) ∧ Sub (ins h c (.cells (cells4 fun j => sumN (fun i => L.f i (2 + j)) k) 37 (0, 0))) g) L.n ?_ ?_
  · exact ⟨0, by omega, by omega, rfl, Sub.refl _⟩
  · rintro m s g ⟨k, hk, rfl, rfl, hg⟩
    unfold b14_3
    have hLg : LedAt g x b L := (hL1 _).sub hg
    simp only [vBin_lss, dIf_b, decide_eq_true_eq, decide_eq_false_iff_not]
    refine ⟨fun hlt => ?_, fun hge => ?_⟩
    · have hlt' : k < L.n := by omega
      have b0 := bd 0 k (by omega) hk
      have e0 := hs.num k 0 hlt' (by omega)
      simp only [vIxS_p, Nat.zero_add, Int.toNat_natCast]
      refine ⟨by omega, by omega, ?_⟩
      rw [hLg.ldEnt hlt']
      refine vNew_i fun q hq => ?_
      have hqc : q ≠ c := fun e => by subst e; rw [hg.get] at hq; cases hq
      refine vStore_to (ins_eq _ _ _) (by rfl) (by rfl) (by rfl) ?_
      rw [ins_ins]
      simp only [vFA_p]
      rw [vLoad_1 (ins_eq _ _ _) (v := .int .i64 (L.f k 0)) rfl]
      simp only [vBin_add]
      rw [w64 (by omega) (by omega)]
      rw [vLoad_n (ins_eq _ _ _) (by simp [entCells])]
      rw [show (entCells L k).extract (0 + 0 + 2) (0 + 0 + 2 + 4) = cells4 fun j => L.f k (2 + j) from rfl]
      have hgq : ∀ o, Sub (ins h c (.cells (cells4 fun j => sumN (fun i => L.f i (2 + j)) k) 37 (0, 0))) (ins g q o) := fun o => hg.put (hg.fresh hq)
      refine lf_intro (fun m s g => ∃ t, t ≤ 4 ∧ m = 4 - t ∧ s = .int .i64 (t : Nat) ∧ Sub (ins h c (.cells (cells4 fun j => if j < t then sumN (fun i => L.f i (2 + j)) (k + 1) else sumN (fun i => L.f i (2 + j)) k) 37 (0, 0))) g) 4 ?_ ?_
      · exact ⟨0, by omega, by omega, rfl, by simpa using hgq _⟩
      · rintro m s g' ⟨t, ht, rfl, rfl, hg'⟩
        unfold b14_7
        simp only [vBin_lss, dIf_b, decide_eq_true_eq, decide_eq_false_iff_not]
        refine ⟨fun hlt2 => ?_, fun hge2 => ?_⟩
        · have ht4 : t < 4 := by omega
          have bt := bd (2 + t) k (by omega) hk
          have et := hs.num k (2 + t) hlt' (by omega)
          refine ⟨_, _, _, rfl, rfl, by omega, by omega, .int .i64 (L.f k (2 + t)), ?_, ?_⟩
          · simpa using cells4_get (fun j => L.f k (2 + j)) ht4
          · simp only [vIxA_p, Nat.zero_add, Int.toNat_natCast, Nat.mul_one]
            refine ⟨by omega, by omega, ?_⟩
            rw [vLoad_1 hg'.get (cells4_get _ ht4)]
            simp only [vBin_add, vIxA_p, Nat.zero_add, Int.toNat_natCast, Nat.mul_one]
            refine ⟨by omega, by omega, ?_⟩
            rw [vStore_1 hg'.get (by simpa [cells4] using ht4) rfl, cells4_set _ ht4]
            refine ⟨trivial, 3 - t, by omega, t + 1, by omega, by omega, ?_, ?_⟩
            · rw [w64 (by omega) (by omega)]; rfl
            · rw [if_neg (by omega), w64 (by omega) (by omega)]
              rw [show (cells4 fun j => if j = t then sumN (fun i => L.f i (2 + t)) k + L.f k (2 + t) else if j < t then sumN (fun i => L.f i (2 + j)) (k + 1) else sumN (fun i => L.f i (2 + j)) k) =
                cells4 fun j => if j < t + 1 then sumN (fun i => L.f i (2 + j)) (k + 1) else sumN (fun i => L.f i (2 + j)) k from cells4_congr fun j hj => by
                  by_cases e1 : j = t
                  · subst e1; rw [if_pos rfl, if_pos (by omega)]; rfl
                  · rw [if_neg e1]
                    by_cases e2 : j < t
                    · rw [if_pos e2, if_pos (by omega)]
                    · rw [if_neg e2, if_neg (by omega)]]
              exact hg'.over
        · have : t = 4 := by omega
          subst this
          intro r hr
          simp only [Prod.mk.injEq] at hr
          obtain ⟨r2, r3, r13, r14, r15⟩ := hr
          simp only [r15, vBin_add, r3, r13, r14, r2]
          refine ⟨trivial, L.n - (k + 1), by omega, k + 1, by omega, rfl, ?_, ?_⟩
          · rw [w64 (by omega) (by omega)]; rfl
          · rw [show (cells4 fun j => sumN (fun i => L.f i (2 + j)) (k + 1)) = cells4 fun j => if j < 4 then sumN (fun i => L.f i (2 + j)) (k + 1) else sumN (fun i => L.f i (2 + j)) k from cells4_congr fun j hj => by rw [if_pos hj]]
            exact hg'
    · have : k = L.n := by omega
      subst this
      intro r hr
      simp only [Prod.mk.injEq] at hr
      obtain ⟨r2, r3⟩ := hr
      simp only [r2, r3]
      rw [vLoad_n hg.get (by simp [cells4])]
      exact ⟨h, Sub.under hc hg, hR⟩

def payL (L : Led) (i : Nat) (n : Int) : Int × Led := if partE L 0 n ≠ 0 then (1, L) else if 1099511627776 < cashOf L + n then (62, L) else (0, L.set i 0 (L.f i 0 + n))
def storeL (L : Led) (i : Nat) (g n : Int) : Int × Led := if partE L g n ≠ 0 then (1, L) else if 1099511627776 < goodOf L g.toNat + n then (62, L) else (0, L.set i (2 + g.toNat) (L.f i (2 + g.toNat) + n))
theorem bd_sum (hs : L.small) {j : Nat} (hj : j < 11) : 0 ≤ sumN (fun i => L.f i j) L.n ∧ sumN (fun i => L.f i j) L.n ≤ 17592186044416 := by
  have h1 := sumN_bd (g := fun i => L.f i j) (M := 1099511627776) (by omega) L.n (fun i hi => hs.num i j hi hj)
  have h2 := hs.cl
  refine ⟨h1.1, ?_⟩
  have : (L.n : Int) * 1099511627776 ≤ 16 * 1099511627776 := Int.mul_le_mul_of_nonneg_right (by omega) (by omega)
  omega
variable {i : Nat} {g n : Int}

theorem pay_ok (hL : LedAt h x b L) (hs : L.small) (hi : i < L.n) (hR : R (.ret (.int .i64 (payL L i n).1)) (putLed h b (payL L i n).2)) :
    ACalls Try.prog 28 #[ptr x, .int .i64 i, .int .i64 n] h R := by
  refine ACalls.drop (call28 ?_)
  unfold sh28
  refine part_ok hL hi ?_
  rcases partE_cases L 0 n with hp | hp
  · have hn := partE_n hp
    have g0 := hs.num i 0 hi (by omega)
    have b0 := bd_sum hs (j := 0) (by omega)
    simp only [payL, hp] at hR
    simp [AEnd.elim, hp]
    refine totals_ok hL hs ?_
    simp only [AEnd.elim, vExt_20, vExt_21]
    refine vNew_i fun c hc => ?_
    refine vStore_to (ins_eq _ _ _) (by rfl) (by rfl) (by rfl) ?_
    rw [ins_ins]
    have hL1 : ∀ o, LedAt (ins h c o) x b L := fun o => hL.sub (sub_ins _ hc)
    have hcb : c ≠ b := (ne_fresh hc hL.hb).symm
    simp only [vBin_add]
    unfold cashOf
    rw [w64 (by omega) (by omega)]
    simp only [vBin_gtr, dIf_b, decide_eq_true_eq, decide_eq_false_iff_not, vNil_p, vFA_p, Nat.add_zero]
    refine ⟨fun hlt => ⟨h, sub_ins _ hc, ?_⟩, fun hle => ?_⟩
    · simp [cashOf, hlt, putLed_self hL] at hR
      exact hR
    · simp [cashOf, hle] at hR
      rw [(hL1 _).ld0 hi]
      simp only [vBin_add]
      rw [w64 (by omega) (by omega), (hL1 _).st0 hi]
      refine ⟨_, ?_, hR⟩
      unfold putLed
      exact (sub_ins _ hc).both
  · simp [payL, hp, putLed_self hL] at hR
    simp [AEnd.elim, hp]
    exact ⟨h, Sub.refl _, hR⟩

theorem store_ok (hL : LedAt h x b L) (hs : L.small) (hi : i < L.n) (hR : R (.ret (.int .i64 (storeL L i g n).1)) (putLed h b (storeL L i g n).2)) :
    ACalls Try.prog 30 #[ptr x, .int .i64 i, .int .i64 g, .int .i64 n] h R := by
  refine ACalls.drop (call30 ?_)
  unfold sh30
  refine part_ok hL hi ?_
  rcases partE_cases L g n with hp | hp
  · have hn := partE_n hp
    have hg4 : g < 4 := by have := hs.gd; omega
    have g0 := hs.num i (2 + g.toNat) hi (by omega)
    have b0 := bd_sum hs (j := 2 + g.toNat) (by omega)
    simp only [storeL, hp] at hR
    simp [AEnd.elim, hp]
    refine totals_ok hL hs ?_
    simp only [AEnd.elim, vExt_20, vExt_21]
    refine vNew_i fun c hc => ?_
    refine vStore_to (ins_eq _ _ _) (by rfl) (by rfl) (by rfl) ?_
    rw [ins_ins]
    have hL1 : ∀ o, LedAt (ins h c o) x b L := fun o => hL.sub (sub_ins _ hc)
    simp only [vIxA_p, Nat.zero_add, Nat.mul_one]
    refine ⟨hn.1, by omega, ?_⟩
    rw [vLoad_1 (ins_eq _ _ _) (cells4_get _ (by omega))]
    simp only [vBin_add]
    unfold goodOf
    rw [w64 (by omega) (by omega)]
    simp only [vBin_gtr, dIf_b, decide_eq_true_eq, decide_eq_false_iff_not, vNil_p, vFA_p, Nat.add_zero, vIxA_p, Nat.mul_one]
    refine ⟨fun hlt => ⟨h, sub_ins _ hc, ?_⟩, fun hle => ⟨hn.1, by omega, ?_⟩⟩
    · simp [goodOf, hlt, putLed_self hL] at hR
      exact hR
    · simp [goodOf, hle] at hR
      rw [Nat.add_assoc, (hL1 _).ld hi (by omega)]
      simp only [vBin_add]
      refine ⟨hn.1, by omega, ?_⟩
      rw [w64 (by omega) (by omega), (hL1 _).st hi (by omega)]
      refine ⟨_, ?_, hR⟩
      unfold putLed
      exact (sub_ins _ hc).both
  · simp [storeL, hp, putLed_self hL] at hR
    simp [AEnd.elim, hp]
    exact ⟨h, Sub.refl _, hR⟩
end
end Go.Pw

/- What a consortium may be; the bound that the program and the document give. -/
import Derived.Test.YtgpcjdmiecnphaaGreatSh0
import Derived.Test.YtgpcjdmiecnphaaGreatPwK
set_option linter.unusedSimpArgs false
set_option linter.unusedVariables false
namespace Go.Pw
open Go Go.Proofs

section
variable {P : Program} {K : Value → Prop}
theorem vBin_shl {t : TypeId} {n k : Int} (h0 : 0 ≤ n) (hk : 0 ≤ k) (hk2 : k ≤ 49) (h1 : n < 128) : vBin P .shl t (.int .i64 n) (.int .i64 k) K ↔ K (.int .i64 (n * 2 ^ k.toNat)) := by
  refine vBin_of fun _ _ => ?_
  have e : min k.toNat 64 = k.toNat := by omega
  have b : 2 ^ k.toNat ≤ 2 ^ 49 := Nat.pow_le_pow_right (by omega) (by omega)
  have b2 : (2 : Int) ^ k.toNat ≤ 562949953421312 := by
    have : ((2 ^ k.toNat : Nat) : Int) ≤ ((2 ^ 49 : Nat) : Int) := Int.ofNat_le.2 b
    simpa using this
  have b3 : (0 : Int) ≤ (2 : Int) ^ k.toNat := Int.le_of_lt (Int.pow_pos (by omega))
  have b4 : n * 2 ^ k.toNat ≤ 127 * 562949953421312 := Int.mul_le_mul (by omega) b2 b3 (by omega)
  have b5 : 0 ≤ n * 2 ^ k.toNat := Int.mul_nonneg h0 b3
  have hw : IntKind.i64.wrap (n * 2 ^ k.toNat) = n * 2 ^ k.toNat := w64 (by omega) (by omega)
  have hn : ¬ k < 0 := by omega
  simp [eqGuard, binOp, Op.shift, IntKind.bits, hn, e, hw]
  rfl
end
def cfg (f c g p : Int) : Value := .agg #[.int .i64 f, .int .i64 c, .int .i64 g, .int .i64 p]
def fitsB (f c g p : Int) : Bool := decide (1 ≤ f) && decide (f ≤ 4) && decide (1 ≤ c) && decide (c ≤ 16) && decide (1 ≤ g) && decide (g ≤ 4) && decide (1 ≤ p) && decide (p ≤ 64)
theorem fitsB_iff {f c g p : Int} : fitsB f c g p = true ↔ 1 ≤ f ∧ f ≤ 4 ∧ 1 ≤ c ∧ c ≤ 16 ∧ 1 ≤ g ∧ g ≤ 4 ∧ 1 ≤ p ∧ p ≤ 64 := by
  simp only [fitsB, Bool.and_eq_true, decide_eq_true_eq, and_assoc]
section
variable {h : PH} {R : AEnd → PH → Prop} {f c g p : Int}
theorem fits_ok (hR : R (.ret (.bool (fitsB f c g p))) h) : ACalls Tryz.prog 8 #[cfg f c g p] h R := by
  refine ACalls.drop (call8 ?_)
  unfold sh8
  refine vNew_gen fun t G ht s1 hG => ?_
  have l0 : ∀ K, vLoad none (.pointer (some ⟨t, 0, none⟩)) G K ↔ K (.int .i64 f) := fun K => vLoad_1 hG rfl
  have l1 : ∀ K, vLoad none (.pointer (some ⟨t, 1, none⟩)) G K ↔ K (.int .i64 c) := fun K => vLoad_1 hG rfl
  have l2 : ∀ K, vLoad none (.pointer (some ⟨t, 2, none⟩)) G K ↔ K (.int .i64 g) := fun K => vLoad_1 hG rfl
  have l3 : ∀ K, vLoad none (.pointer (some ⟨t, 3, none⟩)) G K ↔ K (.int .i64 p) := fun K => vLoad_1 hG rfl
  have fin : ∀ b, fitsB f c g p = b → ∃ g, Sub g G ∧ R (.ret (.bool b)) g := fun b e => ⟨h, s1, e ▸ hR⟩
  by_cases h1 : 1 ≤ f
  · by_cases h2 : f ≤ 4
    · by_cases h3 : 1 ≤ c
      · by_cases h4 : c ≤ 16
        · by_cases h5 : 1 ≤ g
          · by_cases h6 : g ≤ 4
            · by_cases h7 : 1 ≤ p
              · by_cases h8 : p ≤ 64
                · simp [l0, l1, l2, l3, h1, h2, h3, h4, h5, h6, h7, h8]; exact fin _ (by simp [fitsB, h1, h2, h3, h4, h5, h6, h7, h8])
                · simp [l0, l1, l2, l3, h1, h2, h3, h4, h5, h6, h7, h8]; exact fin _ (by simp [fitsB, h8])
              · simp [l0, l1, l2, l3, h1, h2, h3, h4, h5, h6, h7]; exact fin _ (by simp [fitsB, h7])
            · simp [l0, l1, l2, l3, h1, h2, h3, h4, h5, h6]; exact fin _ (by simp [fitsB, h6])
          · simp [l0, l1, l2, l3, h1, h2, h3, h4, h5]; exact fin _ (by simp [fitsB, h5])
        · simp [l0, l1, l2, l3, h1, h2, h3, h4]; exact fin _ (by simp [fitsB, h4])
      · simp [l0, l1, l2, l3, h1, h2, h3]; exact fin _ (by simp [fitsB, h3])
    · simp [l0, l1, l2, l3, h1, h2]; exact fin _ (by simp [fitsB, h2])
  · simp [l0, l1, l2, l3, h1]; exact fin _ (by simp [fitsB, h1])
end

/-! ### the bound -/
def m16 (v : Int) (k : Nat) : Nat := min (v.toNat + k) 16
def sumB (p v : Int) : Nat → Int
  | 0 => 40
  | k + 1 => sumB p v k + (2 * (p * 2 ^ m16 v k) + 12)
theorem m16_le (v : Int) (k : Nat) : m16 v k ≤ 16 := Nat.min_le_right _ _
theorem pow16 {m : Nat} (hm : m ≤ 16) : (1 : Int) ≤ 2 ^ m ∧ (2 : Int) ^ m ≤ 65536 := by
  have h1 : 2 ^ m ≤ 2 ^ 16 := Nat.pow_le_pow_right (by omega) hm
  have h2 : 1 ≤ 2 ^ m := Nat.one_le_two_pow
  have e : ((2 ^ m : Nat) : Int) = (2 : Int) ^ m := by simp
  omega
theorem pp_le {p : Int} {m : Nat} (h1 : 1 ≤ p) (h2 : p ≤ 64) (hm : m ≤ 16) : 0 ≤ p * 2 ^ m ∧ p * 2 ^ m ≤ 4194304 := by
  have := pow16 hm
  constructor
  · exact Int.mul_nonneg (by omega) (by omega)
  · exact Int.le_trans (Int.mul_le_mul h2 this.2 (by omega) (by omega)) (by omega)
theorem sumB_le {p v : Int} (h1 : 1 ≤ p) (h2 : p ≤ 64) : ∀ k : Nat, 0 ≤ sumB p v k ∧ sumB p v k ≤ 40 + k * 8388620
  | 0 => by simp [sumB]
  | k + 1 => by
    have := sumB_le (v := v) h1 h2 k
    have := pp_le h1 h2 (m16_le v k)
    simp only [sumB]
    omega
def bnd (f c g p v : Int) : Int := if fitsB f c g p = true ∧ 0 ≤ v ∧ v ≤ 1048576 then sumB p v (f.toNat + 3) else 0

section
variable {h : PH} {R : AEnd → PH → Prop} {f c g p v : Int}
theorem bound_ok (hR : R (.ret (.int .i64 (bnd f c g p v))) h) : ACalls Tryz.prog 19 #[cfg f c g p, .int .i64 v] h R := by
  refine ACalls.drop (call19 ?_)
  unfold sh19
  refine vNew_gen fun t G ht s1 hG => ?_
  rw [vLoad_n hG (by show 0 + 4 ≤ 4; omega)]
  refine fits_ok (f := f) (c := c) (g := g) (p := p) ?_
  simp only [AEnd.elim]
  have fin : ∀ x, bnd f c g p v = x → ∃ g, Sub g G ∧ R (.ret (.int .i64 x)) g := fun b e => ⟨h, s1, e ▸ hR⟩
  by_cases h0 : fitsB f c g p = true
  rotate_left
  · rw [Bool.not_eq_true] at h0
    simp [h0]
    exact fin _ (by simp [bnd, h0])
  by_cases h1 : v < 0
  · simp [h0, h1]
    exact fin _ (by unfold bnd; rw [if_neg (by omega)])
  by_cases h2 : 1048576 < v
  · simp [h0, h1, h2]
    exact fin _ (by unfold bnd; rw [if_neg (by omega)])
  obtain ⟨f1, f2, -, -, -, -, p1, p2⟩ := fitsB_iff.1 h0
  have l0 : ∀ K, vLoad none (.pointer (some ⟨t, 0, none⟩)) G K ↔ K (.int .i64 f) := fun K => vLoad_1 hG rfl
  simp only [h0, h1, h2, vUn_not, Bool.not_true, boolOf_b, gq_b, vBin_lss, decide_false, decide_true, vPick_b, cond_true, cond_false, vBin_gtr, dIf_b, vFA_p, l0, vBin_add, reduceCtorEq, false_imp_iff, true_imp_iff, ne_eq, not_true, not_false_iff, and_true, true_and, Nat.zero_add]
  obtain ⟨fn, rfl⟩ : ∃ fn : Nat, f = fn := ⟨f.toNat, by omega⟩
  rw [w64 (by omega) (by omega)]
  refine lf_intro (fun m s g' => G = g' ∧ ∃ k : Nat, m = fn + 3 - k ∧ k ≤ fn + 3 ∧ s = (.int .i64 (sumB p v k), .int .i64 k)) (fn + 3) ⟨rfl, 0, rfl, by omega, rfl⟩ ?_
  rintro m s g' ⟨rfl, k, em, hk, rfl⟩
  unfold b19_5
  have hb := sumB_le (v := v) p1 p2 k
  have hb2 := pp_le p1 p2 (m16_le v k)
  rw [vBin_lss, dIf_b]
  refine ⟨fun hlt => ?_, fun hge => ?_⟩
  · rw [decide_eq_true_eq] at hlt
    rw [vFA_p, vLoad_1 hG (v := .int .i64 p) rfl, vBin_add, w64 (by omega) (by omega), vMinMax_i]
    have em2 : (if (if false = true then (16 : Int) > v + k else 16 < v + k) then (16 : Int) else v + k) = ((m16 v k : Nat) : Int) := by
      unfold m16; split <;> simp_all <;> omega
    rw [em2, vBin_shl (by omega) (by omega) (by have := m16_le v k; omega) (by omega), Int.toNat_natCast, vBin_mul, w64 (by omega) (by omega), vBin_add, w64 (by omega) (by omega), vBin_add, w64 (by omega) (by omega), vBin_add, w64 (by omega) (by omega)]
    exact ⟨rfl, fn + 3 - (k + 1), by omega, rfl, k + 1, rfl, by omega, by simp [sumB]⟩
  · rw [decide_eq_false_iff_not] at hge
    intro r hr
    simp only at hr
    rw [hr]
    refine fin _ ?_
    have : k = fn + 3 := by omega
    subst this
    unfold bnd
    rw [if_pos ⟨h0, by omega, by omega⟩, Int.toNat_natCast]
theorem inner_in {Kp : List PanicEntry → PH → Prop} {x2 : (Value × Value × Value × Value × Value) → PH → Prop} {kn : (Value × Value × Value × Value) → (Value × Value) → PH → Prop} {q s1 : Value} {v k x : Int} {j : Nat} {g : PH} (h1 : (j : Int) < v + k) (h2 : (j : Int) < 16) (w0 : IntKind.i64.wrap (v + k) = v + k) (w1 : IntKind.i64.wrap (2 * x) = 2 * x)
    (hk : kn (.int .i64 v, q, s1, .int .i64 k) (.int .i64 (2 * x), .int .i64 (j + 1)) g) : b20_9 Kp x2 (.int .i64 v, q, s1, .int .i64 k) kn (.int .i64 x, .int .i64 j) g := by
  unfold b20_9
  have w2 : IntKind.i64.wrap ((j : Int) + 1) = (j : Int) + 1 := w64 (by omega) (by omega)
  simp [w0, w1, w2, h1, h2, hk]
theorem inner_out {Kp : List PanicEntry → PH → Prop} {x2 : (Value × Value × Value × Value × Value) → PH → Prop} {kn : (Value × Value × Value × Value) → (Value × Value) → PH → Prop} {q s1 : Value} {v k x : Int} {j : Nat} {g : PH} (h1 : ¬ ((j : Int) < v + k ∧ (j : Int) < 16)) (w0 : IntKind.i64.wrap (v + k) = v + k)
    (hk : x2 (.int .i64 v, q, s1, .int .i64 k, .int .i64 x) g) : b20_9 Kp x2 (.int .i64 v, q, s1, .int .i64 k) kn (.int .i64 x, .int .i64 j) g := by
  unfold b20_9
  by_cases h2 : (j : Int) < v + k
  · have : ¬ (j : Int) < 16 := fun h => h1 ⟨h2, h⟩
    simp [w0, h2, this, hk]
  · simp [w0, h2, hk]
theorem rbound_ok (hR : R (.ret (.int .i64 (bnd f c g p v))) h) : ACalls Tryz.prog 20 #[cfg f c g p, .int .i64 v] h R := by
  refine ACalls.drop (call20 ?_)
  unfold sh20
  refine vNew_gen fun t G ht s1 hG => ?_
  have l0 : ∀ K, vLoad none (.pointer (some ⟨t, 0, none⟩)) G K ↔ K (.int .i64 f) := fun K => vLoad_1 hG rfl
  have l1 : ∀ K, vLoad none (.pointer (some ⟨t, 1, none⟩)) G K ↔ K (.int .i64 c) := fun K => vLoad_1 hG rfl
  have l2 : ∀ K, vLoad none (.pointer (some ⟨t, 2, none⟩)) G K ↔ K (.int .i64 g) := fun K => vLoad_1 hG rfl
  have l3 : ∀ K, vLoad none (.pointer (some ⟨t, 3, none⟩)) G K ↔ K (.int .i64 p) := fun K => vLoad_1 hG rfl
  have fin : ∀ x, bnd f c g p v = x → ∃ g, Sub g G ∧ R (.ret (.int .i64 x)) g := fun b e => ⟨h, s1, e ▸ hR⟩
  have nofit : fitsB f c g p ≠ true ∨ ¬ (0 ≤ v ∧ v ≤ 1048576) → ∃ g, Sub g G ∧ R (.ret (.int .i64 0)) g := fun hn => fin _ (by
    unfold bnd; rw [if_neg]; rintro ⟨a, b⟩; rcases hn with hn | hn
    · exact hn a
    · exact hn b)
  have nf : ¬ (1 ≤ f ∧ f ≤ 4 ∧ 1 ≤ c ∧ c ≤ 16 ∧ 1 ≤ g ∧ g ≤ 4 ∧ 1 ≤ p ∧ p ≤ 64) → ∃ g, Sub g G ∧ R (.ret (.int .i64 0)) g := fun hn => nofit (.inl fun e => hn (fitsB_iff.1 e))
  by_cases h1 : f < 1
  · simp [l0, l1, l2, l3, h1]; exact nf (by omega)
  by_cases h2 : 4 < f
  · simp [l0, l1, l2, l3, h1, h2]; exact nf (by omega)
  by_cases h3 : c < 1
  · simp [l0, l1, l2, l3, h1, h2, h3]; exact nf (by omega)
  by_cases h4 : 16 < c
  · simp [l0, l1, l2, l3, h1, h2, h3, h4]; exact nf (by omega)
  by_cases h5 : g < 1
  · simp [l0, l1, l2, l3, h1, h2, h3, h4, h5]; exact nf (by omega)
  by_cases h6 : 4 < g
  · simp [l0, l1, l2, l3, h1, h2, h3, h4, h5, h6]; exact nf (by omega)
  by_cases h7 : p < 1
  · simp [l0, l1, l2, l3, h1, h2, h3, h4, h5, h6, h7]; exact nf (by omega)
  by_cases h8 : 64 < p
  · simp [l0, l1, l2, l3, h1, h2, h3, h4, h5, h6, h7, h8]; exact nf (by omega)
  by_cases h9 : v < 0
  · simp [l0, l1, l2, l3, h1, h2, h3, h4, h5, h6, h7, h8, h9]; exact nofit (.inr (by omega))
  by_cases h10 : 1048576 < v
  · simp [l0, l1, l2, l3, h1, h2, h3, h4, h5, h6, h7, h8, h9, h10]; exact nofit (.inr (by omega))
  simp [l0, l1, l2, l3, h1, h2, h3, h4, h5, h6, h7, h8, h9, h10]
  have h0 : fitsB f c g p = true := fitsB_iff.2 (by omega)
  have p1 : 1 ≤ p := by omega
  have p2 : p ≤ 64 := by omega
  obtain ⟨fn, rfl⟩ : ∃ fn : Nat, f = fn := ⟨f.toNat, by omega⟩
  refine lf_intro (fun m s g' => G = g' ∧ ∃ k : Nat, m = fn + 3 - k ∧ k ≤ fn + 3 ∧ s = (.int .i64 (sumB p v k), .int .i64 k)) (fn + 3) ⟨rfl, 0, rfl, by omega, rfl⟩ ?_
  rintro m s g' ⟨rfl, k, em, hk, rfl⟩
  unfold b20_5
  have hb := sumB_le (v := v) p1 p2 k
  have hb2 := pp_le p1 p2 (m16_le v k)
  rw [vFA_p, vLoad_1 hG (v := .int .i64 fn) rfl, vBin_add, w64 (by omega) (by omega), vBin_lss, dIf_b]
  refine ⟨fun hlt => ?_, fun hge => ?_⟩
  · rw [decide_eq_true_eq] at hlt
    rw [vFA_p, vLoad_1 hG (v := .int .i64 p) rfl]
    refine lf_intro (fun m' s' g' => G = g' ∧ ∃ j : Nat, m' = m16 v k - j ∧ j ≤ m16 v k ∧ s' = (.int .i64 (p * 2 ^ j), .int .i64 j)) (m16 v k) ⟨rfl, 0, rfl, by omega, by simp⟩ ?_
    rintro m' s' g' ⟨rfl, j, em', hj, rfl⟩
    have hj2 := pp_le p1 p2 (show j ≤ 16 from Nat.le_trans hj (m16_le v k))
    by_cases hin : j < m16 v k
    · exact inner_in (by unfold m16 at hin; omega) (by unfold m16 at hin; omega) (w64 (by omega) (by omega)) (w64 (by omega) (by omega)) ⟨rfl, m16 v k - (j + 1), by omega, rfl, j + 1, by rfl, by omega, by simp [Int.pow_succ]; ac_rfl⟩
    · have ej : j = m16 v k := by omega
      refine inner_out (by unfold m16 at ej; omega) (w64 (by omega) (by omega)) ?_
      intro r hr
      simp only [Prod.mk.injEq] at hr
      obtain ⟨r1, r2, r5, r6, r7⟩ := hr
      rw [r1, r2, r5, r6, r7, ej, vBin_mul, w64 (by omega) (by omega), vBin_add, w64 (by omega) (by omega), vBin_add, w64 (by omega) (by omega), vBin_add, w64 (by omega) (by omega)]
      exact ⟨rfl, fn + 3 - (k + 1), by omega, rfl, k + 1, rfl, by omega, by simp [sumB]; omega⟩
  · rw [decide_eq_false_iff_not] at hge
    intro r hr
    simp only at hr
    rw [hr]
    refine fin _ ?_
    have : k = fn + 3 := by omega
    subst this
    unfold bnd
    rw [if_pos ⟨h0, by omega, by omega⟩, Int.toNat_natCast]
end
end Go.Pw

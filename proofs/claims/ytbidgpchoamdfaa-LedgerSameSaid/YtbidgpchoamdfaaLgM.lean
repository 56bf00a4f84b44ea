/- Calls and their opposites; records held against records. -/
import Derived.Test.YtbidgpchoamdfaaLgL
set_option linter.unusedSimpArgs false
set_option linter.unusedVariables false
namespace Go.Pw
open Go Go.Proofs

theorem set_back {L : Led} {i j : Nat} {u v : Int} (h : v = L.f i j) : (L.set i j u).set i j v = L := by
  subst h
  cases L with
  | mk goods n f r =>
    simp only [Led.set, Led.mk.injEq, true_and, and_true]
    funext a c
    by_cases e : a = i ∧ c = j
    · obtain ⟨rfl, rfl⟩ := e; simp
    · simp [e]

section
variable {L : Led} {i : Nat} {g n : Int}
theorem partE_set {j : Nat} {v : Int} : partE (L.set i j v) g n = partE L g n := rfl
theorem back_pay (h : Inv L) (hi : i < L.n) (h0 : (payL L i n).1 = 0) : takeL (payL L i n).2 i n = (0, L) := by
  unfold payL at h0 ⊢
  split at h0
  · cases h0
  · rename_i hp
    split at h0
    · cases h0
    · rename_i hc
      rw [if_neg hp, if_neg hc]
      have := h.held i hi
      unfold takeL
      simp only
      rw [partE_set, if_neg hp, set_eq, set_ne (by omega), if_neg (by omega), set_back (by omega)]
theorem back_store (h : Inv L) (hi : i < L.n) (h0 : (storeL L i g n).1 = 0) : fetchL (storeL L i g n).2 i g n = (0, L) := by
  unfold storeL at h0 ⊢
  split at h0
  · cases h0
  · rename_i hp
    split at h0
    · cases h0
    · rename_i hc
      rw [if_neg hp, if_neg hc]
      obtain ⟨m, _, hm, e⟩ := gnat h (Decidable.of_not_not hp)
      have := h.lock i m hi hm
      unfold fetchL
      simp only
      rw [partE_set, if_neg hp, e, set_eq, set_ne (by omega), if_neg (by omega), set_back (by omega)]
theorem back_hold (h : Inv L) (hi : i < L.n) (h0 : (holdL L i n).1 = 0) : freeL (holdL L i n).2 i n = (0, L) := by
  unfold holdL at h0 ⊢
  split at h0
  · cases h0
  · rename_i hp
    split at h0
    · cases h0
    · rename_i hc
      rw [if_neg hp, if_neg hc]
      have := h.pos i 1 hi (by omega)
      unfold freeL
      simp only
      rw [partE_set, if_neg hp, set_eq, if_neg (by omega), set_back (by omega)]
theorem back_lock (h : Inv L) (hi : i < L.n) (h0 : (lockL L i g n).1 = 0) : unlockL (lockL L i g n).2 i g n = (0, L) := by
  unfold lockL at h0 ⊢
  split at h0
  · cases h0
  · rename_i hp
    split at h0
    · cases h0
    · rename_i hc
      rw [if_neg hp, if_neg hc]
      obtain ⟨m, _, hm, e⟩ := gnat h (Decidable.of_not_not hp)
      have := h.pos i (6 + m) hi (by omega)
      unfold unlockL
      simp only
      rw [partE_set, if_neg hp, e, set_eq, if_neg (by omega), set_back (by omega)]
theorem back_on {w : Int} {F : Nat → Int × Led} {G : Led → Nat → Int × Led} (hF : ∀ i, i < L.n → (F i).1 = 0 → (F i).2.n = L.n ∧ G (F i).2 i = (0, L)) (h0 : (onC L w F).1 = 0) :
    onC (onC L w F).2 w (fun i => G (onC L w F).2 i) = (0, L) := by
  by_cases hw : 0 ≤ w ∧ w < L.n
  · obtain ⟨i, rfl⟩ : ∃ i : Nat, w = i := ⟨w.toNat, by omega⟩
    have hi : i < L.n := by omega
    rw [onC_ok hi] at h0 ⊢
    obtain ⟨h1, h2⟩ := hF i hi h0
    rw [onC_ok (by omega)]
    exact h2
  · rw [onC_bad hw] at h0
    cases h0
def kindA (k : Int) (who good n : Int) : ActV := ⟨k, who, 0, good, n, ⟨#[]⟩⟩
theorem rnd_lit : rnd 0 = 0 ∧ rnd 1 = 1 ∧ rnd 2 = 2 ∧ rnd 3 = 3 ∧ rnd 4 = 4 ∧ rnd 5 = 5 ∧ rnd 6 = 6 ∧ rnd 7 = 7 := by decide
theorem back_done (h : Inv L) {who good : Int} (k : Nat) (hk : k < 4) (h0 : (doneL L (kindA (2 * k : Nat) who good n)).1 = 0) :
    doneL (doneL L (kindA (2 * k : Nat) who good n)).2 (kindA (2 * k + 1 : Nat) who good n) = (0, L) := by
  obtain ⟨r0, r1, r2, r3, r4, r5, r6, r7⟩ := rnd_lit
  match k, hk with
  | 0, _ =>
    have e0 : ∀ M, doneL M (kindA (2 * 0 : Nat) who good n) = onC M who fun i => payL M i n := fun M => by simp [doneL, kindA, r0]
    have e1 : ∀ M, doneL M (kindA (2 * 0 + 1 : Nat) who good n) = onC M who fun i => takeL M i n := fun M => by simp [doneL, kindA, r1]
    rw [e0] at h0 ⊢
    rw [e1]
    refine back_on (G := fun M i => takeL M i n) (fun i hi hz => ⟨?_, back_pay h hi hz⟩) h0
    unfold payL; (repeat' split) <;> rfl
  | 1, _ =>
    have e0 : ∀ M, doneL M (kindA (2 * 1 : Nat) who good n) = onC M who fun i => storeL M i good n := fun M => by simp [doneL, kindA, r2]
    have e1 : ∀ M, doneL M (kindA (2 * 1 + 1 : Nat) who good n) = onC M who fun i => fetchL M i good n := fun M => by simp [doneL, kindA, r3]
    rw [e0] at h0 ⊢
    rw [e1]
    refine back_on (G := fun M i => fetchL M i good n) (fun i hi hz => ⟨?_, back_store h hi hz⟩) h0
    unfold storeL; (repeat' split) <;> rfl
  | 2, _ =>
    have e0 : ∀ M, doneL M (kindA (2 * 2 : Nat) who good n) = onC M who fun i => holdL M i n := fun M => by simp [doneL, kindA, r4]
    have e1 : ∀ M, doneL M (kindA (2 * 2 + 1 : Nat) who good n) = onC M who fun i => freeL M i n := fun M => by simp [doneL, kindA, r5]
    rw [e0] at h0 ⊢
    rw [e1]
    refine back_on (G := fun M i => freeL M i n) (fun i hi hz => ⟨?_, back_hold h hi hz⟩) h0
    unfold holdL; (repeat' split) <;> rfl
  | 3, _ =>
    have e0 : ∀ M, doneL M (kindA (2 * 3 : Nat) who good n) = onC M who fun i => lockL M i good n := fun M => by simp [doneL, kindA, r6]
    have e1 : ∀ M, doneL M (kindA (2 * 3 + 1 : Nat) who good n) = onC M who fun i => unlockL M i good n := fun M => by simp [doneL, kindA, r7]
    rw [e0] at h0 ⊢
    rw [e1]
    refine back_on (G := fun M i => unlockL M i good n) (fun i hi hz => ⟨?_, back_lock h hi hz⟩) h0
    unfold lockL; (repeat' split) <;> rfl
end

section
variable {h : PH} {R : AEnd → PH → Prop}
theorem same_ok {h1 h2 : PH} {L M : Led} {n : Nat} {s s' : Value} (h0 : 0 < n) (h16 : n ≤ 16) (hs : OB 32 2 h1 n (recCells L n) h s) (hs' : OB 32 2 h2 n (recCells M n) h s')
    (hT : (∀ i, i < n → payB L i = payB M i) → R (.ret (.bool true)) h) (hF : ¬ (∀ i, i < n → payB L i = payB M i) → R (.ret (.bool false)) h) :
    ACalls Try.prog 13 #[s, s'] h R := by
  refine call13 ?_
  unfold sh13
  obtain ⟨b1, c1, rfl, ld1⟩ := rec_ld hs h0
  obtain ⟨b2, c2, rfl, ld2⟩ := rec_ld hs' h0
  simp
  refine lf_intro (fun m s' g' => ∃ i : Nat, s' = (.bool false, .int .i64 i) ∧ m = n - i ∧ i ≤ n ∧ g' = h ∧ ∀ j, j < i → payB L j = payB M j) n ⟨0, rfl, rfl, by omega, rfl, fun j hj => absurd hj (by omega)⟩ ?_
  rintro m s' g' ⟨i, rfl, rfl, hi, rfl, hall⟩
  by_cases hin : i < n
  · have l1 := fun K => ld1 i hin K
    have l2 := fun K => ld2 i hin K
    have hw : IntKind.i64.wrap ((i : Int) + 1) = (i : Int) + 1 := w64 (by omega) (by omega)
    by_cases he : payB L i = payB M i
    · have key : ∀ (kn : (Value × Value) → (Value × Value) → PH → Prop) Kp x0 xr, kn (.slice (some ⟨b1, 0, none⟩) n c1, .slice (some ⟨b2, 0, none⟩) n c2) (.bool false, .int .i64 ((i : Int) + 1)) g' →
          b13_4 Kp x0 xr (.slice (some ⟨b1, 0, none⟩) n c1, .slice (some ⟨b2, 0, none⟩) n c2) kn (.bool false, .int .i64 i) g' := by
        intro kn Kp x0 xr hk
        unfold b13_4
        simp [hin, l1, l2, rec_neq, he, hw]
        exact hk
      exact key _ _ _ _ ⟨rfl, n - (i + 1), by omega, i + 1, rfl, rfl, by omega, rfl, fun j hj => by
        by_cases e : j = i
        · subst e; exact he
        · exact hall j (by omega)⟩
    · have key : ∀ (kn : (Value × Value) → (Value × Value) → PH → Prop) Kp x0 (xr : Value → PH → Prop), xr (.bool false) g' →
          b13_4 Kp x0 xr (.slice (some ⟨b1, 0, none⟩) n c1, .slice (some ⟨b2, 0, none⟩) n c2) kn (.bool false, .int .i64 i) g' := by
        intro kn Kp x0 xr hk
        unfold b13_4
        simp [hin, l1, l2, rec_neq, he, hw]
        exact hk
      refine key _ _ _ _ ?_
      intro r hr
      rw [show r 4 = _ from hr]
      exact hF fun hh => he (hh i hin)
  · have e : i = n := by omega
    subst e
    unfold b13_4
    simp
    intro r hr
    exact hT hall

theorem backwards_ok {v : Value} {l : List ActV} (hv : ActsAt h v l) (who good n : Int) (hR : R (.ret (.bool true)) h) : ACalls Try.prog 4 #[v, .int .i64 who, .int .i64 good, .int .i64 n] h R := by
  refine ACalls.drop (call4 ?_)
  unfold sh4
  refine begun_ok hv fun g x b L hsub hL hinv hn hx hb _ _ => ?_
  simp [AEnd.elim, vBin_pnil Try.underlying25]
  refine records_ok hL hinv fun g2 s1 ob1 => ?_
  simp only [AEnd.elim]
  rw [hn] at ob1
  have hL2 : LedAt g2 x b L := hL.sub ob1.sub
  have hself : putLed g2 b L = g2 := putLed_self hL2
  have hsub2 : Sub h g2 := hsub.trans ob1.sub
  refine lf_intro (fun m s' g' => ∃ k : Nat, s' = (.bool false, .int .i64 (2 * k : Nat)) ∧ m = 4 - k ∧ k ≤ 4 ∧ g' = g2) 4 ⟨0, rfl, rfl, by omega, rfl⟩ ?_
  rintro m s' g' ⟨k, rfl, rfl, hk, rfl⟩
  by_cases h4 : k < 4
  · have key : ∀ (kn : (Value × Value × Value × Value × Value) → (Value × Value) → PH → Prop) Kp x0 xr, kn (.int .i64 who, .int .i64 good, .int .i64 n, ptr x, s1) (.bool false, .int .i64 ((2 * k : Nat) + 2 : Int)) g' →
        b4_6 Kp x0 xr (.int .i64 who, .int .i64 good, .int .i64 n, ptr x, s1) kn (.bool false, .int .i64 (2 * k : Nat)) g' := by
      intro kn Kp x0 xr hkn
      unfold b4_6
      have h8 : ((2 * k : Nat) : Int) < 8 := by omega
      simp only [vBin_lss, h8, decide_true, dIf_b]
      refine ⟨fun _ => ?_, fun e => absurd e (by simp)⟩
      refine ⟨(kindA (2 * k : Nat) who good n).cells, rfl, ?_⟩
      refine done_ok (a := kindA (2 * k : Nat) who good n) hL2 hinv.small ?_
      have hgn := done_gn L (kindA (2 * k : Nat) who good n)
      by_cases h0 : (doneL L (kindA (2 * k : Nat) who good n)).1 = 0
      · have hbk := back_done (n := n) (who := who) (good := good) hinv k h4 h0
        rw [h0]
        have w1 : IntKind.i64.wrap (((2 * k : Nat) : Int) + 1) = ((2 * k + 1 : Nat) : Int) := by rw [w64 (by omega) (by omega)]; omega
        have w2 : IntKind.i64.wrap (((2 * k : Nat) : Int) + 2) = ((2 * k : Nat) : Int) + 2 := w64 (by omega) (by omega)
        have hL3 : LedAt (putLed g' b (doneL L (kindA (2 * k : Nat) who good n)).2) x b (doneL L (kindA (2 * k : Nat) who good n)).2 := hL2.put hgn.2 hgn.1
        simp only [AEnd.elim, vBin_eql, decide_true, boolOf_b, gq_b, vBin_add, w1, forall_const, ne_eq, not_true_eq_false, false_implies, and_true]
        refine ⟨(kindA (2 * k + 1 : Nat) who good n).cells, rfl, ?_⟩
        refine done_ok (a := kindA (2 * k + 1 : Nat) who good n) hL3 (inv_done hinv _).small ?_
        rw [hbk, putLed_put, hself]
        simp only [AEnd.elim, vBin_neq, decide_true, Bool.not_true, vPick_b, cond_true, dIf_b, Bool.false_eq_true, false_implies, true_and, forall_const, w2]
        exact hkn
      · rw [refused_same _ _ h0, hself]
        have w2 : IntKind.i64.wrap (((2 * k : Nat) : Int) + 2) = ((2 * k : Nat) : Int) + 2 := w64 (by omega) (by omega)
        simp only [AEnd.elim, vBin_eql, h0, decide_false, boolOf_b, gq_b, Bool.false_eq_true, false_implies, ne_eq, not_false_eq_true, true_and, forall_const, boolOf_u, gq_n, vPick_b, cond_false, dIf_b, vBin_add, w2]
        exact hkn
    exact key _ _ _ _ ⟨rfl, 4 - (k + 1), by omega, k + 1, by simp; omega, rfl, by omega, rfl⟩
  · have e4 : k = 4 := by omega
    subst e4
    unfold b4_6
    simp
    intro r hr
    simp only [Prod.mk.injEq] at hr
    obtain ⟨r8, r9, r10⟩ := hr
    rw [r9, r10]
    refine records_ok hL2 hinv fun g4 s2 ob2 => ?_
    rw [hn] at ob2
    simp only [AEnd.elim]
    refine same_ok (by omega) (by omega) ob2 (ob1.up ob2.sub) (fun _ => ?_) (fun hh => absurd (fun _ _ => rfl) hh)
    simp [AEnd.elim]
    refine awake_ok ?_
    simp [AEnd.elim]
    exact ⟨h, hsub2.trans ob2.sub, hR⟩
end
end Go.Pw

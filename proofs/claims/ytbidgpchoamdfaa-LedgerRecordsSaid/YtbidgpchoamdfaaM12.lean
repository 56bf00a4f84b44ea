/- Texts of this claim, one behind the other. -/
import Derived.Test.YtbidgpchoamdfaaM11
/- What was read comes out again: reading is the inverse of writing. (Plain; no program in sight.) -/
set_option linter.unusedSimpArgs false
set_option linter.unusedVariables false
namespace Go.Pw
open Go Go.Proofs

theorem rdN_enc {s : List UInt8} : ∀ (fuel i n at_ N next : Nat), rdN s fuel i n at_ = .ok N next → ∃ m, N = n + m * 128 ^ i ∧ s.drop at_ = encN m ++ s.drop next ∧ (0 < i → 0 < m)
  | 0, i, n, at_, N, next, h => by rw [rdN] at h; cases h
  | fuel + 1, i, n, at_, N, next, h => by
    rw [rdN] at h
    cases hc : s[at_]? with
    | none => rw [hc] at h; cases h
    | some c =>
      rw [hc] at h
      simp only at h
      have hd : s.drop at_ = c :: s.drop (at_ + 1) := by
        obtain ⟨hl, he⟩ := List.getElem?_eq_some_iff.1 hc
        rw [List.drop_eq_getElem_cons hl, he]
      have h256 : c.toNat < 256 := c.toNat_lt
      split at h
      · rename_i hge
        split at h
        · cases h
        · obtain ⟨m', e1, e2, e3⟩ := rdN_enc fuel _ _ _ _ _ h
          have hm := e3 (by omega)
          refine ⟨c.toNat % 128 + 128 * m', ?_, ?_, fun _ => by omega⟩
          · rw [e1, Nat.pow_succ, Nat.add_mul, Nat.add_assoc]
            congr 1
            congr 1
            rw [Nat.mul_comm (128 ^ i) 128, ← Nat.mul_assoc, Nat.mul_comm m' 128]
          · rw [hd, e2, encN_big (n := c.toNat % 128 + 128 * m') (by omega), show (c.toNat % 128 + 128 * m') / 128 = m' by omega, show (c.toNat % 128 + 128 * m') % 128 + 128 = c.toNat by omega]
            simp
      · rename_i hlt
        split at h
        · cases h
        · rename_i hn
          cases h
          refine ⟨c.toNat, by rw [show c.toNat % 128 = c.toNat by omega], ?_, fun hi => by
            rcases Nat.eq_zero_or_pos c.toNat with hz | hz
            · exact absurd (.inl ⟨hz, hi⟩) hn
            · exact hz⟩
          rw [hd, encN_small (by omega)]
          simp
theorem rdNum_enc {s : List UInt8} {at_ N next : Nat} (h : rdNum s at_ = .ok N next) : s.drop at_ = encN N ++ s.drop next := by
  obtain ⟨m, e1, e2, _⟩ := rdN_enc _ _ _ _ _ _ h
  rw [e2, e1]
  simp
theorem rNums_enc {s : ByteArray} : ∀ (k a : Nat) (l : List Nat) (e : Nat), rNums s k a = some (l, e) → s.data.toList.drop a = l.flatMap encN ++ s.data.toList.drop e
  | 0, a, l, e, h => by cases h; rfl
  | k + 1, a, l, e, h => by
    rw [rNums_step] at h
    cases h1 : rOne s a with
    | none => rw [h1] at h; cases h
    | some p =>
      rw [h1] at h
      simp only at h
      cases h2 : rNums s k p.2 with
      | none => rw [h2] at h; cases h
      | some q =>
        rw [h2] at h
        simp only at h
        cases h
        have h3 := rNums_enc k p.2 q.1 q.2 h2
        unfold rOne at h1
        cases h4 : rdNum s.data.toList a with
        | bad e => rw [h4] at h1; cases h1
        | ok n next =>
          rw [h4] at h1
          simp only at h1
          split at h1
          · cases h1
          · cases h1
            rw [rdNum_enc h4, h3]
            simp
theorem rdTxt_enc {s : ByteArray} {at_ next : Nat} {t : ByteArray} (h : rdTxt s at_ = .ok t next) : s.data.toList.drop at_ = (encN t.size ++ t.data.toList) ++ s.data.toList.drop next := by
  unfold rdTxt at h
  cases h1 : rdNum s.data.toList at_ with
  | bad e => rw [h1] at h; cases h
  | ok n nx =>
    rw [h1] at h
    simp only at h
    split at h
    · cases h
    · split at h
      · cases h
      · rename_i hb hz
        cases h
        have hsz : (s.extract nx (nx + n)).size = n := by rw [ByteArray.size_extract]; omega
        rw [hsz, rdNum_enc h1, List.append_assoc]
        congr 1
        have : (s.extract nx (nx + n)).data.toList = (s.data.toList.drop nx).take n := by
          rw [ByteArray.data_extract, Array.toList_extract, List.extract_eq_take_drop]
          congr 1
          omega
        rw [this, ← List.drop_drop, List.take_append_drop]
theorem rRead_enc {s : ByteArray} {g : Nat} {l : List Nat} {t : ByteArray} (h : rRead s g = some (l, t)) : s.data.toList = l.flatMap encN ++ (encN t.size ++ t.data.toList) ∧ l = (List.range (3 + 2 * g)).map (vN s) := by
  unfold rRead at h
  cases hr : rNums s (3 + 2 * g) 0 with
  | none => rw [hr] at h; cases h
  | some p =>
    obtain ⟨l', e⟩ := p
    rw [hr] at h
    simp only at h
    cases ht : rdTxt s e with
    | bad er => rw [ht] at h; cases h
    | ok t' next =>
      rw [ht] at h
      simp only at h
      split at h
      · rename_i hn
        cases h
        obtain ⟨a1, a2, a3, a4⟩ := (rNums_vN s (3 + 2 * g)).2 l e hr
        refine ⟨?_, ?_⟩
        · have h1 := rNums_enc _ _ _ _ hr
          rw [List.drop_zero, rdTxt_enc ht, hn.1] at h1
          rw [h1, List.drop_eq_nil_of_le (by rw [Array.length_toList]; exact Nat.le_refl _), List.append_nil]
        · apply List.ext_getElem?
          intro j
          rw [List.getElem?_map]
          by_cases hj : j < 3 + 2 * g
          · rw [a4 j hj, List.getElem?_range hj]; rfl
          · rw [List.getElem?_eq_none (by omega), List.getElem?_eq_none (by simp; omega)]; rfl
      · cases h
theorem may_inv {M : Led} {i : Nat} {s : ByteArray} {at_ : Nat} {t : ByteArray} (h : mayRead M i s at_ = some t) : M.f i 1 ≤ M.f i 0 ∧ (∀ j, j < 4 → M.f i (6 + j) ≤ M.f i (2 + j)) := by
  unfold mayRead at h
  split at h
  · cases h
  · split at h
    · cases h
    · split at h
      · rename_i hc
        exact ⟨hc.2.2.1, hc.2.2.2.2⟩
      · cases h
theorem rd_pay {L : Led} {k g : Nat} {s : ByteArray} (hg : g ≤ 4) (hgl : L.goods = (g : Int)) (hb : Blank L k) {t : ByteArray} (h : mayRead (ldK L k s g g) k s (atN s (3 + g + g)) = some t) : payB ((ldK L k s g g).setR k t) k = s.data.toList := by
  cases hr : rRead s g with
  | none => rw [rd_none hg hb hr] at h; cases h
  | some p =>
    obtain ⟨l, t'⟩ := p
    obtain ⟨m1, _⟩ := rd_some hg hb hr
    rw [m1] at h
    cases h
    obtain ⟨h1, h2⟩ := rRead_enc hr
    rw [h1]
    have hgn : ((ldK L k s g g).setR k t).goods.toNat = g := by
      have : ((ldK L k s g g).setR k t).goods = L.goods := (ldK_gn L k s g g).2
      rw [this, hgl]; rfl
    have hrr : ((ldK L k s g g).setR k t).r k = t := by simp [Led.setR]
    unfold payB
    rw [hrr]
    congr 1
    have hN : numsOf ((ldK L k s g g).setR k t) k = l.map fun (n : Nat) => (n : Int) := by
      rw [h2]
      unfold numsOf
      rw [hgn]
      have f : ∀ j, ((ldK L k s g g).setR k t).f k j = (ldK L k s g g).f k j := fun j => rfl
      have e3 : List.range (3 + 2 * g) = [0, 1, 2] ++ (List.range g).map (3 + ·) ++ (List.range g).map (3 + g + ·) := by
        rw [show 3 + 2 * g = 3 + g + g by omega, List.range_add, List.range_add]
        rfl
      rw [e3]
      simp only [List.map_append, List.map_map, List.map_cons, List.map_nil]
      congr 1
      · congr 1
        · rw [f, f, f, ldK_f L k s g hg g hg, ldK_f L k s g hg g hg, ldK_f L k s g hg g hg]
          simp
        · apply List.map_congr_left
          intro j hj
          have hjg := List.mem_range.1 hj
          rw [f, ldK_f L k s g hg g hg, if_pos rfl, if_neg (by omega), if_neg (by omega), if_neg (by omega), if_pos (by omega)]
          show ((vN s (1 + (2 + j)) : Nat) : Int) = ((vN s (3 + j) : Nat) : Int)
          rw [show 1 + (2 + j) = 3 + j by omega]
      · apply List.map_congr_left
        intro j hj
        have hjg := List.mem_range.1 hj
        rw [f, ldK_f L k s g hg g hg, if_pos rfl, if_neg (by omega), if_neg (by omega), if_neg (by omega), if_neg (by omega), if_pos (by omega)]
        show ((vN s (3 + g + (6 + j - 6)) : Nat) : Int) = ((vN s (3 + g + j) : Nat) : Int)
        rw [show 3 + g + (6 + j - 6) = 3 + g + j by omega]
    rw [hN]
    unfold encL
    rw [List.flatMap_map]
    rfl

theorem ofL_all {c g : Int} {l : List (ByteArray × ByteArray)} (hg0 : 0 ≤ g) (hg : g ≤ 4) : ∀ (k : Nat) (L : Led), ofL c g l k = some L → ∀ i, i < k → ∃ a, l[i]? = some a ∧ a.1 = keyB i ∧ payB L i = a.2.data.toList ∧ L.f i 1 ≤ L.f i 0 ∧ ∀ j, j < 4 → L.f i (6 + j) ≤ L.f i (2 + j)
  | 0, L, h, i, hi => absurd hi (by omega)
  | k + 1, L, h, i, hi => by
    rw [ofL] at h
    split at h
    · rename_i M a hM ha
      have ih := ofL_all hg0 hg k M hM
      have hbl := ofL_blank hg0 hg k M hM
      obtain ⟨hMn, hMg⟩ := ofL_gn k M hM
      split at h
      · rename_i hkey
        split at h
        · rename_i t ht
          cases h
          obtain ⟨gn, hgn⟩ : ∃ gn : Nat, g = gn := ⟨g.toNat, by omega⟩
          subst hgn
          rw [Int.toNat_natCast] at ht ⊢
          by_cases e : i = k
          · subst e
            obtain ⟨c1, c2⟩ := may_inv ht
            exact ⟨a, ha, hkey, rd_pay (by omega) hMg (hbl.1 i (by omega)).1 ht, c1, c2⟩
          · obtain ⟨a', b1, b2, b3, b4, b5⟩ := ih i (by omega)
            have hf : ∀ j, ((ldK M k a.2 gn gn).setR k t).f i j = M.f i j := fun j => by
              show (ldK M k a.2 gn gn).f i j = _
              rw [ldK_f M k a.2 gn (by omega) gn (by omega), if_neg e]
            have hr : ((ldK M k a.2 gn gn).setR k t).r i = M.r i := by
              simp only [Led.setR, if_neg e, ldK_r]
            have hgo : ((ldK M k a.2 gn gn).setR k t).goods = M.goods := (ldK_gn M k a.2 gn gn).2
            refine ⟨a', b1, b2, ?_, by rw [hf, hf]; exact b4, fun j hj => by rw [hf, hf]; exact b5 j hj⟩
            rw [← b3]
            exact payB_same ⟨hf, hr⟩ hgo
        · cases h
      · cases h
    · cases h
theorem ofR_inv {c g : Int} {l : List (ByteArray × ByteArray)} {L : Led} (hc : 1 ≤ c) (hc16 : c ≤ 16) (hg1 : 1 ≤ g) (hg : g ≤ 4) (h : ofR c g l = some L) : Inv L ∧ L.n = l.length ∧ L.n = c.toNat ∧ L.goods = g ∧ ∀ i, i < L.n → ∃ a, l[i]? = some a ∧ a.1 = keyB i ∧ payB L i = a.2.data.toList := by
  unfold ofR at h
  split at h
  · rename_i hl
    split at h
    · rename_i M hM
      split at h
      · rename_i ht
        cases h
        obtain ⟨hn, hgd⟩ := ofL_gn _ L hM
        have hall := ofL_all (by omega) hg _ L hM
        have hs := ofL_small hc16 hg1 hg _ L hM
        refine ⟨⟨fun i j hi hj => (hs.num i j hi hj).1, ht.1, ht.2, fun i hi => ?_, fun i j hi hj => ?_, fun i hi => (hs.num i 10 hi (by omega)).2, hs.cl, hs.gd, by omega, hs.rep⟩, by omega, hn, hgd, fun i hi => ?_⟩
        · obtain ⟨_, _, _, _, b4, _⟩ := hall i (by omega); exact b4
        · obtain ⟨_, _, _, _, _, b5⟩ := hall i (by omega); exact b5 j hj
        · obtain ⟨a, b1, b2, b3, _⟩ := hall i (by omega); exact ⟨a, b1, b2, b3⟩
      · cases h
    · cases h
  · cases h
end Go.Pw

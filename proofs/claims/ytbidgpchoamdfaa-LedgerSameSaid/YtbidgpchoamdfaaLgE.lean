/- What every call keeps: nothing below 0, nobody holds more than there is, no total above the greatest. Then chapter 6's example. -/
import Derived.Test.YtbidgpchoamdfaaLgD
set_option linter.unusedSimpArgs false
set_option linter.unusedVariables false
namespace Go.Pw
open Go Go.Proofs

structure Inv (L : Led) : Prop where
  pos : ∀ i j, i < L.n → j < 11 → 0 ≤ L.f i j
  cash : cashOf L ≤ 1099511627776
  good : ∀ j, j < 4 → goodOf L j ≤ 1099511627776
  held : ∀ i, i < L.n → L.f i 1 ≤ L.f i 0
  lock : ∀ i j, i < L.n → j < 4 → L.f i (6 + j) ≤ L.f i (2 + j)
  stamp : ∀ i, i < L.n → L.f i 10 ≤ 1099511627776
  cl : L.n ≤ 16
  gd : L.goods ≤ 4
  g0 : 1 ≤ L.goods
  rep : ∀ i, i < L.n → (L.r i).size ≤ 256

theorem sumN_ge {g : Nat → Int} : ∀ (k : Nat), (∀ i, i < k → 0 ≤ g i) → ∀ i, i < k → g i ≤ sumN g k
  | 0, _, i, hi => absurd hi (by omega)
  | k + 1, h, i, hi => by
    have h0 : 0 ≤ sumN g k := by
      have : ∀ m, m ≤ k → 0 ≤ sumN g m := fun m => by
        induction m with
        | zero => intro _; simp [sumN]
        | succ m ih => intro hm; simp only [sumN]; have := ih (by omega); have := h m (by omega); omega
      exact this k (Nat.le_refl _)
    simp only [sumN]
    by_cases e : i = k
    · subst e; omega
    · have := sumN_ge k (fun i hi => h i (by omega)) i (by omega)
      have := h k (by omega)
      omega
theorem sumN_congr {g g' : Nat → Int} : ∀ (k : Nat), (∀ i, i < k → g i = g' i) → sumN g k = sumN g' k
  | 0, _ => rfl
  | k + 1, h => by simp only [sumN]; rw [sumN_congr k (fun i hi => h i (by omega)), h k (by omega)]
theorem sumN_put {g : Nat → Int} {a : Nat} {v : Int} : ∀ (k : Nat), a < k → sumN (fun i => if i = a then v else g i) k = sumN g k + v - g a
  | 0, h => absurd h (by omega)
  | k + 1, h => by
    simp only [sumN]
    by_cases e : a = k
    · subst e
      rw [sumN_congr (g' := g) a (fun i hi => if_neg (by omega)), if_pos rfl]; omega
    · rw [sumN_put k (by omega), if_neg (by omega)]; omega

theorem Inv.small {L : Led} (h : Inv L) : L.small where
  num i j hi hj := by
    refine ⟨h.pos i j hi hj, ?_⟩
    have hc : L.f i 0 ≤ 1099511627776 := Int.le_trans (sumN_ge (g := fun i => L.f i 0) L.n (fun a ha => h.pos a 0 ha (by omega)) i hi) h.cash
    have hg : ∀ m, m < 4 → L.f i (2 + m) ≤ 1099511627776 := fun m hm => Int.le_trans (sumN_ge (g := fun i => L.f i (2 + m)) L.n (fun a ha => h.pos a (2 + m) ha (by omega)) i hi) (h.good m hm)
    match j, hj with
    | 0, _ => exact hc
    | 1, _ => exact Int.le_trans (h.held i hi) hc
    | 2, _ => exact hg 0 (by omega)
    | 3, _ => exact hg 1 (by omega)
    | 4, _ => exact hg 2 (by omega)
    | 5, _ => exact hg 3 (by omega)
    | 6, _ => exact Int.le_trans (h.lock i 0 hi (by omega)) (hg 0 (by omega))
    | 7, _ => exact Int.le_trans (h.lock i 1 hi (by omega)) (hg 1 (by omega))
    | 8, _ => exact Int.le_trans (h.lock i 2 hi (by omega)) (hg 2 (by omega))
    | 9, _ => exact Int.le_trans (h.lock i 3 hi (by omega)) (hg 3 (by omega))
    | 10, _ => exact h.stamp i hi
    | n + 11, hj => exact absurd hj (by omega)
  cl := h.cl
  gd := h.gd
  rep := h.rep

theorem sum_set (L : Led) {i j c : Nat} {v : Int} (hi : i < L.n) : sumN (fun a => (L.set i j v).f a c) L.n = if c = j then sumN (fun a => L.f a c) L.n + v - L.f i c else sumN (fun a => L.f a c) L.n := by
  by_cases e : c = j
  · subst e
    rw [if_pos rfl, ← sumN_put (g := fun a => L.f a c) L.n hi]
    apply sumN_congr
    intro a _
    simp [Led.set]
  · rw [if_neg e]
    apply sumN_congr
    intro a _
    simp [Led.set, e]

theorem Inv.set {L : Led} (h : Inv L) {i j : Nat} {v : Int} (hi : i < L.n) (hj : j < 11) (hv : 0 ≤ v)
    (c0 : j = 0 → L.f i 1 ≤ v ∧ cashOf L + v - L.f i 0 ≤ 1099511627776)
    (c1 : j = 1 → v ≤ L.f i 0)
    (c2 : ∀ m, m < 4 → j = 2 + m → L.f i (6 + m) ≤ v ∧ goodOf L m + v - L.f i (2 + m) ≤ 1099511627776)
    (c3 : ∀ m, m < 4 → j = 6 + m → v ≤ L.f i (2 + m))
    (c4 : j = 10 → v ≤ 1099511627776) : Inv (L.set i j v) where
  pos a c ha hc := by
    have := h.pos a c ha hc
    simp only [Led.set]; split <;> omega
  cash := by
    have e := sum_set L (j := j) (c := 0) (v := v) hi
    unfold cashOf
    have h1 := h.cash
    rw [show (L.set i j v).n = L.n from rfl, e]
    split
    · rename_i e0; have := (c0 e0.symm).2; unfold cashOf at this; omega
    · exact h1
  good m hm := by
    have e := sum_set L (j := j) (c := 2 + m) (v := v) hi
    unfold goodOf
    have h1 := h.good m hm
    rw [show (L.set i j v).n = L.n from rfl, e]
    split
    · rename_i e0; have := (c2 m hm e0.symm).2; unfold goodOf at this; omega
    · exact h1
  held a ha := by
    have := h.held a ha
    simp only [Led.set]
    by_cases e : a = i
    · subst e
      by_cases e0 : j = 0
      · subst e0; have := (c0 rfl).1; simp; omega
      · by_cases e1 : j = 1
        · subst e1; have := c1 rfl; simp; omega
        · rw [if_neg (by omega), if_neg (by omega)]; exact this
    · rw [if_neg (by omega), if_neg (by omega)]; exact this
  lock a m ha hm := by
    have := h.lock a m ha hm
    simp only [Led.set]
    by_cases e : a = i
    · subst e
      by_cases e0 : j = 2 + m
      · have := (c2 m hm e0).1; rw [if_neg (by omega), if_pos (by omega)]; exact this
      · by_cases e1 : j = 6 + m
        · have := c3 m hm e1; rw [if_pos (by omega), if_neg (by omega)]; exact this
        · rw [if_neg (by omega), if_neg (by omega)]; exact this
    · rw [if_neg (by omega), if_neg (by omega)]; exact this
  stamp a ha := by
    have := h.stamp a ha
    simp only [Led.set]; split
    · rename_i e; exact c4 e.2.symm
    · exact this
  cl := h.cl
  gd := h.gd
  g0 := h.g0
  rep := h.rep
theorem Inv.setR {L : Led} (h : Inv L) {i : Nat} {s : ByteArray} (hs : s.size ≤ 256) : Inv (L.setR i s) where
  pos := h.pos
  cash := h.cash
  good := h.good
  held := h.held
  lock := h.lock
  stamp := h.stamp
  cl := h.cl
  gd := h.gd
  g0 := h.g0
  rep a ha := by
    simp only [Led.setR]; split
    · exact hs
    · exact h.rep a ha

section
variable {L : Led} {i j : Nat} {g n : Int}
theorem gnat {L : Led} {g n : Int} (h : Inv L) (hp : partE L g n = 0) : ∃ m : Nat, g = m ∧ m < 4 ∧ g.toNat = m := by
  have := partE_n hp
  have := h.gd
  exact ⟨g.toNat, by omega, by omega, rfl⟩
theorem inv_pay (h : Inv L) (hi : i < L.n) : Inv (payL L i n).2 := by
  unfold payL
  split
  · exact h
  · rename_i hp
    have hn := partE_n (Decidable.of_not_not hp)
    split
    · exact h
    · have := h.held i hi
      have := h.pos i 0 hi (by omega)
      exact h.set hi (by omega) (by omega) (fun _ => ⟨by omega, by omega⟩) (fun e => absurd e (by omega)) (fun m hm e => absurd e (by omega)) (fun m hm e => absurd e (by omega)) (fun e => absurd e (by omega))
theorem inv_take (h : Inv L) (hi : i < L.n) : Inv (takeL L i n).2 := by
  unfold takeL
  split
  · exact h
  · rename_i hp
    have hn := partE_n (Decidable.of_not_not hp)
    split
    · exact h
    · have := h.held i hi
      have := h.pos i 1 hi (by omega)
      have := h.cash
      exact h.set hi (by omega) (by omega) (fun _ => ⟨by omega, by omega⟩) (fun e => absurd e (by omega)) (fun m hm e => absurd e (by omega)) (fun m hm e => absurd e (by omega)) (fun e => absurd e (by omega))
theorem inv_hold (h : Inv L) (hi : i < L.n) : Inv (holdL L i n).2 := by
  unfold holdL
  split
  · exact h
  · rename_i hp
    have hn := partE_n (Decidable.of_not_not hp)
    split
    · exact h
    · have := h.pos i 1 hi (by omega)
      exact h.set hi (by omega) (by omega) (fun e => absurd e (by omega)) (fun e => by omega) (fun m hm e => absurd e (by omega)) (fun m hm e => absurd e (by omega)) (fun e => absurd e (by omega))
theorem inv_free (h : Inv L) (hi : i < L.n) : Inv (freeL L i n).2 := by
  unfold freeL
  split
  · exact h
  · rename_i hp
    have hn := partE_n (Decidable.of_not_not hp)
    split
    · exact h
    · have := h.held i hi
      exact h.set hi (by omega) (by omega) (fun e => absurd e (by omega)) (fun e => by omega) (fun m hm e => absurd e (by omega)) (fun m hm e => absurd e (by omega)) (fun e => absurd e (by omega))
theorem inv_store (h : Inv L) (hi : i < L.n) : Inv (storeL L i g n).2 := by
  unfold storeL
  split
  · exact h
  · rename_i hp
    have hn := partE_n (Decidable.of_not_not hp)
    obtain ⟨m, _, hm, e⟩ := gnat h (Decidable.of_not_not hp)
    rw [e]
    split
    · exact h
    · have := h.lock i m hi hm
      have := h.pos i (2 + m) hi (by omega)
      exact h.set hi (by omega) (by omega) (fun e => absurd e (by omega)) (fun e => absurd e (by omega)) (fun m' hm' e => by (have em : m = m' := (by omega)); subst em; exact ⟨by omega, by omega⟩) (fun m hm e => absurd e (by omega)) (fun e => absurd e (by omega))
theorem inv_fetch (h : Inv L) (hi : i < L.n) : Inv (fetchL L i g n).2 := by
  unfold fetchL
  split
  · exact h
  · rename_i hp
    have hn := partE_n (Decidable.of_not_not hp)
    obtain ⟨m, _, hm, e⟩ := gnat h (Decidable.of_not_not hp)
    rw [e]
    split
    · exact h
    · have := h.lock i m hi hm
      have := h.pos i (6 + m) hi (by omega)
      have := h.good m hm
      exact h.set hi (by omega) (by omega) (fun e => absurd e (by omega)) (fun e => absurd e (by omega)) (fun m' hm' e => by (have em : m = m' := (by omega)); subst em; exact ⟨by omega, by omega⟩) (fun m hm e => absurd e (by omega)) (fun e => absurd e (by omega))
theorem inv_lock (h : Inv L) (hi : i < L.n) : Inv (lockL L i g n).2 := by
  unfold lockL
  split
  · exact h
  · rename_i hp
    have hn := partE_n (Decidable.of_not_not hp)
    obtain ⟨m, _, hm, e⟩ := gnat h (Decidable.of_not_not hp)
    rw [e]
    split
    · exact h
    · have := h.pos i (6 + m) hi (by omega)
      exact h.set hi (by omega) (by omega) (fun e => absurd e (by omega)) (fun e => absurd e (by omega)) (fun m hm e => absurd e (by omega)) (fun m' hm' e => by (have em : m = m' := (by omega)); subst em; omega) (fun e => absurd e (by omega))
theorem inv_unlock (h : Inv L) (hi : i < L.n) : Inv (unlockL L i g n).2 := by
  unfold unlockL
  split
  · exact h
  · rename_i hp
    have hn := partE_n (Decidable.of_not_not hp)
    obtain ⟨m, _, hm, e⟩ := gnat h (Decidable.of_not_not hp)
    rw [e]
    split
    · exact h
    · have := h.lock i m hi hm
      exact h.set hi (by omega) (by omega) (fun e => absurd e (by omega)) (fun e => absurd e (by omega)) (fun m hm e => absurd e (by omega)) (fun m' hm' e => by (have em : m = m' := (by omega)); subst em; omega) (fun e => absurd e (by omega))
theorem set_eq {L : Led} {i j : Nat} {v : Int} : (L.set i j v).f i j = v := by simp [Led.set]
theorem inv_move (h : Inv L) (hi : i < L.n) (hj : j < L.n) : Inv (moveL L i j n).2 := by
  unfold moveL
  split
  · exact h
  · rename_i hp
    have hn := partE_n (Decidable.of_not_not hp)
    split
    · exact h
    · have h1 := h.held i hi
      have h2 := h.cash
      have i1 : Inv (L.set i 1 (L.f i 1 - n)) := h.set hi (by omega) (by omega) (fun e => absurd e (by omega)) (fun e => by omega) (fun m hm e => absurd e (by omega)) (fun m hm e => absurd e (by omega)) (fun e => absurd e (by omega))
      have e0 : (L.set i 1 (L.f i 1 - n)).f i 0 = L.f i 0 := set_ne (by omega)
      have e1 : (L.set i 1 (L.f i 1 - n)).f i 1 = L.f i 1 - n := set_eq
      have ec : cashOf (L.set i 1 (L.f i 1 - n)) = cashOf L := by unfold cashOf; rw [show (L.set i 1 (L.f i 1 - n)).n = L.n from rfl, sum_set L hi, if_neg (by omega)]
      have i2 : Inv ((L.set i 1 (L.f i 1 - n)).set i 0 ((L.set i 1 (L.f i 1 - n)).f i 0 - n)) := i1.set hi (by omega) (by omega) (fun _ => ⟨by omega, by omega⟩) (fun e => absurd e (by omega)) (fun m hm e => absurd e (by omega)) (fun m hm e => absurd e (by omega)) (fun e => absurd e (by omega))
      have ec2 : cashOf ((L.set i 1 (L.f i 1 - n)).set i 0 ((L.set i 1 (L.f i 1 - n)).f i 0 - n)) = cashOf L - n := by
        unfold cashOf at ec ⊢
        rw [show ((L.set i 1 (L.f i 1 - n)).set i 0 ((L.set i 1 (L.f i 1 - n)).f i 0 - n)).n = (L.set i 1 (L.f i 1 - n)).n from rfl, sum_set (L.set i 1 (L.f i 1 - n)) hi, if_pos rfl]; omega
      unfold moveTo
      simp only
      have hh := i2.held j hj
      have hp2 := i2.pos j 0 hj (by omega)
      exact i2.set hj (by omega) (by omega) (fun _ => ⟨by omega, by omega⟩) (fun e => absurd e (by omega)) (fun m hm e => absurd e (by omega)) (fun m hm e => absurd e (by omega)) (fun e => absurd e (by omega))
theorem inv_hand (h : Inv L) (hi : i < L.n) (hj : j < L.n) : Inv (handL L i j g n).2 := by
  unfold handL
  split
  · exact h
  · rename_i hp
    have hn := partE_n (Decidable.of_not_not hp)
    obtain ⟨m, _, hm, e⟩ := gnat h (Decidable.of_not_not hp)
    rw [e]
    split
    · exact h
    · have h1 := h.lock i m hi hm
      have h2 := h.good m hm
      have i1 : Inv (L.set i (6 + m) (L.f i (6 + m) - n)) := h.set hi (by omega) (by omega) (fun e => absurd e (by omega)) (fun e => absurd e (by omega)) (fun m hm e => absurd e (by omega)) (fun m' hm' e => by (have em : m = m' := (by omega)); subst em; omega) (fun e => absurd e (by omega))
      have e0 : (L.set i (6 + m) (L.f i (6 + m) - n)).f i (2 + m) = L.f i (2 + m) := set_ne (by omega)
      have e1 : (L.set i (6 + m) (L.f i (6 + m) - n)).f i (6 + m) = L.f i (6 + m) - n := set_eq
      have ec : goodOf (L.set i (6 + m) (L.f i (6 + m) - n)) m = goodOf L m := by unfold goodOf; rw [show (L.set i (6 + m) (L.f i (6 + m) - n)).n = L.n from rfl, sum_set L hi, if_neg (by omega)]
      have i2 : Inv ((L.set i (6 + m) (L.f i (6 + m) - n)).set i (2 + m) ((L.set i (6 + m) (L.f i (6 + m) - n)).f i (2 + m) - n)) := i1.set hi (by omega) (by omega) (fun e => absurd e (by omega)) (fun e => absurd e (by omega)) (fun m' hm' e => by (have em : m = m' := (by omega)); subst em; exact ⟨by omega, by omega⟩) (fun m' hm' e => absurd e (by omega)) (fun e => absurd e (by omega))
      have ec2 : goodOf ((L.set i (6 + m) (L.f i (6 + m) - n)).set i (2 + m) ((L.set i (6 + m) (L.f i (6 + m) - n)).f i (2 + m) - n)) m = goodOf L m - n := by
        unfold goodOf at ec ⊢
        rw [show ((L.set i (6 + m) (L.f i (6 + m) - n)).set i (2 + m) ((L.set i (6 + m) (L.f i (6 + m) - n)).f i (2 + m) - n)).n = (L.set i (6 + m) (L.f i (6 + m) - n)).n from rfl, sum_set (L.set i (6 + m) (L.f i (6 + m) - n)) hi, if_pos rfl]; omega
      unfold handTo
      simp only
      have hh := i2.lock j m hj hm
      have hp2 := i2.pos j (2 + m) hj (by omega)
      exact i2.set hj (by omega) (by omega) (fun e => absurd e (by omega)) (fun e => absurd e (by omega)) (fun m' hm' e => by (have em : m = m' := (by omega)); subst em; exact ⟨by omega, by omega⟩) (fun m' hm' e => absurd e (by omega)) (fun e => absurd e (by omega))
theorem inv_mark {s : Int} {t : ByteArray} (h : Inv L) (hi : i < L.n) : Inv (markL L i s t).2 := by
  unfold markL
  split
  · exact h
  · split
    · exact h
    · rename_i hn _
      have : Inv (L.set i 10 s) := h.set hi (by omega) (by omega) (fun e => absurd e (by omega)) (fun e => absurd e (by omega)) (fun m hm e => absurd e (by omega)) (fun m hm e => absurd e (by omega)) (fun e => by omega)
      exact this.setR (by omega)
theorem inv_on {w : Int} {F : Nat → Int × Led} (h : Inv L) (hF : ∀ i, i < L.n → Inv (F i).2) : Inv (onC L w F).2 := by
  unfold onC
  split
  · exact hF _ (by omega)
  · exact h
theorem inv_done (h : Inv L) (a : ActV) : Inv (doneL L a).2 := by
  unfold doneL
  repeat' split
  · exact inv_on h fun i hi => inv_pay h hi
  · exact inv_on h fun i hi => inv_take h hi
  · exact inv_on h fun i hi => inv_store h hi
  · exact inv_on h fun i hi => inv_fetch h hi
  · exact inv_on h fun i hi => inv_hold h hi
  · exact inv_on h fun i hi => inv_free h hi
  · exact inv_on h fun i hi => inv_lock h hi
  · exact inv_on h fun i hi => inv_unlock h hi
  · exact inv_on h fun i hi => inv_on h fun j hj => inv_move h hi hj
  · exact inv_on h fun i hi => inv_on h fun j hj => inv_hand h hi hj
  · exact inv_on h fun i hi => inv_mark h hi
theorem inv_new {c g : Int} (hc : c ≤ 16) (hg : g ≤ 4) (hg0 : 1 ≤ g) : Inv (newLed c g) where
  pos i j _ _ := by simp [newLed]
  cash := by
    have : ∀ k, sumN (fun _ => (0 : Int)) k = 0 := fun k => by induction k with
      | zero => rfl
      | succ k ih => simp [sumN, ih]
    simp only [cashOf, newLed]; rw [this]; omega
  good j _ := by
    have : ∀ k, sumN (fun _ => (0 : Int)) k = 0 := fun k => by induction k with
      | zero => rfl
      | succ k ih => simp [sumN, ih]
    simp only [goodOf, newLed]; rw [this]; omega
  held i _ := by simp [newLed]
  lock i j _ _ := by simp [newLed]
  stamp i _ := by simp [newLed]
  cl := by simp only [newLed]; omega
  gd := hg
  g0 := hg0
  rep i _ := by simp [newLed, ByteArray.size]
end

/-- Of a good that there is not nobody has any. -/
def Zer (L : Led) : Prop := ∀ (i j : Nat), i < L.n → L.goods ≤ (j : Int) → j < 4 → L.f i (2 + j) = 0
theorem Zer.set {L : Led} (h : Zer L) {i c : Nat} {v : Int} (hc : ∀ j : Nat, L.goods ≤ (j : Int) → j < 4 → c ≠ 2 + j) : Zer (L.set i c v) := fun a j ha hj hj4 => by
  rw [set_ne (fun e => hc j hj hj4 e.2.symm)]
  exact h a j ha hj hj4
theorem Zer.setR {L : Led} (h : Zer L) {i : Nat} {v : ByteArray} : Zer (L.setR i v) := h
section
variable {L : Led} {i j : Nat} {g n : Int}
theorem zer_on {w : Int} {F : Nat → Int × Led} (h : Zer L) (hF : ∀ i, Zer (F i).2) : Zer (onC L w F).2 := by
  unfold onC
  split
  · exact hF _
  · exact h
theorem zer_done (h : Zer L) (a : ActV) : Zer (doneL L a).2 := by
  unfold doneL
  repeat' split
  · exact zer_on h fun i => by unfold payL; (repeat' split) <;> first | exact h | exact h.set fun j _ _ => by omega
  · exact zer_on h fun i => by unfold takeL; (repeat' split) <;> first | exact h | exact h.set fun j _ _ => by omega
  · refine zer_on h fun i => ?_
    unfold storeL
    split
    · exact h
    · rename_i hp
      have := partE_n (Decidable.of_not_not hp)
      split
      · exact h
      · exact h.set fun j _ _ => by omega
  · refine zer_on h fun i => ?_
    unfold fetchL
    split
    · exact h
    · rename_i hp
      have := partE_n (Decidable.of_not_not hp)
      split
      · exact h
      · exact h.set fun j _ _ => by omega
  · exact zer_on h fun i => by unfold holdL; (repeat' split) <;> first | exact h | exact h.set fun j _ _ => by omega
  · exact zer_on h fun i => by unfold freeL; (repeat' split) <;> first | exact h | exact h.set fun j _ _ => by omega
  · exact zer_on h fun i => by unfold lockL; (repeat' split) <;> first | exact h | exact h.set fun j _ _ => by omega
  · exact zer_on h fun i => by unfold unlockL; (repeat' split) <;> first | exact h | exact h.set fun j _ _ => by omega
  · exact zer_on h fun i => zer_on h fun j => by unfold moveL moveTo; (repeat' split) <;> first | exact h | exact ((h.set fun j _ _ => by omega).set fun j _ _ => by omega).set fun j _ _ => by omega
  · refine zer_on h fun i => zer_on h fun k => ?_
    unfold handL handTo
    split
    · exact h
    · rename_i hp
      have := partE_n (Decidable.of_not_not hp)
      split
      · exact h
      · refine Zer.set (Zer.set (Zer.set h ?_) ?_) ?_
        · intro j h1 h2; omega
        · intro j h1 h2; have h1 : L.goods ≤ (j : Int) := h1; omega
        · intro j h1 h2; have h1 : L.goods ≤ (j : Int) := h1; omega
  · exact zer_on h fun i => by unfold markL; (repeat' split) <;> first | exact h | exact (h.set fun j _ _ => by omega).setR
theorem zer_new {c g : Int} : Zer (newLed c g) := fun _ _ _ _ _ => rfl
end

end Go.Pw

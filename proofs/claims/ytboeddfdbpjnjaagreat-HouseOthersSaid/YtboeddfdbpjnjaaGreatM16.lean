/- Texts of this claim, one behind the other. -/
import Derived.Test.YtboeddfdbpjnjaaGreatM10
import Derived.Test.YtboeddfdbpjnjaaGreatM14
import Derived.Test.YtboeddfdbpjnjaaGreatM15
import Derived.KernelRfl
/- A house: what requests leave is in order. -/
set_option linter.unusedSimpArgs false
set_option linter.unusedVariables false
namespace Go.Pw
open Go Go.Proofs

theorem putO_ok {B : Bk} (hk : B.ok) (o : Ord) : (putO B o).2.ok := by
  unfold putO
  split
  · exact hk
  · rename_i h1
    split
    · exact hk
    · rename_i h2
      split
      · exact hk
      · rename_i h3
        have hr : rightO o = true := by
          cases h : rightO o with
          | true => rfl
          | false => exact absurd (.inl h) h1
        have hnone : ∀ x ∈ B.l, x.id ≠ o.id := idx_none (by
          cases h : idx B.l o.id with
          | none => rfl
          | some k => rw [h] at h2; exact absurd rfl h2)
        have hnx := hk.nx
        refine ⟨fun x hx => ?_, ?_, ?_, fun x hx => ?_, ?_, ?_⟩
        · rcases List.mem_append.1 hx with hx | hx
          · exact hk.right x hx
          · simp at hx; subst hx; exact hr
        · exact List.pairwise_append.2 ⟨hk.ids, by simp, fun x hx y hy => by simp at hy; subst hy; exact hnone x hx⟩
        · exact List.pairwise_append.2 ⟨hk.pls, by simp, fun x hx y hy => by simp at hy; subst hy; exact (hk.pl x hx).2⟩
        · rcases List.mem_append.1 hx with hx | hx
          · have := hk.pl x hx; simp only; omega
          · simp at hx; subst hx; simp only; omega
        · have := hk.len; simp only [List.length_append, List.length_cons, List.length_nil]; omega
        · simp only; omega
theorem cancelO_ok {B : Bk} (hk : B.ok) (id own : Int) : (cancelO B id own).2.ok := by
  unfold cancelO
  split
  · exact hk
  · rename_i k hk1
    split
    · exact hk
    · split
      · exact hk
      · have hsub : (B.l.eraseIdx k).Sublist B.l := List.eraseIdx_sublist _ _
        exact ⟨fun x hx => hk.right x (hsub.subset hx), hk.ids.sublist hsub, hk.pls.sublist hsub, fun x hx => hk.pl x (hsub.subset hx), Nat.le_trans hsub.length_le hk.len, hk.nx⟩
theorem amendO_ok {B : Bk} (hk : B.ok) (id own p m : Int) : (amendO B id own p m).2.ok := by
  unfold amendO
  split
  · exact hk
  · rename_i k hidx
    split
    · exact hk
    · rename_i o ho
      split
      · exact hk
      · split
        · exact hk
        · rename_i hr0
          have hr : rightO { o with pr := p, am := m } = true := by
            cases h : rightO { o with pr := p, am := m } with
            | true => rfl
            | false => exact absurd h hr0
          have hkl : k < B.l.length := (List.getElem?_eq_some_iff.1 ho).1
          have hom := List.mem_of_getElem? ho
          split
          · refine ⟨fun x hx => ?_, ?_, ?_, fun x hx => ?_, by simp only [List.length_set]; exact hk.len, hk.nx⟩
            · rcases List.mem_or_eq_of_mem_set hx with hx | rfl
              · exact hk.right x hx
              · exact hr
            · rw [List.pairwise_iff_getElem]
              intro i j hi hj hij
              have e1 := List.pairwise_iff_getElem.1 hk.ids i j (by simpa using hi) (by simpa using hj) hij
              have ok : B.l[k] = o := (List.getElem?_eq_some_iff.1 ho).2
              simp only [List.getElem_set]
              split
              · rename_i e; subst e
                rw [ok] at e1
                split
                · omega
                · exact e1
              · split
                · rename_i e; subst e; rw [ok] at e1; exact e1
                · exact e1
            · rw [List.pairwise_iff_getElem]
              intro i j hi hj hij
              have e1 := List.pairwise_iff_getElem.1 hk.pls i j (by simpa using hi) (by simpa using hj) hij
              have ok : B.l[k] = o := (List.getElem?_eq_some_iff.1 ho).2
              simp only [List.getElem_set]
              split
              · rename_i e; subst e
                rw [ok] at e1
                split
                · omega
                · exact e1
              · split
                · rename_i e; subst e; rw [ok] at e1; exact e1
                · exact e1
            · rcases List.mem_or_eq_of_mem_set hx with hx | rfl
              · exact hk.pl x hx
              · exact hk.pl o hom
          · split
            · exact hk
            · have hsub : (B.l.eraseIdx k).Sublist B.l := List.eraseIdx_sublist _ _
              have hnx := hk.nx
              have hlen : (B.l.eraseIdx k).length = B.l.length - 1 := List.length_eraseIdx_of_lt hkl
              refine ⟨fun x hx => ?_, ?_, ?_, fun x hx => ?_, ?_, ?_⟩
              · rcases List.mem_append.1 hx with hx | hx
                · exact hk.right x (hsub.subset hx)
                · simp at hx; subst hx; exact hr
              · refine List.pairwise_append.2 ⟨hk.ids.sublist hsub, by simp, fun x hx y hy => ?_⟩
                simp at hy; subst hy
                simp only
                obtain ⟨i, hik, hi⟩ := List.mem_eraseIdx_iff_getElem?.1 hx
                exact ids_at hk.ids hi ho hik
              · exact List.pairwise_append.2 ⟨hk.pls.sublist hsub, by simp, fun x hx y hy => by simp at hy; subst hy; exact (hk.pl x (hsub.subset hx)).2⟩
              · rcases List.mem_append.1 hx with hx | hx
                · have := hk.pl x (hsub.subset hx); simp only; omega
                · simp at hx; subst hx; simp only; omega
              · have := hk.len; simp only [List.length_append, List.length_cons, List.length_nil, hlen]; omega
              · simp only; omega
theorem putO_own {B : Bk} {o : Ord} {n : Nat} (h : ∀ x ∈ B.l, x.own < n) (ho : o.own < n) : ∀ x ∈ (putO B o).2.l, x.own < n := by
  unfold putO
  repeat' split
  · exact h
  · exact h
  · exact h
  · intro x hx
    rcases List.mem_append.1 hx with hx | hx
    · exact h x hx
    · simp at hx; subst hx; exact ho
theorem cancelO_own {B : Bk} {id own : Int} {n : Nat} (h : ∀ x ∈ B.l, x.own < n) : ∀ x ∈ (cancelO B id own).2.l, x.own < n := by
  unfold cancelO
  repeat' split
  all_goals first | exact h | exact fun x hx => h x ((List.eraseIdx_sublist _ _).subset hx)
theorem amendO_own {B : Bk} {id own p m : Int} {n : Nat} (h : ∀ x ∈ B.l, x.own < n) : ∀ x ∈ (amendO B id own p m).2.l, x.own < n := by
  unfold amendO
  split
  · exact h
  · rename_i k hidx
    split
    · exact h
    · rename_i o ho
      have hom := List.mem_of_getElem? ho
      repeat' split
      all_goals first | exact h | skip
      · intro x hx
        rcases List.mem_or_eq_of_mem_set hx with hx | rfl
        · exact h x hx
        · exact h o hom
      · intro x hx
        rcases List.mem_append.1 hx with hx | hx
        · exact h x ((List.eraseIdx_sublist _ _).subset hx)
        · simp at hx; subst hx; exact h o hom
/-- A house with another ledger, in order. -/
theorem setL_ok {S : Hs} (hk : S.ok) {L : Led} (hL : Inv L) (hg : L.goods = S.L.goods) (hn : L.n = S.L.n) : (S.setL L).ok := by
  have eG : (S.setL L).G = S.G := by unfold Hs.G Hs.setL; simp only; rw [hg]
  exact ⟨hL, by show 1 ≤ L.n; rw [hn]; exact hk.n1, fun i hi => hk.bk i (by rw [eG] at hi; exact hi), fun i hi o ho => by show o.own < L.n; rw [hn]; exact hk.own i (by rw [eG] at hi; exact hi) o ho,
    fun i A w hi ha => by show A.ok ∧ A.ste = 0 ∧ A.n = L.n ∧ 0 ≤ w ∧ w < L.n; rw [hn]; exact hk.au i A w (by rw [eG] at hi; exact hi) ha, hk.now⟩
theorem setBk_ok {S : Hs} (hk : S.ok) {i : Nat} {B : Bk} (hB : B.ok) (ho : ∀ o ∈ B.l, o.own < S.L.n) : (S.setBk i B).ok := by
  refine ⟨hk.led, hk.n1, fun k hi => ?_, fun k hi o h => ?_, hk.au, hk.now⟩
  · show (if k = i then B else S.bk k).ok
    split
    · exact hB
    · exact hk.bk k hi
  · have h2 : o ∈ (if k = i then B else S.bk k).l := h
    split at h2
    · exact ho o h2
    · exact hk.own k hi o h2
theorem setAu_ok {S : Hs} (hk : S.ok) {i : Nat} {A : Auc} {w : Int} (h : A.ok ∧ A.ste = 0 ∧ A.n = S.L.n ∧ 0 ≤ w ∧ w < S.L.n) : (S.setAu i (some (A, w))).ok := by
  refine ⟨hk.led, hk.n1, hk.bk, hk.own, fun k A' w' hi ha => ?_, hk.now⟩
  have ha2 : (if k = i then some (A, w) else S.au k) = some (A', w') := ha
  split at ha2
  · cases ha2; exact h
  · exact hk.au k A' w' hi ha2
section
variable {S : Hs} {who : Nat} {o : OpV}
theorem putH_ok (hk : S.ok) (hw : who < S.L.n) (ho : o.ok) : (putH S who o).2.ok := by
  unfold putH
  simp only
  split
  · exact hk
  · rename_i ht
    have htm := termsH_ok (S := S) (who := who) (o := o) (by simpa using ht)
    have hg := hk.g
    have hgd := ho.good
    split
    · exact hk
    · split
      · exact hk
      · have h1 := holdH_gn S.L who (coverC (decide (o.side = 0)) (termsH S who o).p o.am)
        have h2 := lockH_gn (holdH S.L who (coverC (decide (o.side = 0)) (termsH S who o).p o.am)) who o.good (coverG (decide (o.side = 0)) (termsH S who o).p o.am)
        have hB := putO_ok (hk.bk o.good.toNat (by omega)) (ordOfOp (termsH S who o) who o)
        have hO := putO_own (o := ordOfOp (termsH S who o) who o) (hk.own o.good.toNat (by omega)) (by show (who : Int) < S.L.n; omega)
        exact setL_ok (setBk_ok hk hB hO) (inv_lockH (inv_holdH hk.led hw _) (by rw [h1.2]; exact hw) _ _) (h2.1.trans h1.1) (h2.2.trans h1.2)
theorem amendH_ok (hk : S.ok) (hw : who < S.L.n) (ho : o.ok) : (amendH S who o).2.ok := by
  unfold amendH
  simp only
  split
  · exact hk
  · rename_i ht
    have htm := termsH_ok (S := S) (who := who) (o := o) (by simpa using ht)
    have hg := hk.g
    have hgd := ho.good
    split
    · exact hk
    · split
      · exact hk
      · split
        · exact hk
        · refine setL_ok (setBk_ok hk (amendO_ok (hk.bk o.good.toNat (by omega)) _ _ _ _) (amendO_own (hk.own o.good.toNat (by omega)))) (inv_lockH (inv_holdH hk.led hw _) (by rw [(holdH_gn _ _ _).2]; exact hw) _ _) ((lockH_gn _ _ _ _).1.trans (holdH_gn _ _ _).1) ((lockH_gn _ _ _ _).2.trans (holdH_gn _ _ _).2)
theorem cancelH_ok (hk : S.ok) (hw : who < S.L.n) (ho : o.ok) : (cancelH S who o).2.ok := by
  unfold cancelH
  simp only
  split
  · exact hk
  · have hg := hk.g
    have hgd := ho.good
    split
    · exact hk
    · have hb := setBk_ok (i := o.good.toNat) hk (cancelO_ok (hk.bk o.good.toNat (by omega)) (o.id * 16 + who) who) (cancelO_own (hk.own o.good.toNat (by omega)))
      split
      · exact setL_ok hb (inv_holdH hk.led hw _) (holdH_gn _ _ _).1 (holdH_gn _ _ _).2
      · exact setL_ok hb (inv_lockH hk.led hw _ _) (lockH_gn _ _ _ _).1 (lockH_gn _ _ _ _).2
theorem wantH_ok (hk : S.ok) (hw : who < S.L.n) (ho : o.ok) : (wantH S who o).2.ok := by
  unfold wantH
  split
  · exact hk
  · have hg := hk.g
    have hgd := ho.good
    split
    · exact hk
    · rename_i A w hau
      obtain ⟨a1, a2, a3, a4, a5⟩ := hk.au o.good.toNat A w (by omega) hau
      simp only
      split
      · exact hk
      · split
        · exact hk
        · split
          · exact hk
          · have hb := bidA_keep A who o.am
            exact setL_ok (setAu_ok hk ⟨bidA_ok a1 _ _, by rw [hb.1, a2], by rw [hb.2.2.1, a3], a4, a5⟩) (inv_holdH hk.led hw _) (holdH_gn _ _ _).1 (holdH_gn _ _ _).2
theorem offerH_ok (hk : S.ok) (hw : who < S.L.n) (ho : o.ok) : (offerH S who o).2.ok := by
  unfold offerH
  split
  · exact hk
  · split
    · exact hk
    · split
      · exact hk
      · rename_i hb
        have hb2 := Decidable.not_not.1 hb
        split
        · exact hk
        · split
          · exact hk
          · exact setL_ok (setAu_ok hk ⟨newAuc_ok hb2, rfl, by simp [newAuc], by omega, by omega⟩) (inv_lock hk.led hw) (lockL_gn _ _ _ _).1 (lockL_gn _ _ _ _).2
theorem actH_ok (hk : S.ok) (hw : who < S.L.n) (ho : o.ok) : (actH S who o).S.ok := by
  unfold actH
  repeat' split
  · exact (tickH_ok hk).1
  · exact setL_ok hk (inv_pay hk.led hw) (payL_gn _ _ _).1 (payL_gn _ _ _).2
  · exact setL_ok hk (inv_take hk.led hw) (takeL_gn _ _ _).1 (takeL_gn _ _ _).2
  · exact setL_ok hk (inv_store hk.led hw) (storeL_gn _ _ _ _).1 (storeL_gn _ _ _ _).2
  · exact setL_ok hk (inv_fetch hk.led hw) (fetchL_gn _ _ _ _).1 (fetchL_gn _ _ _ _).2
  · exact offerH_ok hk hw ho
  · exact wantH_ok hk hw ho
  · exact putH_ok hk hw ho
  · exact amendH_ok hk hw ho
  · exact cancelH_ok hk hw ho
  · exact hk
theorem actH_gn (hk : S.ok) : (actH S who o).S.L.goods = S.L.goods ∧ (actH S who o).S.L.n = S.L.n := by
  unfold actH
  repeat' split
  · exact ⟨(tickH_ok hk).2.2.1, (tickH_ok hk).2.1⟩
  · exact payL_gn _ _ _
  · exact takeL_gn _ _ _
  · exact storeL_gn _ _ _ _
  · exact fetchL_gn _ _ _ _
  · exact offerH_gn _ _ _
  · exact wantH_gn _ _ _
  · exact putH_gn _ _ _
  · exact amendH_gn _ _ _
  · exact cancelH_gn _ _ _
  · exact ⟨rfl, rfl⟩
theorem lockL_e (L : Led) (i : Nat) (g n : Int) : (lockL L i g n).1 = 0 ∨ (lockL L i g n).1 = 1 ∨ (lockL L i g n).1 = 61 := by unfold lockL; (repeat' split) <;> simp
theorem putO_e (B : Bk) (o : Ord) : 0 ≤ (putO B o).1 ∧ (putO B o).1 ≤ 100 := by unfold putO; (repeat' split) <;> simp
theorem amendO_e (B : Bk) (a b c d : Int) : 0 ≤ (amendO B a b c d).1 ∧ (amendO B a b c d).1 ≤ 100 := by unfold amendO; (repeat' split) <;> simp
theorem termsH_e (S : Hs) (who : Nat) (o : OpV) : 0 ≤ (termsH S who o).e ∧ (termsH S who o).e ≤ 100 := by
  have := ticksO_err o.price
  unfold termsH
  split
  · simp
  · simp only; omega
/-- Reasons are small numbers; a request that is refused changes nothing. -/
theorem actH_e (hk : S.ok) : (0 ≤ (actH S who o).e ∧ (actH S who o).e ≤ 100) ∧ (0 ≤ (actH S who o).n ∧ (actH S who o).n ≤ 9007199254740992) := by
  have ht := tickH_ok hk
  have h1 := ticksO_err o.price
  have h2 := termsH_e S who o
  have h3 := lockL_e S.L who o.good o.am
  unfold actH
  repeat' split
  · simp only; omega
  · unfold payL; (repeat' split) <;> simp
  · unfold takeL; (repeat' split) <;> simp
  · unfold storeL; (repeat' split) <;> simp
  · unfold fetchL; (repeat' split) <;> simp
  · unfold offerH; (repeat' split) <;> simp only <;> omega
  · unfold wantH; simp only; (repeat' split) <;> first | (simp; done) | (simp only; (repeat' split) <;> simp)
  · unfold putH
    simp only
    split
    · simp only; omega
    · split
      · unfold coverE at *; split <;> simp
      · split
        · have := putO_e (S.bk o.good.toNat) (ordOfOp (termsH S who o) who o); simp only; omega
        · simp
  · unfold amendH
    simp only
    split
    · simp only; omega
    · split
      · simp
      · split
        · simp
        · split
          · refine ⟨?_, by simp⟩; exact amendO_e _ _ _ _ _
          · simp
  · unfold cancelH; simp only; (repeat' split) <;> simp
  · simp
end
end Go.Pw
/- A house: a request done. -/
set_option linter.unusedSimpArgs false
set_option linter.unusedVariables false
namespace Go.Pw
open Go Go.Proofs

/-- What a request is answered: the text, why there is none, the house then. -/
structure Dn where
  t : ByteArray
  e : Int
  S : Hs
def repB (e n : Int) : ByteArray := ⟨(encN e.toNat ++ encN n.toNat).toArray⟩
def didH (S : Hs) (who : Nat) (op : ByteArray) : Did := if (ofOpO op).2 = 0 then actH S who (ofOpO op).1 else ⟨0, 90, S⟩
def markH (d : Did) (who : Nat) (stamp : Int) : Hs := d.S.setL (markL d.S.L who stamp (repB d.e d.n)).2
def doH (S : Hs) (who stamp : Int) (op : ByteArray) : Dn :=
  if ¬ (0 ≤ who ∧ who < S.L.n) then ⟨⟨#[]⟩, 60, S⟩ else
  if stamp < 1 ∨ 1099511627776 < stamp then ⟨⟨#[]⟩, 1, S⟩ else
  if stamp ≤ S.L.f who.toNat 10 then ⟨⟨#[]⟩, 91, S⟩ else
  ⟨repB (didH S who.toNat op).e (didH S who.toNat op).n, 0, markH (didH S who.toNat op) who.toNat stamp⟩
theorem markL_gn (L : Led) (i : Nat) (s : Int) (t : ByteArray) : (markL L i s t).2.goods = L.goods ∧ (markL L i s t).2.n = L.n := by unfold markL; (repeat' split) <;> exact ⟨rfl, rfl⟩
section
variable {h g : PH} {R : AEnd → PH → Prop} {x : Nat} {nm : Nm} {S : Hs} {C : PH → Prop} {who : Nat} {o : OpV}
/-- The function of a kind, called. -/
theorem h_kind {f : Nat} (hf : actF o.kind = some f) (H : HsN x nm S h) (hn : nm.ok S) (hk : S.ok) (hw : who < S.L.n) (ho : o.ok)
    (hR : ∀ g nm', HsN x nm' (actH S who o).S g → nm'.ok (actH S who o).S → R (.ret (.tuple #[.int .i64 (actH S who o).n, .int .i64 (actH S who o).e])) g) : ACalls Tryz.prog f #[ptr x, .int .i64 who, o.v] h R := by
  have hgn := actH_gn (who := who) (o := o) hk
  unfold actF at hf
  unfold actH at hR hgn
  by_cases k1 : o.kind = 1
  · rw [if_pos k1] at hf hR hgn; cases hf; exact h_tick H hn hk fun g Hg => hR g nm Hg (hn.to hgn.1)
  rw [if_neg k1] at hf hR hgn
  by_cases k2 : o.kind = 2
  · rw [if_pos k2] at hf hR hgn; cases hf; exact h_pay H hk hw fun g Hg => hR g nm Hg (hn.to hgn.1)
  rw [if_neg k2] at hf hR hgn
  by_cases k3 : o.kind = 3
  · rw [if_pos k3] at hf hR hgn; cases hf; exact h_take H hk hw fun g Hg => hR g nm Hg (hn.to hgn.1)
  rw [if_neg k3] at hf hR hgn
  by_cases k4 : o.kind = 4
  · rw [if_pos k4] at hf hR hgn; cases hf; exact h_store H hk hw fun g Hg => hR g nm Hg (hn.to hgn.1)
  rw [if_neg k4] at hf hR hgn
  by_cases k5 : o.kind = 5
  · rw [if_pos k5] at hf hR hgn; cases hf; exact h_fetch H hk hw fun g Hg => hR g nm Hg (hn.to hgn.1)
  rw [if_neg k5] at hf hR hgn
  by_cases k6 : o.kind = 6
  · rw [if_pos k6] at hf hR hgn; cases hf; exact h_offer H hn hk hw ho fun g nm' Hg hn' => hR g nm' Hg hn'
  rw [if_neg k6] at hf hR hgn
  by_cases k7 : o.kind = 7
  · rw [if_pos k7] at hf hR hgn; cases hf; exact h_want H hn hk hw ho fun g Hg => hR g nm Hg (hn.to hgn.1)
  rw [if_neg k7] at hf hR hgn
  by_cases k8 : o.kind = 8
  · rw [if_pos k8] at hf hR hgn; cases hf; exact h_put H hn hk hw ho fun g Hg => hR g nm Hg (hn.to hgn.1)
  rw [if_neg k8] at hf hR hgn
  by_cases k9 : o.kind = 9
  · rw [if_pos k9] at hf hR hgn; cases hf; exact h_amend H hn hk hw ho fun g Hg => hR g nm Hg (hn.to hgn.1)
  rw [if_neg k9] at hf hR hgn
  by_cases k10 : o.kind = 10
  · rw [if_pos k10] at hf hR hgn; cases hf; exact h_cancel H hn hk hw ho fun g Hg => hR g nm Hg (hn.to hgn.1)
  rw [if_neg k10] at hf
  cases hf
theorem actF_none {o : OpV} (hf : actF o.kind = none) : actH S who o = ⟨0, 90, S⟩ := by
  unfold actF at hf
  unfold actH
  by_cases k1 : o.kind = 1
  · rw [if_pos k1] at hf; cases hf
  by_cases k2 : o.kind = 2
  · rw [if_neg k1, if_pos k2] at hf; cases hf
  by_cases k3 : o.kind = 3
  · rw [if_neg k1, if_neg k2, if_pos k3] at hf; cases hf
  by_cases k4 : o.kind = 4
  · rw [if_neg k1, if_neg k2, if_neg k3, if_pos k4] at hf; cases hf
  by_cases k5 : o.kind = 5
  · rw [if_neg k1, if_neg k2, if_neg k3, if_neg k4, if_pos k5] at hf; cases hf
  by_cases k6 : o.kind = 6
  · rw [if_neg k1, if_neg k2, if_neg k3, if_neg k4, if_neg k5, if_pos k6] at hf; cases hf
  by_cases k7 : o.kind = 7
  · rw [if_neg k1, if_neg k2, if_neg k3, if_neg k4, if_neg k5, if_neg k6, if_pos k7] at hf; cases hf
  by_cases k8 : o.kind = 8
  · rw [if_neg k1, if_neg k2, if_neg k3, if_neg k4, if_neg k5, if_neg k6, if_neg k7, if_pos k8] at hf; cases hf
  by_cases k9 : o.kind = 9
  · rw [if_neg k1, if_neg k2, if_neg k3, if_neg k4, if_neg k5, if_neg k6, if_neg k7, if_neg k8, if_pos k9] at hf; cases hf
  by_cases k10 : o.kind = 10
  · rw [if_neg k1, if_neg k2, if_neg k3, if_neg k4, if_neg k5, if_neg k6, if_neg k7, if_neg k8, if_neg k9, if_pos k10] at hf; cases hf
  rw [if_neg k1, if_neg k2, if_neg k3, if_neg k4, if_neg k5, if_neg k6, if_neg k7, if_neg k8, if_neg k9, if_neg k10]
theorem didH_ok (hk : S.ok) (hw : who < S.L.n) (op : ByteArray) : (didH S who op).S.ok ∧ (didH S who op).S.L.goods = S.L.goods ∧ (didH S who op).S.L.n = S.L.n ∧ (0 ≤ (didH S who op).e ∧ (didH S who op).e ≤ 100) ∧ (0 ≤ (didH S who op).n ∧ (didH S who op).n ≤ 9007199254740992) := by
  unfold didH
  split
  · exact ⟨actH_ok hk hw (ofOpO_ok op), (actH_gn hk).1, (actH_gn hk).2, (actH_e hk).1, (actH_e hk).2⟩
  · exact ⟨hk, rfl, rfl, by simp, by simp⟩
theorem markH_ok {d : Did} {stamp : Int} (hk : d.S.ok) (hw : who < d.S.L.n) : (markH d who stamp).ok ∧ (markH d who stamp).L.goods = d.S.L.goods ∧ (markH d who stamp).L.n = d.S.L.n :=
  ⟨setL_ok hk (inv_mark hk.led hw) (markL_gn _ _ _ _).1 (markL_gn _ _ _ _).2, (markL_gn _ _ _ _).1, (markL_gn _ _ _ _).2⟩
theorem doH_ok (hk : S.ok) (who stamp : Int) (op : ByteArray) : (doH S who stamp op).S.ok ∧ (doH S who stamp op).S.L.goods = S.L.goods ∧ (doH S who stamp op).S.L.n = S.L.n := by
  unfold doH
  split
  · exact ⟨hk, rfl, rfl⟩
  · split
    · exact ⟨hk, rfl, rfl⟩
    · split
      · exact ⟨hk, rfl, rfl⟩
      · obtain ⟨d1, d2, d3, d4, d5⟩ := didH_ok (who := who.toNat) hk (by omega) op
        obtain ⟨m1, m2, m3⟩ := markH_ok (who := who.toNat) (stamp := stamp) d1 (by rw [d3]; omega)
        exact ⟨m1, m2.trans d2, m3.trans d3⟩
theorem str_cat {K : Value → Prop} (a b : List UInt8) (hs : a.length + b.length ≤ 1000000) : vBin Tryz.prog .add 9 (.string ⟨a.toArray⟩) (.string ⟨b.toArray⟩) K ↔ K (.string ⟨(a ++ b).toArray⟩) := by
  rw [vBin_sadd _ _ _ (by show a.toArray.size + b.toArray.size ≤ _; simp; omega)]
  have e : (⟨a.toArray⟩ : ByteArray) ++ ⟨b.toArray⟩ = ⟨(a ++ b).toArray⟩ := by
    apply ByteArray.ext
    rw [ByteArray.data_append]
    simp
  rw [e]
/-- The reply laid and marked. -/
theorem h_reply {d : Did} {stamp : Int} {R' : Value → PH → Prop} (H : HsN x nm d.S h) (hk : d.S.ok) (hw : who < d.S.L.n) (he : 0 ≤ d.e ∧ d.e ≤ 100) (hnn : 0 ≤ d.n ∧ d.n ≤ 9007199254740992) (hR : ∀ g, HsN x nm (markH d who stamp) g → R (.ret (.tuple #[.string (repB d.e d.n), .int .i64 0])) g) :
    vCall Tryz.prog 34 #[.int .i64 d.e] h (fun t83 h_17 =>
      vExt t83 0 fun t84 =>
      vExt t83 1 fun t85 =>
      vCall Tryz.prog 34 #[.int .i64 d.n] h_17 (fun t88 h_18 =>
      vExt t88 0 fun t89 =>
      vExt t88 1 fun t90 =>
      vLoad none (.pointer (some ⟨x, 0, none⟩)) h_18 fun t94 =>
      vBin Tryz.prog .add 9 t84 t89 fun t99 =>
      vCall Tryz.prog 35 #[t94, .int .i64 who, .int .i64 stamp, t99] h_18 (fun t100 h_19 =>
      vBin Tryz.prog .add 9 t84 t89 fun t103 =>
      R (.ret (.tuple #[t103, (.int .i64 0)])) h_19)
      (fun c h => R (.pan c) h))
      (fun c h => R (.pan c) h))
      (fun c h => R (.pan c) h) := by
  obtain ⟨e, he'⟩ : ∃ e : Nat, d.e = e := ⟨d.e.toNat, by omega⟩
  obtain ⟨n, hn'⟩ : ∃ n : Nat, d.n = n := ⟨d.n.toNat, by omega⟩
  unfold markH repB at hR
  rw [he', hn', Int.toNat_natCast, Int.toNat_natCast] at hR
  rw [he', hn']
  have l1 := encN_10 (n := e) (by omega)
  have l2 := encN_10 (n := n) (by omega)
  refine putInt_ok (by omega) ?_
  simp only [AEnd.elim, vExt_20, vExt_21]
  refine putInt_ok (by omega) ?_
  simp only [AEnd.elim, vExt_20, vExt_21, H.f.lx.ld]
  rw [str_cat _ _ (by omega)]
  refine mark_ok H.f.hl hw ?_
  simp only [AEnd.elim]
  rw [str_cat _ _ (by omega)]
  have hgn := markL_gn d.S.L who stamp ⟨(encN e ++ encN n).toArray⟩
  have H2 := HsN.led (L' := (markL d.S.L who stamp ⟨(encN e ++ encN n).toArray⟩).2) (sep_emp H) hgn.1 hgn.2
  exact hR _ (sep_l HsN.mono H2)
theorem h_do {who stamp : Int} {op : ByteArray} (H : HsN x nm S h) (hn : nm.ok S) (hk : S.ok) (hR : ∀ g nm', HsN x nm' (doH S who stamp op).S g → nm'.ok (doH S who stamp op).S → R (.ret (.tuple #[.string (doH S who stamp op).t, .int .i64 (doH S who stamp op).e])) g) :
    ACalls Tryz.prog 12 #[ptr x, .int .i64 who, .int .i64 stamp, .string op] h R := by
  refine call12 ?_
  unfold sh12
  have F := H.f
  rw [vBin_pnil Tryz.underlying28]
  simp only [boolOf_b, gq_b, true_implies, vNil_p, vFA_p, Nat.zero_add, F.lx.ld, ne_eq, not_true_eq_false, false_implies, and_true]
  rw [vBin_pnil Tryz.underlying81]
  simp only [vPick_b, cond_false, dIf_b]
  refine ⟨fun e => absurd e (by simp), fun _ => ?_⟩
  unfold doH at hR
  by_cases hw : 0 ≤ who ∧ who < S.L.n
  rotate_left
  · rw [if_pos hw] at hR
    refine acct_bad F.hl (by omega) ?_
    simp only [AEnd.elim, vExt_20, vExt_21]
    refine vNew_i fun c hc => ?_
    refine vStore_to (cs := acct0) (ins_eq _ _ _) (by rfl) (by rfl) (by rfl) ?_
    rw [ins_ins]
    simp only [vUn_not, Bool.not_false, dIf_b]
    exact ⟨fun _ => hR _ nm (HsN.mono _ _ (sub_ins _ hc) H) hn, fun e => absurd e (by simp)⟩
  rw [if_neg (fun hnn => hnn hw)] at hR
  obtain ⟨i, rfl⟩ : ∃ i : Nat, who = i := ⟨who.toNat, by omega⟩
  have hi : i < S.L.n := by omega
  rw [Int.toNat_natCast] at hR
  refine acct_ok F.hl hi ?_
  simp only [AEnd.elim, vExt_20, vExt_21]
  refine vNew_i fun c hc => ?_
  refine vStore_to (cs := acctCells S.L i) (ins_eq _ _ _) (by rfl) (by rfl) (by rfl) ?_
  rw [ins_ins]
  have H1 : HsN x nm S (ins h c (.cells (acctCells S.L i) 61 (0, 0))) := HsN.mono _ _ (sub_ins _ hc) H
  revert H1
  generalize ins h c (.cells (acctCells S.L i) 61 (0, 0)) = G
  intro H1
  have F1 := H1.f
  simp only [vUn_not, Bool.not_true, dIf_b]
  refine ⟨fun e => absurd e (by simp), fun _ => ?_⟩
  simp only [vNil_p, vFA_p, Nat.zero_add, F1.lx.ld]
  refine last_ok F1.hl hi ?_
  simp only [AEnd.elim, vExt_20, vExt_21, vBin_lss]
  by_cases hs1 : stamp < 1
  · rw [if_pos (.inl hs1)] at hR
    simp [hs1]
    exact hR _ nm H1 hn
  by_cases hs2 : 1099511627776 < stamp
  · rw [if_pos (.inr hs2)] at hR
    simp [hs1, hs2]
    exact hR _ nm H1 hn
  rw [if_neg (by omega)] at hR
  simp only [hs1, decide_false, boolOf_b, gq_b, true_implies, vBin_gtr, hs2, ne_eq, not_true_eq_false, false_implies, and_true, vPick_b, cond_false, dIf_b, Bool.false_eq_true, true_and, vBin_leq]
  by_cases hs3 : stamp ≤ S.L.f i 10
  · rw [if_pos hs3] at hR
    simp only [hs3, decide_true]
    exact ⟨fun _ => hR _ nm H1 hn, fun e => absurd e (by simp)⟩
  rw [if_neg hs3] at hR
  simp only [hs3, decide_false]
  refine ⟨fun e => absurd e (by simp), fun _ => ?_⟩
  refine ofOp_ok ?_
  simp only [AEnd.elim, vExt_20, vExt_21]
  have ho := ofOpO_ok op
  obtain ⟨d1, d2, d3, d4, d5⟩ := didH_ok hk hi op
  have fin : ∀ {d : Did} {g nm'}, didH S i op = d → HsN x nm' d.S g → nm'.ok d.S → _ := fun {d g nm'} hd Hg hn' => h_reply (R := R) (R' := fun _ _ => True) (d := d) (stamp := stamp) (who := i) Hg (by rw [← hd]; exact d1) (by rw [← hd, d3]; exact hi) (by rw [← hd]; exact d4) (by rw [← hd]; exact d5) fun g2 Hg2 => by
    rw [hd] at hR
    exact hR g2 nm' Hg2 (hn'.to (markL_gn _ _ _ _).1)
  unfold didH at fin
  refine vNew_i fun q hq => ?_
  refine vStore_to (cs := (ofOpO op).1.a) (ins_eq _ _ _) (by rfl) (by rfl) (by cases (ofOpO op).1; rfl) ?_
  rw [ins_ins]
  have H2 : HsN x nm S (ins G q (.cells (ofOpO op).1.a 25 (0, 0))) := HsN.mono _ _ (sub_ins _ hq) H1
  have hqq : ins G q (.cells (ofOpO op).1.a 25 (0, 0)) q = some (.cells (ofOpO op).1.a 25 (0, 0)) := ins_eq _ _ _
  revert H2 hqq
  generalize ins G q (.cells (ofOpO op).1.a 25 (0, 0)) = G2
  intro H2 hqq
  rw [vBin_eql, dIf_b]
  by_cases hf : (ofOpO op).2 = 0
  rotate_left
  · rw [if_neg hf] at fin
    simp only [hf, decide_false]
    exact ⟨fun e => absurd e (by simp), fun _ => fin (d := ⟨0, 90, S⟩) rfl H2 hn⟩
  rw [if_pos hf] at fin
  simp only [hf, decide_true]
  refine ⟨fun _ => ?_, fun e => absurd e (by simp)⟩
  generalize (ofOpO op).1 = o at *
  simp only [vFA_p, Nat.zero_add]
  rw [vLoad_1 hqq (show o.a[0]? = some (.int .i64 o.kind) from rfl)]
  refine h_acts ?_
  simp only [AEnd.elim]
  cases ha : actF o.kind with
  | none =>
    rw [actF_none ha] at fin
    unfold fnV
    rw [nofn_neq, dIf_b]
    exact ⟨fun e => absurd e (by simp), fun _ => fin (d := ⟨0, 90, S⟩) rfl H2 hn⟩
  | some f =>
    unfold fnV
    rw [fn_neq, dIf_b]
    refine ⟨fun _ => ?_, fun e => absurd e (by simp)⟩
    rw [vLoad_n hqq (off := 0) (n := 6) (by show 0 + 6 ≤ 6; omega), show o.a.extract 0 (0 + 6) = o.a from rfl]
    refine ⟨f, #[], #[], rfl, ?_⟩
    refine h_kind (who := i) (o := o) ha H2 hn hk hi ho fun g nm' Hg hn' => ?_
    simp only [AEnd.elim, vExt_20, vExt_21]
    exact fin (d := actH S i o) rfl Hg hn'
end
end Go.Pw
/- A house: its records. -/
set_option linter.unusedSimpArgs false
set_option linter.unusedVariables false
namespace Go.Pw
open Go Go.Proofs

abbrev Rec := ByteArray × ByteArray
def recC (l : List Rec) : List Value := l.flatMap fun a => [.string a.1, .string a.2]
theorem recC_app (l m : List Rec) : recC (l ++ m) = recC l ++ recC m := by simp [recC]
theorem recC_cells (L : Led) (n : Nat) : recCells L n = recC (recsOf L n) := by
  unfold recCells recC recsOf
  rw [List.flatMap_map]
theorem recsOf_len (L : Led) (n : Nat) : (recsOf L n).length = n := by simp [recsOf]
theorem recC_get : ∀ (l : List Rec) (i : Nat) (a : Rec), l[i]? = some a → (recC l)[i * 2]? = some (.string a.1) ∧ (recC l)[i * 2 + 1]? = some (.string a.2)
  | [], i, a, h => by simp at h
  | b :: l, 0, a, h => by simp at h; subst h; exact ⟨rfl, rfl⟩
  | b :: l, i + 1, a, h => by
    have := recC_get l i a (by simpa using h)
    have e : recC (b :: l) = [.string b.1, .string b.2] ++ recC l := by simp [recC]
    rw [e, List.getElem?_append_right (by simp; omega), List.getElem?_append_right (by simp; omega)]
    have e1 : (i + 1) * 2 - [Value.string b.1, .string b.2].length = i * 2 := by simp; omega
    have e2 : (i + 1) * 2 + 1 - [Value.string b.1, .string b.2].length = i * 2 + 1 := by simp; omega
    rw [e1, e2]
    exact this
theorem recs_of {h h0 : PH} {l : List Rec} {s : Value} (hw : OB 42 2 h0 l.length (recC l) h s) : RecsAt h s l := by
  rcases Nat.eq_zero_or_pos l.length with hn | hn
  · obtain ⟨p, cap, e⟩ := ob_len hw
    have := List.eq_nil_of_length_eq_zero hn
    subst this
    exact ⟨p, cap, e, by simp, fun i a ha => by simp at ha⟩
  · obtain ⟨q, c, cap, hs, hq, hsz, hget⟩ := ob_get hw hn
    have hc : l.length ≤ cap := by
      rcases hw.buf with ⟨_, h1, _⟩ | ⟨g2, c2, cap2, h1, h2, h3, h4, h5, h6⟩
      · omega
      · rw [h1] at hs; cases hs; exact h5
    refine ⟨_, cap, hs, hc, fun i a ha => ?_⟩
    have hi : i < l.length := (List.getElem?_eq_some_iff.1 ha).1
    obtain ⟨g1, g2⟩ := recC_get l i a ha
    refine ⟨q, 0, c, _, _, rfl, hq, by omega, ?_⟩
    apply Array.ext_getElem?
    intro j
    rw [Array.getElem?_extract]
    rcases Nat.lt_or_ge j 2 with hj | hj
    · rw [if_pos (by omega), hget _ (by omega)]
      match j, hj with
      | 0, _ => simpa using g1
      | 1, _ => simpa using g2
    · rw [if_neg (by omega), Array.getElem?_eq_none (by simpa using hj)]
def keyS (p : List UInt8) (i : Nat) : ByteArray := ⟨(p ++ [UInt8.ofNat (48 + i)]).toArray⟩
def bookK : List UInt8 := [98, 111, 111, 107, 47]
def clockK : List UInt8 := [99, 108, 111, 99, 107, 47]
def bkR (S : Hs) (i : Nat) : Rec := (keyS bookK i, bkB (S.bk i))
def auR (S : Hs) (i : Nat) : List Rec := match S.au i with
  | some p => [(keyS clockK i, ⟨(encN p.2.toNat ++ (aucB p.1).data.toList).toArray⟩)]
  | none => []
def auRs (S : Hs) : Nat → List Rec
  | 0 => []
  | k + 1 => auRs S k ++ auR S k
def nowR (S : Hs) : Rec := (⟨#[110, 111, 119]⟩, ⟨(encN S.now.toNat).toArray⟩)
def hsRecs (S : Hs) : List Rec := recsOf S.L S.L.n ++ (List.range S.G).map (bkR S) ++ auRs S S.G ++ [nowR S]
theorem auRs_len (S : Hs) : ∀ k, (auRs S k).length ≤ k
  | 0 => by simp [auRs]
  | k + 1 => by
    have h1 := auRs_len S k
    have h2 : (auR S k).length ≤ 1 := by unfold auR; split <;> simp
    simp only [auRs, List.length_append]
    omega
section
variable {h g : PH} {R : AEnd → PH → Prop} {x : Nat} {nm : Nm} {S : Hs} {C : PH → Prop}
theorem fill_b (b : UInt8) : Instr.fill (fun i => some (i * 1, 1)) (rep #[Value.int IntKind.u8 0] (1 * 1)) [(0, Value.int IntKind.u8 ↑b.toNat)] = some #[.int .u8 b.toNat] := by
  have e : Array.range 1 = #[0] := by decide
  simp [Instr.fill, rep, Value.cells, e]
theorem hkey_ok {p : List UInt8} {i : Nat} (hi : i < 10) (hp : p.length ≤ 100) (hR : R (.ret (.string (keyS p i))) h) : ACalls Tryz.prog 38 #[.string ⟨p.toArray⟩, .int .i64 i] h R := by
  refine ACalls.drop (call38 ?_)
  unfold sh38
  rw [vBin_add, w64 (by omega) (by omega), vConvI_i, wrap_u8n (n := 48 + i) (by omega) (by omega)]
  refine ⟨by omega, _, fill_b _, fun b hb => ?_⟩
  refine .inr ⟨b, 0, 1, 1, _, _, _, [UInt8.ofNat (48 + i)], rfl, ins_eq _ _ _, rfl, rfl, ?_⟩
  refine (str_cat p [UInt8.ofNat (48 + i)] (by simp; omega)).2 ?_
  exact ⟨h, sub_ins _ hb, hR⟩
/-- One record more. -/
theorem app_rec {K : Value → PH → Prop} {h0 : PH} {s : Value} {l : List Rec} {a b : ByteArray} (ob : OB 42 2 h0 l.length (recC l) h s) (hl : l.length ≤ 1000000) (hk : ∀ g s', OB 42 2 h0 (l ++ [(a, b)]).length (recC (l ++ [(a, b)])) g s' → K s' g) :
    vBuild [(0, 1), (1, 1)] #[.string ⟨#[]⟩, .string ⟨#[]⟩] [(0, .string a), (1, .string b)] fun t41 =>
      (1 * 2 ≤ 2 ^ 24) ∧ vBuildS 42 2 1 #[.string ⟨#[]⟩, .string ⟨#[]⟩] [(0, t41)] h fun t42 h_3 =>
      (0 < 2) ∧ (0 < 32) ∧ (Array.size #[(.string ⟨#[]⟩ : Value), (.string ⟨#[]⟩ : Value)] = 2) ∧ vAppend false 42 2 32 s t42 h_3 K := by
  refine ⟨#[.string a, .string b], by simp [Instr.fill, Value.cells], ?_⟩
  refine ⟨by omega, _, fill_rec a b, fun d hd => ⟨by omega, by omega, rfl, ?_⟩⟩
  have obd := ob.up (sub_ins (.cells #[.string a, .string b] 42) hd)
  refine ob_app (m := 1) (news := [.string a, .string b]) obd (by simp only [roomBytes]; omega) (by omega) rfl
    (fun K' hk' => .inr (.inr ⟨rfl, d, 0, 1, 1, _, _, _, rfl, ins_eq _ _ _, by show 0 + 1 * 2 ≤ 2; omega, ?_, hk'⟩)) (fun b' off l cc hx gg cap hs => ?_) fun g5 s5 ob5 => ?_
  · intro v hv
    simp at hv
    rcases hv with rfl | rfl <;> rfl
  · cases hx
    intro e
    rcases ob.buf with ⟨h1', _⟩ | ⟨g3, c3, cap3, h1', h2', _⟩
    · rw [h1'] at hs; cases hs
    · rw [h1'] at hs; cases hs; rw [← e, hd] at h2'; cases h2'
  · refine hk g5 s5 ?_
    rw [recC_app, List.length_append]
    exact ob5
theorem h_records (H : HsN x nm S h) (hn : nm.ok S) (hk : S.ok) (hR : ∀ g s, OB 42 2 h (hsRecs S).length (recC (hsRecs S)) g s → R (.ret s) g) : ACalls Tryz.prog 14 #[ptr x] h R := by
  refine call14 ?_
  unfold sh14
  have F := H.f
  have hcl := hk.cl
  have hg := hk.g
  rw [vBin_pnil Tryz.underlying28]
  simp only [boolOf_b, gq_b, true_implies, vNil_p, vFA_p, Nat.zero_add, F.lx.ld, ne_eq, not_true_eq_false, false_implies, and_true]
  rw [vBin_pnil Tryz.underlying81]
  simp only [vPick_b, cond_false, dIf_b]
  refine ⟨fun e => absurd e (by simp), fun _ => ?_⟩
  refine records_ok F.hl hk.led fun g1 s1 ob1 => ?_
  simp only [AEnd.elim]
  have ob1' : OB 42 2 h (recsOf S.L S.L.n).length (recC (recsOf S.L S.L.n)) g1 s1 := by
    rw [recsOf_len, ← recC_cells]; exact ob1
  have hl0 : (recsOf S.L S.L.n).length ≤ 16 := by rw [recsOf_len]; exact hcl
  unfold hsRecs at hR
  generalize recsOf S.L S.L.n = l0 at *
  rw [vLoad_1 (ob1.sub _ _ F.hx) (show (hsHd nm S)[4]? = some (.slice (some ⟨nm.bs, 0, none⟩) S.G nm.bcap) from rfl), vLenS_s]
  refine lf_intro (fun m s' g => ∃ (i : Nat) (s : Value), s' = (s, .int .i64 i) ∧ m = S.G - i ∧ i ≤ S.G ∧ OB 42 2 h (l0 ++ (List.range i).map (bkR S)).length (recC (l0 ++ (List.range i).map (bkR S))) g s) S.G
    ⟨0, s1, rfl, rfl, by omega, by simpa using ob1'⟩ ?_
  rintro m s' g ⟨i, s, rfl, rfl, hi, ob⟩
  by_cases hin : i < S.G
  · have key : ∀ (kn : (Value × Value × Value) → (Value × Value) → PH → Prop) x0, (∀ g2 s2, OB 42 2 h (l0 ++ (List.range (i + 1)).map (bkR S)).length (recC (l0 ++ (List.range (i + 1)).map (bkR S))) g2 s2 → kn (ptr x, .slice (some ⟨nm.bs, 0, none⟩) S.G nm.bcap, .int .i64 S.G) (s2, .int .i64 ((i : Int) + 1)) g2) →
        b14_5 (fun c h => R (.pan c) h) x0 (ptr x, .slice (some ⟨nm.bs, 0, none⟩) S.G nm.bcap, .int .i64 S.G) kn (s, .int .i64 i) g := by
      intro kn x0 hkn
      unfold b14_5
      have hlt : (i : Int) < (S.G : Int) := by omega
      simp only [vBin_lss, hlt, decide_true, dIf_b, vIxS_p]
      refine ⟨fun _ => ⟨by omega, by omega, ?_⟩, fun e => absurd e (by simp)⟩
      rw [vLoad_1 (ob.sub _ _ F.hb) (v := ptr (nm.ba i)) (by simpa using hn.cb i hin)]
      refine hkey_ok (p := bookK) (by omega) (by simp [bookK]) ?_
      simp only [AEnd.elim]
      refine bk_bytes (BkP.mono _ _ ob.sub (F.bk i hin)) (hk.bk i hin) ?_
      simp only [AEnd.elim]
      refine app_rec ob (by simp; omega) fun g2 s2 ob2 => ?_
      simp only [vBin_add]
      rw [w64 (by omega) (by omega)]
      refine hkn g2 s2 ?_
      rw [List.range_succ, List.map_append, ← List.append_assoc]
      exact ob2
    exact key _ _ fun g2 s2 ob2 => ⟨rfl, S.G - (i + 1), by omega, i + 1, s2, rfl, rfl, by omega, ob2⟩
  · have e : i = S.G := by omega
    subst e
    unfold b14_5
    simp only [vBin_lss, dIf_b]
    refine ⟨fun e => absurd e (by simp), fun _ => ?_⟩
    intro r hr
    simp only [Prod.mk.injEq] at hr
    obtain ⟨r0, r3⟩ := hr
    simp only [r0, r3, vNil_p, vFA_p, Nat.zero_add]
    rw [vLoad_1 (ob.sub _ _ F.hx) (show (hsHd nm S)[5]? = some (.slice (some ⟨nm.ss, 0, none⟩) S.G S.G) from rfl), vLenS_s]
    have hl1 : (l0 ++ (List.range S.G).map (bkR S)).length ≤ 20 := by simp; omega
    generalize l0 ++ (List.range S.G).map (bkR S) = l1 at *
    refine lf_intro (fun m s' g => ∃ (i : Nat) (s : Value), s' = (s, .int .i64 i) ∧ m = S.G - i ∧ i ≤ S.G ∧ OB 42 2 h (l1 ++ auRs S i).length (recC (l1 ++ auRs S i)) g s) S.G
      ⟨0, s, rfl, rfl, by omega, by simpa [auRs] using ob⟩ ?_
    clear ob
    rintro m s' g ⟨i, s, rfl, rfl, hi, ob⟩
    have hla := auRs_len S i
    by_cases hin : i < S.G
    · have key : ∀ (kn : (Value × Value × Value) → (Value × Value) → PH → Prop) x2, (∀ g2 s2, OB 42 2 h (l1 ++ auRs S (i + 1)).length (recC (l1 ++ auRs S (i + 1))) g2 s2 → kn (ptr x, .slice (some ⟨nm.ss, 0, none⟩) S.G S.G, .int .i64 S.G) (s2, .int .i64 ((i : Int) + 1)) g2) →
          b14_10 (fun c h => R (.pan c) h) x2 (ptr x, .slice (some ⟨nm.ss, 0, none⟩) S.G S.G, .int .i64 S.G) kn (s, .int .i64 i) g := by
        intro kn x2 hkn
        unfold b14_10
        have hlt : (i : Int) < (S.G : Int) := by omega
        simp only [vBin_lss, hlt, decide_true, dIf_b, vIxS_p]
        refine ⟨fun _ => ⟨by omega, by omega, ?_⟩, fun e => absurd e (by simp)⟩
        rw [show 0 + (i : Int).toNat * 2 = i * 2 by omega, vLoad_n (ob.sub _ _ F.hs) (by rw [saleC_size]; omega), saleC_ext hin]
        refine vNew_i fun d hd => ?_
        refine vStore_to (cs := #[saleP nm S i, .int .i64 (saleW S i)]) (ins_eq _ _ _) (by rfl) (by rfl) (by unfold saleP; cases S.au i <;> rfl) ?_
        rw [ins_ins]
        have obd := ob.up (sub_ins (.cells #[saleP nm S i, .int .i64 (saleW S i)] 98 (0, 0)) hd)
        have hdd : ins g d (.cells #[saleP nm S i, .int .i64 (saleW S i)] 98 (0, 0)) d = some (.cells #[saleP nm S i, .int .i64 (saleW S i)] 98 (0, 0)) := ins_eq _ _ _
        revert obd hdd
        generalize ins g d (.cells #[saleP nm S i, .int .i64 (saleW S i)] 98 (0, 0)) = G
        intro obd hdd
        simp only [vFA_p, Nat.zero_add]
        rw [vLoad_1 hdd (v := saleP nm S i) rfl]
        cases hau : S.au i with
        | none =>
          have hP : saleP nm S i = .pointer none := by unfold saleP; rw [hau]
          rw [hP, vBin_nilneq Tryz.underlying96, dIf_b]
          refine ⟨fun e => absurd e (by simp), fun _ => ?_⟩
          rw [vBin_add, w64 (by omega) (by omega)]
          refine hkn G s ?_
          have : auRs S (i + 1) = auRs S i := by simp [auRs, auR, hau]
          rw [this]
          exact obd
        | some q =>
          obtain ⟨A, w⟩ := q
          obtain ⟨hAk, hA0, hAn, hw0, hwn⟩ := hk.au i A w hin hau
          have hP : saleP nm S i = ptr (nm.aa i) := by unfold saleP; rw [hau]
          have hW : saleW S i = w := by unfold saleW; rw [hau]
          rw [hP, hW] at hdd
          rw [hP, vBin_pneq Tryz.underlying96, dIf_b]
          refine ⟨fun _ => ?_, fun e => absurd e (by simp)⟩
          rw [vLoad_1 hdd (v := .int .i64 w) rfl]
          obtain ⟨wn, rfl⟩ : ∃ wn : Nat, w = wn := ⟨w.toNat, by omega⟩
          refine putInt_ok (by omega) ?_
          simp only [AEnd.elim, vExt_20, vExt_21, vFA_p, Nat.zero_add]
          rw [vLoad_1 hdd (v := ptr (nm.aa i)) rfl]
          refine hkey_ok (p := clockK) (by omega) (by simp [clockK]) ?_
          simp only [AEnd.elim]
          rw [vLoad_1 hdd (v := ptr (nm.aa i)) rfl]
          refine ⟨rfl, ?_⟩
          refine clock_bytes ((F.au i (A, (wn : Int)) hin hau).sub obd.sub) hAk ?_
          simp only [AEnd.elim]
          have l1' := encN_10 (n := wn) (by omega)
          have l2' : (encL (aucNums A A.n)).length ≤ 1000 := by
            have h1 := encL_len2 (aucNums_bd hAk A.n (Nat.le_refl _))
            have h2 := aucNums_len A A.n
            have h3 := hAk.n
            omega
          have eB : (aucB A).data.toList = encL (aucNums A A.n) := by simp [aucB]
          have eB2 : aucB A = ⟨(aucB A).data.toList.toArray⟩ := by simp [aucB]
          rw [eB2, str_cat _ _ (by rw [eB]; omega)]
          refine app_rec obd (by simp; omega) fun g2 s2 ob2 => ?_
          simp only [vBin_add]
          rw [w64 (by omega) (by omega)]
          refine hkn g2 s2 ?_
          have : auRs S (i + 1) = auRs S i ++ [(keyS clockK i, ⟨(encN wn ++ (aucB A).data.toList).toArray⟩)] := by simp [auRs, auR, hau]
          rw [this, ← List.append_assoc]
          exact ob2
      exact key _ _ fun g2 s2 ob2 => ⟨rfl, S.G - (i + 1), by omega, i + 1, s2, rfl, rfl, by omega, ob2⟩
    · have e : i = S.G := by omega
      subst e
      unfold b14_10
      simp only [vBin_lss, dIf_b]
      refine ⟨fun e => absurd e (by simp), fun _ => ?_⟩
      intro r hr
      simp only [Prod.mk.injEq] at hr
      obtain ⟨r0, r3⟩ := hr
      simp only [r0, r3, vNil_p, vFA_p, Nat.zero_add]
      have hnow := hk.now
      rw [vLoad_1 (ob.sub _ _ F.hx) (show (hsHd nm S)[3]? = some (.int .i64 S.now) from rfl)]
      obtain ⟨nw, hnw⟩ : ∃ nw : Nat, S.now = nw := ⟨S.now.toNat, by omega⟩
      unfold nowR at hR
      rw [hnw, Int.toNat_natCast] at hR
      rw [hnw]
      refine putInt_ok (by omega) ?_
      simp only [AEnd.elim, vExt_20, vExt_21]
      exact app_rec ob (by simp; omega) fun g2 s2 ob2 => hR g2 s2 ob2
end
end Go.Pw
/- A house: a new one. -/
set_option linter.unusedSimpArgs false
set_option linter.unusedVariables false
namespace Go.Pw
open Go Go.Proofs

def newHs (c g : Int) : Hs := { L := newLed c g, now := 0, bk := fun _ => { next := 1, l := [] }, au := fun _ => none }
theorem bk0_ok : ({ next := 1, l := [] } : Bk).ok where
  right o h := by simp at h
  ids := List.Pairwise.nil
  pls := List.Pairwise.nil
  pl o h := by simp at h
  len := by simp
  nx := by simp
theorem newHs_ok {c g : Int} (hc1 : 1 ≤ c) (hc2 : c ≤ 16) (hg1 : 1 ≤ g) (hg2 : g ≤ 4) : (newHs c g).ok :=
  ⟨inv_new hc2 hg2 hg1, by show 1 ≤ c.toNat; omega, fun i _ => bk0_ok, fun i _ o h => (by simp [newHs] at h), fun i A w _ h => (by simp [newHs] at h), by simp [newHs]⟩
theorem saleC_new {nm : Nm} {S : Hs} (h : ∀ i, S.au i = none) : rep #[.pointer none, .int .i64 0] (S.G * 2) = saleC nm S := by
  apply Array.ext_getElem?
  intro k
  rcases Nat.lt_or_ge k (S.G * 2) with hk | hk
  · have e1 : (saleC nm S)[k]? = some (if k % 2 = 0 then .pointer none else .int .i64 0) := by
      unfold saleC
      rw [Array.getElem?_ofFn, dif_pos hk]
      simp only
      unfold saleP saleW
      rw [h]
    rw [e1]
    unfold rep
    simp only [Array.getElem?_map, Array.getElem?_range, hk, if_true, Option.map_some]
    congr 1
    have hm : k % 2 < 2 := by omega
    simp only [List.size_toArray, List.length_cons, List.length_nil]
    match hk : k % 2, hm with
    | 0, _ => rfl
    | 1, _ => rfl
  · rw [Array.getElem?_eq_none (by simp [rep]; omega), Array.getElem?_eq_none (by rw [saleC_size]; exact hk)]
theorem stars_emp {A : Nat → PH → Prop} : ∀ (n : Nat), (∀ k, k < n → A k = emp) → stars A n = emp
  | 0, _ => rfl
  | n + 1, h => by unfold stars; rw [stars_emp n fun k hk => h k (by omega), h n (by omega), sep_emp_eq mono_emp]
section
variable {h g : PH} {R : AEnd → PH → Prop} {x : Nat} {nm : Nm} {S : Hs} {C : PH → Prop}
theorem led_of {b : Nat} {L : Led} (H : (pt x (.cells #[.int .i64 L.goods, .slice (some ⟨b, 0, none⟩) L.n L.n] 149 (0, 0)) • pt b (.cells (ledCells L) 132 (0, 0)) • C) h) : (LedP x b L • C) h := by
  rw [← sep_assoc] at H
  refine sep_mono H (fun g hg => ?_) fun _ h => h
  have h1 := pt_get hg
  have h2 := pt_get (sep_c hg)
  refine ⟨h1, h2, fun e => ?_⟩
  rw [e, h2] at h1
  injection h1 with h3
  injection h3 with _ h4
  exact absurd h4 (by decide)
theorem os_pt {e : TypeId} {esz n : Nat} {l : List Value} {s : Value} (H : (OS e esz s n l • C) h) (hn : 0 < n) : ∃ g c cap, s = .slice (some ⟨g, 0, none⟩) n cap ∧ n ≤ cap ∧ (∀ j, j < n * esz → c[j]? = l[j]?) ∧ (pt g (.cells c e (0, 0)) • C) h := by
  obtain ⟨h0, hc, ob⟩ := os_ob H
  rcases ob.buf with ⟨_, e0, _⟩ | ⟨g, c, cap, rfl, hg, hg0, hcs, hle, htk⟩
  · omega
  · refine ⟨g, c, cap, rfl, hle, fun j hj => by rw [← htk, List.getElem?_take, if_pos hj, Array.getElem?_toList], ?_⟩
    refine ⟨one g (.cells c e (0, 0)), h0, fun b hb => ?_, one_sub hg, ob.sub, ins_eq _ _ _, hc⟩
    by_cases e : b = g
    · subst e; exact hg0
    · exact absurd (by unfold one; rw [ins_ne _ _ e]) hb
def ptrsL (ba : Nat → Nat) (n : Nat) : List Value := (List.range n).map fun k => ptr (ba k)
theorem fill_p (v : Value) (hv : v.cells = #[v]) : Instr.fill (fun i => some (i * 1, 1)) (rep #[Value.pointer none] (1 * 1)) [(0, v)] = some #[v] := by
  have e : Array.range 1 = #[0] := by decide
  simp [Instr.fill, rep, hv, e]
def hc0 (l c g : Value) (s : Value) (ss G : Nat) : Array Value := #[l, c, g, .int .i64 0, s, .slice (some ⟨ss, 0, none⟩) G G]
theorem build_house (l c g v : Value) (hl : l.cells = #[l]) (hc : c.cells = #[c]) (hg : g.cells = #[g]) (hv : v.cells = #[v]) :
    Instr.fill (fun i => [(0, 1), (1, 1), (2, 1), (3, 1), (4, 1), (5, 1)][i]?) #[Value.pointer none, .int .i64 0, .int .i64 0, .int .i64 0, .slice none 0 0, .slice none 0 0] [(0, l), (1, c), (2, g), (5, v)] = some #[l, c, g, .int .i64 0, .slice none 0 0, v] := by
  simp [Instr.fill, hl, hc, hg, hv]
theorem h_new {c g : Int} (hc1 : 1 ≤ c) (hc2 : c ≤ 16) (hg1 : 1 ≤ g) (hg2 : g ≤ 4) (hR : ∀ G x nm, (∀ C : PH → Prop, C h → (HsN x nm (newHs c g) • C) G) → nm.ok (newHs c g) → R (.ret (.tuple #[ptr x, .int .i64 0])) G) :
    ACalls Tryz.prog 19 #[.int .i64 c, .int .i64 g] h R := by
  refine call19 ?_
  unfold sh19
  refine new_ok hc1 hc2 hg1 hg2 fun l lb hlb hl hne => ?_
  obtain ⟨C0, hC0, h0⟩ : ∃ C0 : PH → Prop, (∀ g', C0 g' → g' = h) ∧ C0 h := ⟨fun g' => g' = h, fun _ e => e, rfl⟩
  have H1 : (LedP l lb (newLed c g) • C0) (ins (ins h lb (.cells (ledCells (newLed c g)) 132 (0, 0))) l (.cells #[.int .i64 g, .slice (some ⟨lb, 0, none⟩) c.toNat c.toNat] 149 (0, 0))) :=
    led_of (L := newLed c g) (pt_new (by rw [ins_ne _ _ hne]; exact hl) (pt_new hlb h0))
  revert H1
  generalize ins (ins h lb (.cells (ledCells (newLed c g)) 132 (0, 0))) l (.cells #[.int .i64 g, .slice (some ⟨lb, 0, none⟩) c.toNat c.toNat] 149 (0, 0)) = G1
  intro H1
  simp only [AEnd.elim, vExt_20, vExt_21, vBin_neq, decide_true, Bool.not_true, dIf_b]
  refine ⟨fun e => absurd e (by simp), fun _ => ?_⟩
  refine ⟨_, _, _, _, rfl, rfl, by omega, by omega, by omega, by omega, fun ss hss => ?_⟩
  obtain ⟨G, hG⟩ : ∃ G : Nat, g = G := ⟨g.toNat, by omega⟩
  subst hG
  simp only [Int.toNat_natCast]
  refine ⟨_, build_house _ _ _ _ rfl rfl rfl rfl, ?_⟩
  have H2 : (pt ss (.cells (rep #[.pointer none, .int .i64 0] (G * 2)) 98 (0, 0)) • LedP l lb (newLed c G) • C0) (ins G1 ss (.cells (rep #[.pointer none, .int .i64 0] (G * 2)) 98 (0, 0))) := pt_new hss H1
  revert H2
  generalize ins G1 ss (.cells (rep #[.pointer none, .int .i64 0] (G * 2)) 98 (0, 0)) = G2
  intro H2
  refine vNew_i fun x hx => ?_
  rw [show (Value.agg #[ptr l, .int .i64 c, .int .i64 G, .int .i64 0, .slice none 0 0, .slice (some ⟨ss, 0, none⟩) G G]).cells = hc0 (ptr l) (.int .i64 c) (.int .i64 G) (.slice none 0 0) ss G from rfl]
  have H3 : (pt x (.cells (hc0 (ptr l) (.int .i64 c) (.int .i64 G) (.slice none 0 0) ss G) 85 (0, 0)) • pt ss (.cells (rep #[.pointer none, .int .i64 0] (G * 2)) 98 (0, 0)) • LedP l lb (newLed c G) • C0) (ins G2 x (.cells (hc0 (ptr l) (.int .i64 c) (.int .i64 G) (.slice none 0 0) ss G) 85 (0, 0))) := pt_new hx H2
  revert H3
  generalize ins G2 x (.cells (hc0 (ptr l) (.int .i64 c) (.int .i64 G) (.slice none 0 0) ss G) 85 (0, 0)) = G3
  intro H3
  generalize hD : (pt ss (.cells (rep #[.pointer none, .int .i64 0] (G * 2)) 98 (0, 0)) • LedP l lb (newLed c G) • C0) = D at H3
  refine lf_intro (fun m s' g' => ∃ (i : Nat) (s : Value) (ba : Nat → Nat), s' = .int .i64 i ∧ m = G - i ∧ i ≤ G ∧
      (pt x (.cells (hc0 (ptr l) (.int .i64 c) (.int .i64 G) s ss G) 85 (0, 0)) • OS 93 1 s i (ptrsL ba i) • stars (fun k => BkP (ba k) { next := 1, l := [] }) i • D) g') G
    ⟨0, .slice none 0 0, fun _ => 0, rfl, rfl, by omega, ?_⟩ ?_
  · refine sep_mono H3 (fun _ h => h) fun g' hg' => ?_
    refine ob_os (h0 := g') ?_ ⟨Sub.refl _, rfl, .inl ⟨rfl, rfl, rfl⟩⟩
    show (emp • D) g'
    exact sep_c (sep_emp hg')
  rintro m s' g' ⟨i, s, ba, rfl, rfl, hi, H⟩
  by_cases hin : i < G
  · have key : ∀ (kn : (Value × Value) → Value → PH → Prop) x0, (∀ g2 s2 ba2, (pt x (.cells (hc0 (ptr l) (.int .i64 c) (.int .i64 G) s2 ss G) 85 (0, 0)) • OS 93 1 s2 (i + 1) (ptrsL ba2 (i + 1)) • stars (fun k => BkP (ba2 k) { next := 1, l := [] }) (i + 1) • D) g2 → kn (ptr x, .int .i64 G) (.int .i64 ((i : Int) + 1)) g2) →
        b19_6 (fun c h => R (.pan c) h) x0 (ptr x, .int .i64 G) kn (.int .i64 i) g' := by
      intro kn x0 hkn
      unfold b19_6
      have hlt : (i : Int) < (G : Int) := by omega
      simp only [vBin_lss, hlt, decide_true, dIf_b, vNil_p, vFA_p, Nat.zero_add]
      refine ⟨fun _ => ?_, fun e => absurd e (by simp)⟩
      have hxx := pt_get H
      rw [vLoad_1 hxx (v := s) rfl]
      refine bk_new fun g2 b hb hs hC => ?_
      have H4 := hC _ H
      have hxx2 := hs _ _ hxx
      simp only [AEnd.elim]
      rw [vLoad_1 hxx2 (v := s) rfl]
      refine ⟨rfl, by omega, _, fill_p (ptr b) rfl, fun d hd => ⟨by omega, by omega, rfl, ?_⟩⟩
      have H5 : (pt d (.cells #[ptr b] 93 (0, 0)) • BkP b { next := 1, l := [] } • pt x (.cells (hc0 (ptr l) (.int .i64 c) (.int .i64 G) s ss G) 85 (0, 0)) • OS 93 1 s i (ptrsL ba i) • stars (fun k => BkP (ba k) { next := 1, l := [] }) i • D) (ins g2 d (.cells #[ptr b] 93 (0, 0))) := pt_new hd H4
      revert H5
      generalize ins g2 d (.cells #[ptr b] 93 (0, 0)) = g3
      intro H5
      have hdd := pt_get H5
      have e5 : pt d (.cells #[ptr b] 93 (0, 0)) • BkP b { next := 1, l := [] } • pt x (.cells (hc0 (ptr l) (.int .i64 c) (.int .i64 G) s ss G) 85 (0, 0)) • OS 93 1 s i (ptrsL ba i) • stars (fun k => BkP (ba k) { next := 1, l := [] }) i • D =
          OS 93 1 s i (ptrsL ba i) • (pt d (.cells #[ptr b] 93 (0, 0)) • BkP b { next := 1, l := [] } • pt x (.cells (hc0 (ptr l) (.int .i64 c) (.int .i64 G) s ss G) 85 (0, 0)) • stars (fun k => BkP (ba k) { next := 1, l := [] }) i • D) := by ac_rfl
      rw [e5] at H5
      obtain ⟨h6, hc6, ob6⟩ := os_ob H5
      have hd6 := pt_get hc6
      refine ob_app (m := 1) (news := [ptr b]) ob6 (by simp only [roomBytes]; omega) (by omega) rfl
        (fun K' hk' => .inr (.inr ⟨rfl, d, 0, 1, 1, _, _, _, rfl, hdd, by show 0 + 1 * 1 ≤ 1; omega, (by intro v hv; simp at hv; subst hv; rfl), hk'⟩)) (fun b' off l' cc hx' gg cap hs' => ?_) fun g7 s7 ob7 => ?_
      · cases hx'
        intro e
        rcases ob6.buf with ⟨h1', _⟩ | ⟨g3, c3, cap3, h1', h2', h3', _⟩
        · rw [h1'] at hs'; cases hs'
        · rw [h1'] at hs'; cases hs'; rw [← e, hd6] at h3'; cases h3'
      have H7 := ob_os hc6 ob7
      have e7 : OS 93 1 s7 (i + 1) (ptrsL ba i ++ [ptr b]) • (pt d (.cells #[ptr b] 93 (0, 0)) • BkP b { next := 1, l := [] } • pt x (.cells (hc0 (ptr l) (.int .i64 c) (.int .i64 G) s ss G) 85 (0, 0)) • stars (fun k => BkP (ba k) { next := 1, l := [] }) i • D) =
          pt x (.cells (hc0 (ptr l) (.int .i64 c) (.int .i64 G) s ss G) 85 (0, 0)) • (OS 93 1 s7 (i + 1) (ptrsL ba i ++ [ptr b]) • (stars (fun k => BkP (ba k) { next := 1, l := [] }) i • BkP b { next := 1, l := [] }) • (D • pt d (.cells #[ptr b] 93 (0, 0)))) := by ac_rfl
      rw [e7] at H7
      have hxx7 := pt_get H7
      rw [vStore_1 hxx7 (by show 4 < 6; omega) (by rcases ob7.buf with ⟨e, _⟩ | ⟨_, _, _, e, _⟩ <;> rw [e] <;> rfl)]
      simp only [vBin_add]
      rw [w64 (by omega) (by omega)]
      have H8 := pt_put (p := .cells (hc0 (ptr l) (.int .i64 c) (.int .i64 G) s7 ss G) 85 (0, 0)) H7
      refine hkn _ s7 (fun k => if k = i then b else ba k) ?_
      refine sep_mono H8 (fun _ h => h) fun _ h => sep_mono h (fun _ h => ?_) fun _ h => sep_mono h (fun _ h => ?_) fun _ h => sep_l ?_ h
      · have e8 : ptrsL (fun k => if k = i then b else ba k) (i + 1) = ptrsL ba i ++ [ptr b] := by
          unfold ptrsL
          rw [List.range_succ, List.map_append]
          congr 1
          · refine List.map_congr_left fun k hk => ?_
            have := List.mem_range.1 hk
            show ptr (if k = i then b else ba k) = ptr (ba k)
            rw [if_neg (by omega)]
          · simp
        rw [e8]; exact h
      · unfold stars
        have e9 : stars (fun k => BkP (if k = i then b else ba k) { next := 1, l := [] }) i = stars (fun k => BkP (ba k) { next := 1, l := [] }) i := stars_congr _ fun k hk => by
          show BkP (if k = i then b else ba k) _ = BkP (ba k) _
          rw [if_neg (by omega)]
        have e10 : BkP ((fun k => if k = i then b else ba k) i) { next := 1, l := [] } = BkP b { next := 1, l := [] } := by simp
        show (stars (fun k => BkP (if k = i then b else ba k) { next := 1, l := [] }) i • BkP ((fun k => if k = i then b else ba k) i) { next := 1, l := [] }) _
        rw [e9, e10]
        exact h
      · rw [← hD]; exact mono_sep _ _
    exact key _ _ fun g2 s2 ba2 H2 => ⟨rfl, G - (i + 1), by omega, i + 1, s2, ba2, rfl, rfl, by omega, H2⟩
  · have e : i = G := by omega
    subst e
    unfold b19_6
    simp only [vBin_lss, dIf_b]
    refine ⟨fun e => absurd e (by simp), fun _ => ?_⟩
    intro r hr
    simp only [hr]
    rw [← hD] at H
    have e9 : pt x (.cells (hc0 (ptr l) (.int .i64 c) (.int .i64 i) s ss i) 85 (0, 0)) • OS 93 1 s i (ptrsL ba i) • stars (fun k => BkP (ba k) { next := 1, l := [] }) i • (pt ss (.cells (rep #[.pointer none, .int .i64 0] (i * 2)) 98 (0, 0)) • LedP l lb (newLed c i) • C0) =
        OS 93 1 s i (ptrsL ba i) • (pt x (.cells (hc0 (ptr l) (.int .i64 c) (.int .i64 i) s ss i) 85 (0, 0)) • stars (fun k => BkP (ba k) { next := 1, l := [] }) i • (pt ss (.cells (rep #[.pointer none, .int .i64 0] (i * 2)) 98 (0, 0)) • LedP l lb (newLed c i) • C0)) := by ac_rfl
    rw [e9] at H
    obtain ⟨bs, cb, bcap, rfl, hcap, hcb, H⟩ := os_pt H (by omega)
    have eG : (newHs c i).G = i := by unfold Hs.G newHs newLed; simp
    refine hR g' x { l := l, lb := lb, bs := bs, bcap := bcap, cb := cb, ss := ss, ba := ba, aa := fun _ => 0, ab := fun _ => 0 } (fun C hC => ?_) ⟨fun k hk => ?_, by rw [eG]; exact hcap⟩
    · unfold HsN
      have e1 : hsO { l := l, lb := lb, bs := bs, bcap := bcap, cb := cb, ss := ss, ba := ba, aa := fun _ => 0, ab := fun _ => 0 } (newHs c i) = .cells (hc0 (ptr l) (.int .i64 c) (.int .i64 i) (.slice (some ⟨bs, 0, none⟩) i bcap) ss i) 85 (0, 0) := by
        unfold hsO hsHd hc0
        rw [eG]
        have : ((newHs c i).L.n : Int) = c := by show ((c.toNat : Nat) : Int) = c; omega
        rw [this]; rfl
      have e2 : saO { l := l, lb := lb, bs := bs, bcap := bcap, cb := cb, ss := ss, ba := ba, aa := fun _ => 0, ab := fun _ => 0 } (newHs c i) = .cells (rep #[.pointer none, .int .i64 0] (i * 2)) 98 (0, 0) := by
        unfold saO
        rw [← saleC_new (S := newHs c i) (fun _ => rfl), eG]
      rw [e1, e2, eG]
      have e3 : stars (auP { l := l, lb := lb, bs := bs, bcap := bcap, cb := cb, ss := ss, ba := ba, aa := fun _ => 0, ab := fun _ => 0 } (newHs c i)) i = emp := stars_emp i fun k _ => rfl
      rw [e3, sep_emp_eq (mono_stars _ _)]
      have e4 : (pt x (.cells (hc0 (ptr l) (.int .i64 c) (.int .i64 i) (.slice (some ⟨bs, 0, none⟩) i bcap) ss i) 85 (0, 0)) • LedP l lb (newHs c i).L • pt bs (boO { l := l, lb := lb, bs := bs, bcap := bcap, cb := cb, ss := ss, ba := ba, aa := fun _ => 0, ab := fun _ => 0 }) • pt ss (.cells (rep #[.pointer none, .int .i64 0] (i * 2)) 98 (0, 0)) • stars (bkP { l := l, lb := lb, bs := bs, bcap := bcap, cb := cb, ss := ss, ba := ba, aa := fun _ => 0, ab := fun _ => 0 } (newHs c i)) i) • C =
          pt bs (boO { l := l, lb := lb, bs := bs, bcap := bcap, cb := cb, ss := ss, ba := ba, aa := fun _ => 0, ab := fun _ => 0 }) • (pt x (.cells (hc0 (ptr l) (.int .i64 c) (.int .i64 i) (.slice (some ⟨bs, 0, none⟩) i bcap) ss i) 85 (0, 0)) • stars (bkP { l := l, lb := lb, bs := bs, bcap := bcap, cb := cb, ss := ss, ba := ba, aa := fun _ => 0, ab := fun _ => 0 } (newHs c i)) i • (pt ss (.cells (rep #[.pointer none, .int .i64 0] (i * 2)) 98 (0, 0)) • LedP l lb (newHs c i).L • C)) := by ac_rfl
      rw [e4]
      refine sep_mono H (fun _ h => h) fun _ h => sep_mono h (fun _ h => h) fun _ h => sep_mono h (fun _ h => h) fun _ h => sep_mono h (fun _ h => h) fun _ h => sep_mono h (fun _ h => h) fun g2 h => ?_
      rw [hC0 _ h]; exact hC
    · rw [eG] at hk
      have := hcb k (by omega)
      rw [this]
      unfold ptrsL
      rw [List.getElem?_map, List.getElem?_range hk]
      rfl
end
end Go.Pw
/- A house behind some requests. -/
set_option linter.unusedSimpArgs false
set_option linter.unusedVariables false
namespace Go.Pw
open Go Go.Proofs

/-- A request as the laws tell it. -/
structure Ask where
  who : Int
  stamp : Int
  op : OpV
  raw : Bool
  t : ByteArray
def Ask.a (a : Ask) : Array Value := #[.int .i64 a.who, .int .i64 a.stamp, .int .i64 a.op.kind, .int .i64 a.op.good, .int .i64 a.op.am, .int .i64 a.op.side, .int .i64 a.op.id, .float .f64 a.op.price, .bool a.raw, .string a.t]
abbrev Ask.v (a : Ask) : Value := .agg a.a
def Ask.text (a : Ask) : ByteArray := if a.raw then a.t else opB a.op
def Ask.ok (a : Ask) : Prop := a.op.price < 18446744073709551616
def AsksAt (h : PH) (v : Value) (l : List Ask) : Prop :=
  ∃ p cap, v = .slice p l.length cap ∧ l.length ≤ cap ∧ ∀ i a, l[i]? = some a → ∃ b off c e fr, p = some ⟨b, off, none⟩ ∧ h b = some (.cells c e fr) ∧ off + i * 10 + 10 ≤ c.size ∧ c.extract (off + i * 10) (off + i * 10 + 10) = a.a
theorem AsksAt.sub {h g : PH} {v : Value} {l : List Ask} (hv : AsksAt h v l) (hs : Sub h g) : AsksAt g v l := by
  obtain ⟨p, cap, rfl, hc, hel⟩ := hv
  refine ⟨p, cap, rfl, hc, fun i a ha => ?_⟩
  obtain ⟨b, off, c, e, fr, q1, q2, q3⟩ := hel i a ha
  exact ⟨b, off, c, e, fr, q1, hs _ _ q2, q3⟩
/-- All that was there. -/
abbrev Own (h : PH) : PH → Prop := fun g => Sub h g
theorem Own.mono {h : PH} : Mono (Own h) := fun a b hs H => H.trans hs
/-- Behind all of a list of requests. -/
def runH (S : Hs) (l : List Ask) : Hs := l.foldl (fun S a => (doH S a.who a.stamp a.text).S) S
theorem runH_ok : ∀ (l : List Ask) {S : Hs}, S.ok → (runH S l).ok ∧ (runH S l).L.goods = S.L.goods ∧ (runH S l).L.n = S.L.n
  | [], S, h => ⟨h, rfl, rfl⟩
  | a :: l, S, h => by
    obtain ⟨d1, d2, d3⟩ := doH_ok h a.who a.stamp a.text
    obtain ⟨r1, r2, r3⟩ := runH_ok l d1
    exact ⟨r1, r2.trans d2, r3.trans d3⟩
theorem runH_take {S : Hs} {l : List Ask} {i : Nat} {a : Ask} (ha : l[i]? = some a) : runH S (l.take (i + 1)) = (doH (runH S (l.take i)) a.who a.stamp a.text).S := by
  unfold runH
  rw [List.take_add_one, ha, List.foldl_append]; rfl
section
variable {h g : PH} {R : AEnd → PH → Prop} {x : Nat} {nm : Nm} {S : Hs} {C : PH → Prop}
theorem text_ok2 {a : Ask} (ha : a.ok) (hR : R (.ret (.string a.text)) h) : ACalls Tryz.prog 13 #[a.v] h R := by
  refine ACalls.drop (call13 ?_)
  unfold sh13
  rw [show Value.cells a.v = a.a from rfl]
  refine vNew_gen fun c G hc hs hcc => ?_
  simp only [vFA_p, Nat.zero_add]
  rw [vLoad_1 hcc (v := .bool a.raw) rfl, dIf_b]
  unfold Ask.text at hR
  refine ⟨fun hr => ?_, fun hr => ?_⟩
  · rw [if_pos hr] at hR
    rw [vLoad_1 hcc (v := .string a.t) rfl]
    exact ⟨h, hs, hR⟩
  · rw [if_neg (by simp [hr])] at hR
    rw [vLoad_n hcc (off := 2) (n := 6) (by show 2 + 6 ≤ 10; omega), show a.a.extract 2 (2 + 6) = a.op.a from rfl]
    refine opText_ok ha ?_
    simp only [AEnd.elim, vExt_20, vExt_21]
    exact ⟨h, hs, hR⟩
/-- A request, beside what it does not touch. -/
theorem h_doC {who stamp : Int} {op : ByteArray} (H : (HsN x nm S • C) h) (hn : nm.ok S) (hk : S.ok)
    (hR : ∀ g nm', (HsN x nm' (doH S who stamp op).S • C) g → nm'.ok (doH S who stamp op).S → R (.ret (.tuple #[.string (doH S who stamp op).t, .int .i64 (doH S who stamp op).e])) g) :
    ACalls Tryz.prog 12 #[ptr x, .int .i64 who, .int .i64 stamp, .string op] h R := by
  refine ACalls.sep (Q := fun e g => e = .ret (.tuple #[.string (doH S who stamp op).t, .int .i64 (doH S who stamp op).e]) ∧ ∃ nm', nm'.ok (doH S who stamp op).S ∧ HsN x nm' (doH S who stamp op).S g) H (fun g Hg => h_do Hg hn hk fun g' nm' Hg' hn' => ⟨rfl, nm', hn', Hg'⟩) fun e g Hq => ?_
  obtain ⟨he, Hq2⟩ := sep_and.1 Hq
  obtain ⟨nm', Hq3⟩ := sep_ex.1 Hq2
  obtain ⟨hn', Hq4⟩ := sep_and.1 Hq3
  rw [he]
  exact hR g nm' Hq4 hn'
theorem h_recordsC (H : (HsN x nm S • C) h) (hn : nm.ok S) (hk : S.ok) (hR : ∀ g s, (HsN x nm S • OS 42 2 s (hsRecs S).length (recC (hsRecs S)) • C) g → R (.ret s) g) : ACalls Tryz.prog 14 #[ptr x] h R := by
  refine ACalls.sep (Q := fun e g => ∃ s, e = .ret s ∧ (OS 42 2 s (hsRecs S).length (recC (hsRecs S)) • HsN x nm S) g) H (fun g Hg => h_records Hg hn hk fun g' s ob => ⟨s, rfl, ob_os Hg ob⟩) fun e g Hq => ?_
  obtain ⟨s, Hq2⟩ := sep_ex.1 Hq
  obtain ⟨he, Hq⟩ := sep_and.1 Hq2
  rw [he]
  refine hR g s ?_
  have e : (OS 42 2 s (hsRecs S).length (recC (hsRecs S)) • HsN x nm S) • C = HsN x nm S • OS 42 2 s (hsRecs S).length (recC (hsRecs S)) • C := by ac_rfl
  rw [e] at Hq
  exact Hq
theorem recs_os {l : List Rec} {s : Value} (H : OS 42 2 s l.length (recC l) h) : RecsAt h s l := by
  obtain ⟨h0, _, ob⟩ := os_ob (C := emp) (sep_emp H)
  exact recs_of ob
set_option maxRecDepth 10000 in
theorem hbegun_ok {v : Value} {l : List Ask} (hv : AsksAt h v l) (hl : ∀ a ∈ l, a.ok)
    (hR : ∀ g x nm, (HsN x nm (runH (newHs 3 2) (l.take 60)) • Own h) g → nm.ok (runH (newHs 3 2) (l.take 60)) → R (.ret (ptr x)) g) : ACalls Tryz.prog 11 #[v] h R := by
  refine call11 ?_
  unfold sh11
  obtain ⟨p, cap, rfl, _, hel⟩ := hv
  refine h_new (c := 3) (g := 2) (by omega) (by omega) (by omega) (by omega) fun g x nm H0 hn0 => ?_
  have H := H0 (Own h) (Sub.refl h)
  simp only [AEnd.elim, vExt_20, vExt_21]
  rw [vBin_pnil Tryz.underlying28, dIf_b]
  refine ⟨fun e => absurd e (by simp), fun _ => ?_⟩
  have hk0 : (newHs 3 2).ok := newHs_ok (by omega) (by omega) (by omega) (by omega)
  generalize newHs 3 2 = S0 at *
  refine lf_intro (fun m s' g' => ∃ (i : Nat) (nm : Nm), s' = .int .i64 i ∧ m = l.length - i ∧ i ≤ l.length ∧ i ≤ 60 ∧ (HsN x nm (runH S0 (l.take i)) • Own h) g' ∧ nm.ok (runH S0 (l.take i))) l.length ⟨0, nm, rfl, rfl, by omega, by omega, H, hn0⟩ ?_
  rintro m s' g' ⟨i, nm, rfl, rfl, hi, hi60, H, hn⟩
  by_cases hil : i < l.length ∧ i < 60
  · obtain ⟨hil, h60⟩ := hil
    obtain ⟨a, ha⟩ : ∃ a, l[i]? = some a := ⟨_, List.getElem?_eq_getElem hil⟩
    obtain ⟨b', off, c, e, fr, rfl, hc, hsz, hex⟩ := hel i a ha
    have hao := hl a (List.mem_of_getElem? ha)
    have hstep := runH_take (S := S0) ha
    have hk := (runH_ok (l.take i) hk0).1
    generalize runH S0 (l.take i) = S at *
    have key : ∀ (kn : (Value × Value) → Value → PH → Prop) (x0 : Value → PH → Prop), (∀ g2 nm2, (HsN x nm2 (doH S a.who a.stamp a.text).S • Own h) g2 → nm2.ok (doH S a.who a.stamp a.text).S → kn (.slice (some ⟨b', off, none⟩) l.length cap, ptr x) (.int .i64 ((i : Int) + 1)) g2) →
        b11_5 (fun c h => R (.pan c) h) x0 (.slice (some ⟨b', off, none⟩) l.length cap, ptr x) kn (.int .i64 i) g' := by
      intro kn x0 hkn
      unfold b11_5
      have hlt : (i : Int) < (l.length : Int) := by omega
      have hlt60 : (i : Int) < 60 := by omega
      have hcg : g' b' = some (.cells c e fr) := (sep_r Own.mono H) _ _ hc
      have ex : ∀ j, j < 10 → c[off + i * 10 + j]? = a.a[j]? := fun j hj => by
        rw [← hex, Array.getElem?_extract, if_pos (by omega)]
      simp only [vLenS_s, vBin_lss, hlt, decide_true, boolOf_b, gq_b, true_implies, ne_eq, not_true_eq_false, false_implies, and_true, hlt60, vPick_b, cond_true, dIf_b, vIxS_p, vFA_p]
      refine ⟨⟨by omega, trivial, ?_⟩, fun e => absurd e (by simp)⟩
      have e0 : off + (i : Int).toNat * 10 = off + i * 10 := by omega
      rw [e0, Nat.add_zero]
      have l0 : ∀ K, vLoad none (.pointer (some ⟨b', off + i * 10, none⟩)) g' K ↔ K (.int .i64 a.who) := fun K => vLoad_1 hcg ((ex 0 (by omega)).trans rfl)
      have l1 : ∀ K, vLoad none (.pointer (some ⟨b', off + i * 10 + 1, none⟩)) g' K ↔ K (.int .i64 a.stamp) := fun K => vLoad_1 hcg ((ex 1 (by omega)).trans rfl)
      rw [l0]
      refine ⟨by omega, trivial, ?_⟩
      rw [l1]
      refine ⟨by omega, trivial, ?_⟩
      rw [vLoad_n hcg (by omega), hex]
      refine text_ok2 hao ?_
      simp only [AEnd.elim]
      rw [l0, l1]
      refine ⟨rfl, rfl, ?_⟩
      refine h_doC H hn hk fun g2 nm2 H2 hn2 => ?_
      simp only [AEnd.elim, vBin_add]
      rw [w64 (by omega) (by omega)]
      exact hkn g2 nm2 H2 hn2
    exact key _ _ fun g2 nm2 H2 hn2 => ⟨rfl, l.length - (i + 1), by omega, i + 1, nm2, rfl, rfl, by omega, by omega, by rw [hstep]; exact H2, by rw [hstep]; exact hn2⟩
  · have out : ∀ (kn : (Value × Value) → Value → PH → Prop) (x0 : Value → PH → Prop), x0 (ptr x) g' → b11_5 (fun c h => R (.pan c) h) x0 (.slice p l.length cap, ptr x) kn (.int .i64 i) g' := by
      intro kn x0 hx0
      unfold b11_5
      by_cases hil2 : i < l.length
      · have h60 : ¬ (i : Int) < 60 := by omega
        simp [hil2, h60]
        exact hx0
      · simp [hil2]
        exact hx0
    refine out _ _ ?_
    intro r hr
    rw [show r 3 = _ from hr]
    have e : l.take i = l.take 60 := by
      rcases Nat.lt_or_ge i 60 with h1 | h1
      · rw [List.take_of_length_le (by omega), List.take_of_length_le (by omega)]
      · have : i = 60 := by omega
        rw [this]
    rw [e] at H hn
    exact hR _ _ _ H hn
end
end Go.Pw
/- A house: what is told of it; of none. -/
set_option linter.unusedSimpArgs false
set_option linter.unusedVariables false
namespace Go.Pw
open Go Go.Proofs

section
variable {h g : PH} {R : AEnd → PH → Prop} {x : Nat} {nm : Nm} {S : Hs} {C : PH → Prop} {i : Nat}
theorem h_account (H : HsN x nm S h) (hi : i < S.L.n) (hR : R (.ret (.tuple #[.agg (acctCells S.L i), .bool true])) h) : ACalls Tryz.prog 23 #[ptr x, .int .i64 i] h R := by
  refine ACalls.drop (call23 ?_)
  unfold sh23
  refine vNew_i fun c hc => ?_
  have H1 := HsN.mono _ _ (sub_ins (.cells #[.int .i64 0, .int .i64 0, .int .i64 0, .int .i64 0, .int .i64 0, .int .i64 0, .int .i64 0, .int .i64 0, .int .i64 0, .int .i64 0] 61 (0, 0)) hc) H
  rw [vBin_pnil Tryz.underlying28, dIf_b]
  refine ⟨fun e => absurd e (by simp), fun _ => ?_⟩
  simp only [vNil_p, vFA_p, Nat.zero_add, H1.f.lx.ld]
  refine acct_ok H1.f.hl hi ?_
  simp only [AEnd.elim, vExt_20, vExt_21]
  refine vStore_to (cs := acctCells S.L i) (ins_eq _ _ _) (by rfl) (by rfl) (by rfl) ?_
  rw [ins_ins, vLoad_n (ins_eq _ _ _) (by show 0 + 10 ≤ 10; omega)]
  rw [show (acctCells S.L i).extract 0 (0 + 10) = acctCells S.L i from rfl]
  exact ⟨h, sub_ins _ hc, hR⟩
theorem h_now (H : HsN x nm S h) (hR : R (.ret (.int .i64 S.now)) h) : ACalls Tryz.prog 26 #[ptr x] h R := by
  refine call26 ?_
  unfold sh26
  rw [vBin_pnil Tryz.underlying28, dIf_b]
  refine ⟨fun e => absurd e (by simp), fun _ => ?_⟩
  simp only [vNil_p, vFA_p, Nat.zero_add]
  rw [vLoad_1 H.f.hx (show (hsHd nm S)[3]? = some (.int .i64 S.now) from rfl)]
  exact hR
/-! none -/
end
end Go.Pw
/- The example of chapter 9, worked out. -/
set_option linter.unusedSimpArgs false
set_option linter.unusedVariables false
namespace Go.Pw
open Go Go.Proofs

def awOp (k g m d i : Int) (p : Nat) : OpV := { kind := k, good := g, am := m, side := d, id := i, price := p }
def aw0H : Hs := newHs 2 1
def q1 : OpV := awOp 2 0 6400 0 0 0
def q2 : OpV := awOp 4 0 5 0 0 0
def q3 : OpV := awOp 8 0 5 0 1 4611686018427387904
def q4 : OpV := awOp 8 0 3 1 1 4609434218613702656
def q5 : OpV := awOp 1 0 0 0 0 0
theorem enc_6400 : encN 6400 = [128, 50] := by rw [encN_big (by omega), encN_small (by omega)]; rfl
theorem enc0 : encN 0 = [0] := encN_small (by omega)
theorem enc1 : encN 1 = [1] := encN_small (by omega)
theorem ob1 : opB q1 = ⟨#[2, 0, 128, 50, 0, 0, 0, 0, 0, 0, 0, 0, 0, 0]⟩ := by
  have : ¬ ∃ n ∈ q1.nums, n < 0 ∨ 9007199254740992 < n := by decide
  unfold opB
  rw [if_neg this]
  have e : encL q1.nums = [2, 0, 128, 50, 0, 0] := by
    show encN 2 ++ (encN 0 ++ (encN 6400 ++ (encN 0 ++ (encN 0 ++ [])))) = _
    rw [enc_6400, enc0, encN_small (by omega)]; rfl
  rw [e]; rfl
theorem of1 : ofOpO (opB q1) = (q1, 0) := by rw [ob1]; kernel_rfl
def aw1H : Hs := (actH aw0H 0 q1).S.setL (markL (actH aw0H 0 q1).S.L 0 1 ⟨#[0, 0]⟩).2
def aw2H : Hs := (actH aw1H 1 q2).S.setL (markL (actH aw1H 1 q2).S.L 1 2 ⟨#[0, 0]⟩).2
def aw3H : Hs := (actH aw2H 0 q3).S.setL (markL (actH aw2H 0 q3).S.L 0 3 ⟨#[0, 0]⟩).2
def aw4H : Hs := (actH aw3H 1 q4).S.setL (markL (actH aw3H 1 q4).S.L 1 4 ⟨#[0, 0]⟩).2
def aw5H : Hs := (actH aw4H 0 q5).S.setL (markL (actH aw4H 0 q5).S.L 0 5 ⟨#[0, 1]⟩).2
theorem ae1 : (actH aw0H 0 q1).e = 0 := by kernel_rfl
theorem ae2 : (actH aw1H 1 q2).e = 0 := by kernel_rfl
theorem ae3 : (actH aw2H 0 q3).e = 0 := by kernel_rfl
theorem ae4 : (actH aw3H 1 q4).e = 0 := by kernel_rfl
theorem ae5 : (actH aw4H 0 q5).e = 0 := by kernel_rfl
theorem an5 : (actH aw4H 0 q5).n = 1 := by kernel_rfl
theorem an1 : (actH aw0H 0 q1).n = 0 := by kernel_rfl
theorem an2 : (actH aw1H 1 q2).n = 0 := by kernel_rfl
theorem an3 : (actH aw2H 0 q3).n = 0 := by kernel_rfl
theorem an4 : (actH aw3H 1 q4).n = 0 := by kernel_rfl
theorem as0 : aw0H.L.f 0 10 = 0 := by kernel_rfl
theorem as1 : aw1H.L.f 1 10 = 0 := by kernel_rfl
theorem as2 : aw2H.L.f 0 10 = 1 := by kernel_rfl
theorem as3 : aw3H.L.f 1 10 = 2 := by kernel_rfl
theorem as4 : aw4H.L.f 0 10 = 3 := by kernel_rfl
theorem av1 : aw5H.now = 1 := by kernel_rfl
theorem av2 : aw5H.L.f 0 2 = 3 := by kernel_rfl
theorem av3 : aw5H.L.f 0 0 = 6112 := by kernel_rfl
theorem av4 : aw5H.L.f 0 1 = 256 := by kernel_rfl
theorem av5 : aw5H.L.f 1 0 = 288 := by kernel_rfl
theorem av6 : aw5H.L.f 1 6 = 0 := by kernel_rfl
end Go.Pw
/- The example of chapter 9, walked. -/
set_option linter.unusedSimpArgs false
set_option linter.unusedVariables false
namespace Go.Pw
open Go Go.Proofs

theorem encL_small : ∀ {l : List Int}, (∀ n ∈ l, 0 ≤ n ∧ n < 128) → encL l = l.map fun n => UInt8.ofNat n.toNat
  | [], _ => rfl
  | n :: l, h => by
    have h1 := h n (by simp)
    have h2 := encL_small (l := l) fun x hx => h x (by simp [hx])
    show encN n.toNat ++ encL l = _
    rw [h2, encN_small (by omega)]; rfl
theorem opB_small {o : OpV} (h : ∀ n ∈ o.nums, 0 ≤ n ∧ n < 128) : opB o = ⟨(o.nums.map (fun n => UInt8.ofNat n.toNat) ++ le8 o.price 8).toArray⟩ := by
  unfold opB
  rw [if_neg (by rintro ⟨n, hn, h1⟩; have := h n hn; omega), encL_small h]
theorem of2 : ofOpO (opB q2) = (q2, 0) := by rw [opB_small (by decide)]; kernel_rfl
theorem of3 : ofOpO (opB q3) = (q3, 0) := by rw [opB_small (by decide)]; kernel_rfl
theorem of4 : ofOpO (opB q4) = (q4, 0) := by rw [opB_small (by decide)]; kernel_rfl
theorem of5 : ofOpO (opB q5) = (q5, 0) := by rw [opB_small (by decide)]; kernel_rfl
def ask (w : Int) (q : OpV) : Ask := { who := w, stamp := 0, op := q, raw := false, t := ⟨#[]⟩ }
def awL : List Ask := [ask 0 q1, ask 1 q2, ask 0 q3, ask 1 q4, ask 0 q5]
def awS : Nat → Hs
  | 0 => aw0H
  | 1 => aw1H
  | 2 => aw2H
  | 3 => aw3H
  | 4 => aw4H
  | _ => aw5H
def awT : Nat → ByteArray
  | 4 => ⟨#[0, 1]⟩
  | _ => ⟨#[0, 0]⟩
theorem do_step {S : Hs} {w : Nat} {stamp : Int} {op : ByteArray} {o : OpV} {n : Nat} {c : UInt8} (hw : w < S.L.n) (hs : 1 ≤ stamp ∧ stamp ≤ 1099511627776) (hl : S.L.f w 10 < stamp) (ho : ofOpO op = (o, 0)) (he : (actH S w o).e = 0) (hn : (actH S w o).n = n) (hc : encN n = [c]) :
    doH S w stamp op = ⟨⟨#[0, c]⟩, 0, (actH S w o).S.setL (markL (actH S w o).S.L w stamp ⟨#[0, c]⟩).2⟩ := by
  unfold doH
  rw [if_neg (by omega), if_neg (by omega), if_neg (by rw [Int.toNat_natCast]; omega)]
  simp only [Int.toNat_natCast]
  have hd : didH S w op = actH S w o := by unfold didH; rw [ho]; simp
  rw [hd]
  have hr : repB (actH S w o).e (actH S w o).n = ⟨#[0, c]⟩ := by
    unfold repB
    rw [he, hn, Int.toNat_natCast, hc, show (0 : Int).toNat = 0 from rfl, enc0]
    rfl
  unfold markH
  rw [hr]
theorem aw_do {i : Nat} {a : Ask} (ha : awL[i]? = some a) : doH (awS i) a.who ((i : Int) + 1) a.text = ⟨awT i, 0, awS (i + 1)⟩ ∧ a.ok := by
  have tx : ∀ w q, (ask w q).text = opB q := fun w q => by simp [Ask.text, ask]
  match i, ha with
  | 0, ha => cases ha; rw [tx]; exact ⟨do_step (w := 0) (n := 0) (by decide) (by decide) (by rw [show (awS 0).L.f 0 10 = 0 from as0]; decide) of1 ae1 an1 enc0, by unfold Ask.ok; decide⟩
  | 1, ha => cases ha; rw [tx]; exact ⟨do_step (w := 1) (n := 0) (by decide) (by decide) (by rw [show (awS 1).L.f 1 10 = 0 from as1]; decide) of2 ae2 an2 enc0, by unfold Ask.ok; decide⟩
  | 2, ha => cases ha; rw [tx]; exact ⟨do_step (w := 0) (n := 0) (by decide) (by decide) (by rw [show (awS 2).L.f 0 10 = 1 from as2]; decide) of3 ae3 an3 enc0, by unfold Ask.ok; decide⟩
  | 3, ha => cases ha; rw [tx]; exact ⟨do_step (w := 1) (n := 0) (by decide) (by decide) (by rw [show (awS 3).L.f 1 10 = 2 from as3]; decide) of4 ae4 an4 enc0, by unfold Ask.ok; decide⟩
  | 4, ha => cases ha; rw [tx]; exact ⟨do_step (w := 0) (n := 1) (by decide) (by decide) (by rw [show (awS 4).L.f 0 10 = 3 from as4]; decide) of5 ae5 an5 enc1, by unfold Ask.ok; decide⟩
  | i + 5, ha => simp [awL] at ha
def z10 : Array Value := #[.int .i64 0, .int .i64 0, .int .i64 0, .int .i64 0, .int .i64 0, .int .i64 0, .int .i64 0, .float .f64 0, .bool false, .string ⟨#[]⟩]
def awC : Array Value := (awL.flatMap fun a => a.a.toList).toArray
theorem fill_ask (w : Int) (q : OpV) : Instr.fill (fun i => [(0, 1), (1, 1), (2, 6), (8, 1), (9, 1)][i]?) z10 [(0, .int .i64 w), (2, .agg q.a)] = some (ask w q).a := by kernel_rfl
theorem fill_awL : Instr.fill (fun i => some (i * 10, 10)) (rep z10 (5 * 10)) [(0, .agg (ask 0 q1).a), (1, .agg (ask 1 q2).a), (2, .agg (ask 0 q3).a), (3, .agg (ask 1 q4).a), (4, .agg (ask 0 q5).a)] = some awC := by kernel_rfl
theorem aex0 : awC.extract (0 * 10) (0 * 10 + 10) = (ask 0 q1).a := by kernel_rfl
theorem aex1 : awC.extract (1 * 10) (1 * 10 + 10) = (ask 1 q2).a := by kernel_rfl
theorem aex2 : awC.extract (2 * 10) (2 * 10 + 10) = (ask 0 q3).a := by kernel_rfl
theorem aex3 : awC.extract (3 * 10) (3 * 10 + 10) = (ask 1 q4).a := by kernel_rfl
theorem aex4 : awC.extract (4 * 10) (4 * 10 + 10) = (ask 0 q5).a := by kernel_rfl
theorem awC_ext {i : Nat} {a : Ask} (ha : awL[i]? = some a) : awC.extract (i * 10) (i * 10 + 10) = a.a := by
  match i, ha with
  | 0, ha => cases ha; exact aex0
  | 1, ha => cases ha; exact aex1
  | 2, ha => cases ha; exact aex2
  | 3, ha => cases ha; exact aex3
  | 4, ha => cases ha; exact aex4
  | i + 5, ha => simp [awL] at ha
section
variable {h g : PH} {R : AEnd → PH → Prop}
set_option maxRecDepth 10000 in
theorem hawake_ok (hR : R (.ret (.bool true)) h) : ACalls Tryz.prog 16 #[] h R := by
  refine ACalls.drop (call16 ?_)
  unfold sh16
  refine h_new (c := 2) (g := 1) (by omega) (by omega) (by omega) (by omega) fun g x nm H0 hn0 => ?_
  have H := H0 (Own h) (Sub.refl h)
  clear H0
  simp only [AEnd.elim, vExt_20, vExt_21, vBin_neq, decide_true, Bool.not_true, boolOf_b, gq_b, true_implies, ne_eq, not_true_eq_false, false_implies, and_true]
  rw [vBin_pnil Tryz.underlying28]
  simp only [vPick_b, cond_false, dIf_b]
  refine ⟨fun e => absurd e (by simp), fun _ => ?_⟩
  refine ⟨q1.a, by rfl, (ask 0 q1).a, fill_ask 0 q1, q2.a, by rfl, (ask 1 q2).a, fill_ask 1 q2, q3.a, by rfl, (ask 0 q3).a, fill_ask 0 q3, q4.a, by rfl, (ask 1 q4).a, fill_ask 1 q4, q5.a, by rfl, (ask 0 q5).a, fill_ask 0 q5, ?_⟩
  refine ⟨by omega, awC, fill_awL, fun d hd => ?_⟩
  have H1 : (pt d (.cells awC 27 (0, 0)) • HsN x nm (awS 0) • Own h) (ins g d (.cells awC 27 (0, 0))) := pt_new hd H
  have H2 : (HsN x nm (awS 0) • pt d (.cells awC 27 (0, 0)) • Own h) (ins g d (.cells awC 27 (0, 0))) := by rw [sep_lc]; exact H1
  clear H1
  revert H2
  generalize ins g d (.cells awC 27 (0, 0)) = g1
  intro H2
  have hk0 : ∀ i, (awS i).ok := by
    have k0 : (awS 0).ok := newHs_ok (by omega) (by omega) (by omega) (by omega)
    have st : ∀ i, i < 5 → (awS i).ok → (awS (i + 1)).ok := fun i hi hk => by
      have hl : i < awL.length := hi
      have := (aw_do (List.getElem?_eq_getElem hl)).1
      have h1 := (doH_ok hk (awL[i]'hl).who ((i : Int) + 1) (awL[i]'hl).text).1
      rw [this] at h1
      exact h1
    have k1 := st 0 (by omega) k0
    have k2 := st 1 (by omega) k1
    have k3 := st 2 (by omega) k2
    have k4 := st 3 (by omega) k3
    have k5 := st 4 (by omega) k4
    intro i
    match i with
    | 0 => exact k0
    | 1 => exact k1
    | 2 => exact k2
    | 3 => exact k3
    | 4 => exact k4
    | i + 5 => exact k5
  refine lf_intro (fun m s' g' => ∃ (i : Nat) (nm : Nm), s' = (.bool false, .int .i64 i) ∧ m = 5 - i ∧ i ≤ 5 ∧ (HsN x nm (awS i) • pt d (.cells awC 27 (0, 0)) • Own h) g' ∧ nm.ok (awS i)) 5 ⟨0, nm, rfl, rfl, by omega, H2, hn0⟩ ?_
  clear H2 hn0 H hd
  rintro m s' g' ⟨i, nm, rfl, rfl, hi, H, hn⟩
  by_cases hil : i < 5
  · have hl : i < awL.length := hil
    have ha : awL[i]? = some awL[i] := List.getElem?_eq_getElem hl
    generalize awL[i] = a at ha
    obtain ⟨hdo, hao⟩ := aw_do ha
    have hex := awC_ext ha
    have hcc := pt_get (sep_r (mono_sep _ _) H)
    have hsz : awC.size = 50 := by kernel_rfl
    have ex : ∀ j, j < 10 → awC[i * 10 + j]? = a.a[j]? := fun j hj => by
      rw [← hex, Array.getElem?_extract, if_pos (by omega)]
    have hk := hk0 i
    have key : ∀ (kn : (Value × Value) → (Value × Value) → PH → Prop) x0 xr, (∀ g2 nm2, (HsN x nm2 (awS (i + 1)) • pt d (.cells awC 27 (0, 0)) • Own h) g2 → nm2.ok (awS (i + 1)) → kn (ptr x, .slice (some ⟨d, 0, none⟩) 5 5) (.bool false, .int .i64 ((i : Int) + 1)) g2) →
        b16_6 (fun c h' => ∃ g, Sub g h' ∧ R (.pan c) g) x0 xr (ptr x, .slice (some ⟨d, 0, none⟩) 5 5) kn (.bool false, .int .i64 i) g' := by
      intro kn x0 xr hkn
      unfold b16_6
      have hlt : (i : Int) < ((5 : Nat) : Int) := by omega
      simp only [vLenS_s, vBin_lss, hlt, decide_true, dIf_b, vIxS_p, vFA_p]
      refine ⟨fun _ => ⟨by omega, by omega, ?_⟩, fun e => absurd e (by simp)⟩
      have e0 : 0 + (i : Int).toNat * 10 = i * 10 := by omega
      rw [e0, Nat.add_zero]
      have l0 : ∀ K, vLoad none (.pointer (some ⟨d, i * 10, none⟩)) g' K ↔ K (.int .i64 a.who) := fun K => vLoad_1 hcc ((ex 0 (by omega)).trans rfl)
      rw [l0, vBin_add, w64 (by omega) (by omega)]
      refine ⟨by omega, by omega, ?_⟩
      rw [vLoad_n hcc (by omega), hex]
      refine text_ok2 hao ?_
      simp only [AEnd.elim]
      rw [l0]
      refine ⟨rfl, ?_⟩
      refine h_doC H hn hk ?_
      rw [hdo]
      intro g2 nm2 H2 hn2
      have hT : awT i = ⟨#[0, 0]⟩ ∨ awT i = ⟨#[0, 1]⟩ := by
        match i with
        | 0 => exact .inl rfl
        | 1 => exact .inl rfl
        | 2 => exact .inl rfl
        | 3 => exact .inl rfl
        | 4 => exact .inr rfl
        | i + 5 => exact .inl rfl
      obtain ⟨c, hc⟩ : ∃ c : UInt8, awT i = ⟨#[0, c]⟩ := by rcases hT with h | h <;> exact ⟨_, h⟩
      simp only [AEnd.elim, vExt_20, vExt_21, vBin_neq, decide_true, Bool.not_true, boolOf_b, gq_b, true_implies, ne_eq, not_true_eq_false, false_implies, and_true, vLenStr_s, vPick_b, cond_false]
      rw [hc]
      have hsz2 : ((ByteArray.size ⟨#[0, c]⟩ : Nat) : Int) = 2 := rfl
      rw [hsz2]
      simp only [decide_true, Bool.not_true, boolOf_b, gq_b, true_implies, ne_eq, not_true_eq_false, false_implies, and_true, vPick_b, cond_false]
      refine ⟨⟨#[0, c]⟩, _, _, 0, rfl, rfl, by omega, rfl, ?_⟩
      refine (vBin_neq 5 .u8 0 0).2 ?_
      simp only [decide_true, Bool.not_true, vPick_b, cond_false, dIf_b, vBin_add]
      refine ⟨fun e => absurd e (by simp), fun _ => ?_⟩
      rw [w64 (by omega) (by omega)]
      exact hkn g2 nm2 H2 hn2
    exact key _ _ _ fun g2 nm2 H2 hn2 => ⟨rfl, 5 - (i + 1), by omega, i + 1, nm2, rfl, rfl, by omega, H2, hn2⟩
  · have e : i = 5 := by omega
    subst e
    unfold b16_6
    simp only [vLenS_s, vBin_lss, dIf_b]
    refine ⟨fun e => absurd e (by simp), fun _ => ?_⟩
    intro r hr
    simp only [Prod.mk.injEq] at hr
    obtain ⟨r0, r1⟩ := hr
    simp only [r0, r1]
    have hsub : Sub h g' := sep_r Own.mono (sep_r (mono_sep _ _) H)
    have HN : HsN x nm aw5H g' := sep_l HsN.mono H
    clear H
    have hn5 : aw5H.L.n = 2 := by kernel_rfl
    refine h_account (i := 0) HN (by omega) ?_
    simp only [AEnd.elim, vExt_20, vExt_21]
    refine vNew_i fun c1 hc1 => ?_
    refine vStore_to (cs := acctCells aw5H.L 0) (ins_eq _ _ _) (by rfl) (by rfl) (by rfl) ?_
    rw [ins_ins]
    have s1 : Sub g' (ins g' c1 (.cells (acctCells aw5H.L 0) 61 (0, 0))) := sub_ins _ hc1
    have q1' : ins g' c1 (.cells (acctCells aw5H.L 0) 61 (0, 0)) c1 = some (.cells (acctCells aw5H.L 0) 61 (0, 0)) := ins_eq _ _ _
    revert s1 q1'
    generalize ins g' c1 (.cells (acctCells aw5H.L 0) 61 (0, 0)) = G1
    intro s1 k1
    have HN1 := HsN.mono _ _ s1 HN
    refine h_account (i := 1) HN1 (by omega) ?_
    simp only [AEnd.elim, vExt_20, vExt_21]
    refine vNew_i fun c2 hc2 => ?_
    refine vStore_to (cs := acctCells aw5H.L 1) (ins_eq _ _ _) (by rfl) (by rfl) (by rfl) ?_
    rw [ins_ins]
    have s2 : Sub G1 (ins G1 c2 (.cells (acctCells aw5H.L 1) 61 (0, 0))) := sub_ins _ hc2
    have k2 : ins G1 c2 (.cells (acctCells aw5H.L 1) 61 (0, 0)) c2 = some (.cells (acctCells aw5H.L 1) 61 (0, 0)) := ins_eq _ _ _
    revert s2 k2
    generalize ins G1 c2 (.cells (acctCells aw5H.L 1) 61 (0, 0)) = G2
    intro s2 k2
    have k1' := s2 _ _ k1
    refine h_now (HsN.mono _ _ s2 HN1) ?_
    have ld := fun {j : Nat} {v : Value} (hv : (acctCells aw5H.L 0)[j]? = some v) (K : Value → Prop) => vLoad_1 (K := K) k1' hv
    have ld2 := fun {j : Nat} {v : Value} (hv : (acctCells aw5H.L 1)[j]? = some v) (K : Value → Prop) => vLoad_1 (K := K) k2 hv
    have a0 := ld (j := 0) (v := .int .i64 6112) (by show some (Value.int .i64 (aw5H.L.f 0 0)) = _; rw [av3])
    have a1 := ld (j := 1) (v := .int .i64 256) (by show some (Value.int .i64 (aw5H.L.f 0 1)) = _; rw [av4])
    have a2 := ld (j := 2) (v := .int .i64 3) (by show some (Value.int .i64 (aw5H.L.f 0 2)) = _; rw [av2])
    have b0 := ld2 (j := 0) (v := .int .i64 288) (by show some (Value.int .i64 (aw5H.L.f 1 0)) = _; rw [av5])
    have b6 := ld2 (j := 6) (v := .int .i64 0) (by show some (Value.int .i64 (aw5H.L.f 1 6)) = _; rw [av6])
    rw [av1]
    simp [AEnd.elim, a0, a1, a2, b0, b6]
    exact ⟨h, (hsub.trans s1).trans s2, hR⟩
end
end Go.Pw
/- A house: what a request leaves as it was. -/
set_option linter.unusedSimpArgs false
set_option linter.unusedVariables false
namespace Go.Pw
open Go Go.Proofs

/-! what belongs to another client -/
section
variable {L : Led} {i k : Nat} {g n p : Int}
theorem hold_C (hk : i ≠ k) : sameC L (holdH L k n) i := by
  unfold holdH holdL freeL
  (repeat' split) <;> first | exact sameC_refl L i | exact sameC_set (sameC_refl L i) hk
theorem lock_C (hk : i ≠ k) : sameC L (lockH L k g n) i := by
  unfold lockH lockL unlockL
  (repeat' split) <;> first | exact sameC_refl L i | exact sameC_set (sameC_refl L i) hk
theorem sameC_trans {A B C : Led} (h : sameC A B i) (k : sameC B C i) : sameC A C i := ⟨fun j => (k.1 j).trans (h.1 j), k.2.trans h.2⟩
end
section
variable {S : Hs} {who : Nat} {o : OpV} {i : Nat}
theorem actH_C (ht : o.kind ≠ 1) (hi : i ≠ who) : sameC S.L (actH S who o).S.L i := by
  unfold actH
  rw [if_neg ht]
  repeat' split
  · unfold payL; (repeat' split) <;> first | exact sameC_refl _ i | exact sameC_set (sameC_refl _ i) hi
  · unfold takeL; (repeat' split) <;> first | exact sameC_refl _ i | exact sameC_set (sameC_refl _ i) hi
  · unfold storeL; (repeat' split) <;> first | exact sameC_refl _ i | exact sameC_set (sameC_refl _ i) hi
  · unfold fetchL; (repeat' split) <;> first | exact sameC_refl _ i | exact sameC_set (sameC_refl _ i) hi
  · unfold offerH
    (repeat' split) <;> first | exact sameC_refl _ i | skip
    simp only [Hs.setL]
    unfold lockL
    (repeat' split) <;> first | exact sameC_refl _ i | exact sameC_set (sameC_refl _ i) hi
  · unfold wantH
    split
    · exact sameC_refl _ i
    · split
      · exact sameC_refl _ i
      · simp only
        (repeat' split) <;> first | exact sameC_refl _ i | exact hold_C hi
  · unfold putH
    simp only
    (repeat' split) <;> first | exact sameC_refl _ i | exact sameC_trans (hold_C hi) (lock_C hi)
  · unfold amendH
    simp only
    (repeat' split) <;> first | exact sameC_refl _ i | exact sameC_trans (hold_C hi) (lock_C hi)
  · unfold cancelH
    simp only
    (repeat' split) <;> first | exact sameC_refl _ i | exact hold_C hi | exact lock_C hi
  · exact sameC_refl _ i
theorem markL_C {L : Led} {s : Int} {t : ByteArray} (hi : i ≠ who) : sameC L (markL L who s t).2 i := by
  unfold markL
  (repeat' split) <;> first | exact sameC_refl _ i | exact sameC_setR (sameC_set (sameC_refl _ i) hi) hi
/-- A request that lets no time go on leaves the others' accounts. -/
theorem doH_C {who stamp : Int} {op : ByteArray} (ht : (ofOpO op).2 = 0 → (ofOpO op).1.kind ≠ 1) (hi : (i : Int) ≠ who) : sameC S.L (doH S who stamp op).S.L i := by
  unfold doH
  repeat' split
  · exact sameC_refl _ i
  · exact sameC_refl _ i
  · exact sameC_refl _ i
  · have hd : sameC S.L (didH S who.toNat op).S.L i := by
      unfold didH
      split
      · rename_i h; exact actH_C (ht h) (by omega)
      · exact sameC_refl _ i
    exact sameC_trans hd (markL_C (by omega))
/-! what is refused -/
end
end Go.Pw
/- A stamp takes effect once; the walk. -/
set_option linter.unusedSimpArgs false
set_option linter.unusedVariables false
namespace Go.Pw
open Go Go.Proofs

section
variable {h g : PH} {R : AEnd → PH → Prop}
/-- An argument's request, laid. -/
structure AskIn (G : PH) (c : Nat) (a : Ask) : Prop where
  hc : G c = some (.cells a.a 27 (0, 0))
theorem AskIn.sub {G g : PH} {c : Nat} {a : Ask} (H : AskIn G c a) (hs : Sub G g) : AskIn g c a := ⟨hs _ _ H.hc⟩
theorem AskIn.w {G : PH} {c : Nat} {a : Ask} {K : Value → Prop} (H : AskIn G c a) : vLoad none (.pointer (some ⟨c, 0, none⟩)) G K ↔ K (.int .i64 a.who) := vLoad_1 H.hc rfl
theorem AskIn.s {G : PH} {c : Nat} {a : Ask} {K : Value → Prop} (H : AskIn G c a) : vLoad none (.pointer (some ⟨c, 1, none⟩)) G K ↔ K (.int .i64 a.stamp) := vLoad_1 H.hc rfl
theorem AskIn.all {G : PH} {c : Nat} {a : Ask} {K : Value → Prop} (H : AskIn G c a) : vLoad (some 10) (.pointer (some ⟨c, 0, none⟩)) G K ↔ K a.v := by
  rw [vLoad_n H.hc (off := 0) (n := 10) (by show 0 + 10 ≤ 10; omega)]; rfl
end
end Go.Pw
/- The document's reader of requests reads what the program's reads. -/
set_option linter.unusedSimpArgs false
set_option linter.unusedVariables false
namespace Go.Pw
open Go Go.Proofs

/-- The first numbers of a text. -/
def numsR (s : List UInt8) : Nat → Nat → Rd (List Nat)
  | 0, at_ => .ok [] at_
  | k + 1, at_ => match numsR s k at_ with
    | .bad e => .bad e
    | .ok l a => match rdNum s a with
      | .bad e => .bad e
      | .ok n b => .ok (l ++ [n]) b
theorem numsR_len {s : List UInt8} : ∀ {k at_ : Nat} {l : List Nat} {a : Nat}, numsR s k at_ = .ok l a → l.length = k
  | 0, at_, l, a, h => by cases h; rfl
  | k + 1, at_, l, a, h => by
    unfold numsR at h
    cases h1 : numsR s k at_ with
    | bad e => rw [h1] at h; cases h
    | ok l' a' =>
      rw [h1] at h
      simp only at h
      cases h2 : rdNum s a' with
      | bad e => rw [h2] at h; cases h
      | ok n b => rw [h2] at h; cases h; simp [numsR_len h1]
theorem numsR_le {s : List UInt8} : ∀ {k : Nat} {l : List Nat} {a : Nat}, numsR s k 0 = .ok l a → a ≤ s.length
  | 0, l, a, h => by cases h; omega
  | k + 1, l, a, h => by
    unfold numsR at h
    cases h1 : numsR s k 0 with
    | bad e => rw [h1] at h; cases h
    | ok l' a' =>
      rw [h1] at h
      simp only at h
      cases h2 : rdNum s a' with
      | bad e => rw [h2] at h; cases h
      | ok n b => rw [h2] at h; cases h; exact rdN_le _ _ _ _ _ _ h2
/-- The same of the five numbers at once. -/
theorem ofOpO_nums (s : ByteArray) : ofOpO s = if 256 < s.size then (op0, 4) else match numsR s.data.toList 5 0 with
    | .bad e => (op0, e)
    | .ok l a => if s.size < a + 8 then (op0, 10) else if a + 8 < s.size then (op0, 12) else
      ({ kind := l.getD 0 0, good := l.getD 1 0, am := l.getD 2 0, side := l.getD 3 0, id := l.getD 4 0, price := un8 (s.extract a (a + 8)).data.toList }, 0) := by
  unfold ofOpO
  split
  · rfl
  · simp only [numsR]
    cases h0 : rdNum s.data.toList 0 with
    | bad e => rfl
    | ok k a1 =>
      simp only
      cases h1 : rdNum s.data.toList a1 with
      | bad e => rfl
      | ok g a2 =>
        simp only
        cases h2 : rdNum s.data.toList a2 with
        | bad e => rfl
        | ok m a3 =>
          simp only
          cases h3 : rdNum s.data.toList a3 with
          | bad e => rfl
          | ok d a4 =>
            simp only
            cases h4 : rdNum s.data.toList a4 with
            | bad e => rfl
            | ok i a5 => simp only; rfl
def pad5 (l : List Nat) : Array Value := #[.int .i64 (l.getD 0 0), .int .i64 (l.getD 1 0), .int .i64 (l.getD 2 0), .int .i64 (l.getD 3 0), .int .i64 (l.getD 4 0)]
theorem pad5_set {l : List Nat} {n : Nat} (h : l.length < 5) : (pad5 l).setIfInBounds l.length (.int .i64 n) = pad5 (l ++ [n]) := by
  match l, h with
  | [], _ => rfl
  | [a], _ => rfl
  | [a, b], _ => rfl
  | [a, b, c], _ => rfl
  | [a, b, c, d], _ => rfl
theorem un8_drop {l : List UInt8} {i : Nat} {c : UInt8} (hc : l[i]? = some c) : un8 (l.drop i) = c.toNat + 256 * un8 (l.drop (i + 1)) := by
  have : l.drop i = c :: l.drop (i + 1) := by
    obtain ⟨h1, h2⟩ := List.getElem?_eq_some_iff.1 hc
    rw [List.drop_eq_getElem_cons h1, h2]
  rw [this]; rfl
theorem build_op (a b c d e : Int) (p : Nat) : Instr.fill (fun i => [(0, 1), (1, 1), (2, 1), (3, 1), (4, 1), (5, 1)][i]?) #[Value.int .i64 0, .int .i64 0, .int .i64 0, .int .i64 0, .int .i64 0, .float .f64 0] [(0, .int .i64 a), (1, .int .i64 b), (2, .int .i64 c), (3, .int .i64 d), (4, .int .i64 e), (5, .float .f64 p)] =
    some (OpV.a { kind := a, good := b, am := c, side := d, id := e, price := p }) := by kernel_rfl
section
variable {h g : PH} {R : AEnd → PH → Prop} {s : ByteArray}
set_option maxRecDepth 10000 in
theorem rOfOp_ok (hR : R (.ret (.tuple #[(ofOpO s).1.v, .int .i64 (ofOpO s).2])) h) : ACalls Tryz.prog 17 #[.string s] h R := by
  refine ACalls.drop (call17 ?_)
  unfold sh17
  rw [ofOpO_nums] at hR
  have bz : Instr.fill (fun i => [(0, 1), (1, 1), (2, 1), (3, 1), (4, 1), (5, 1)][i]?) #[Value.int .i64 0, .int .i64 0, .int .i64 0, .int .i64 0, .int .i64 0, .float .f64 0] [] = some op0.a := by rfl
  refine vNew_i fun c hc => ?_
  have hcc := ins_eq h c (.cells op0.a 25 (0, 0))
  have hs0 : Sub h (ins h c (.cells op0.a 25 (0, 0))) := sub_ins _ hc
  have e0 : ins h c (.cells #[.int .i64 0, .int .i64 0, .int .i64 0, .int .i64 0, .int .i64 0, .float .f64 0] 25 (0, 0)) = ins h c (.cells op0.a 25 (0, 0)) := rfl
  rw [e0]
  simp only [vLenStr_s, vBin_gtr, dIf_b, decide_eq_true_eq, decide_eq_false_iff_not]
  refine ⟨fun hlong => ?_, fun hshort => ?_⟩
  · rw [if_pos (by omega)] at hR
    refine ⟨_, bz, ?_⟩
    refine vStore_to (cs := op0.a) hcc (by rfl) (by rfl) (by rfl) ?_
    rw [ins_ins, vLoad_n hcc (off := 0) (n := 6) (by show 0 + 6 ≤ 6; omega)]
    exact ⟨h, hs0, hR⟩
  rw [if_neg (by omega)] at hR
  have hz : s.size < 4611686018427387000 := by omega
  -- what ends the reading: op0 is told
  have bad : ∀ {e : Int} {G : PH} {o : Obj}, Sub h G → h c = none → R (.ret (.tuple #[op0.v, .int .i64 e])) h → ∃ g, Sub g (ins G c o) ∧ R (.ret (.tuple #[op0.v, .int .i64 e])) g := fun hs _ hr => ⟨h, Sub.put hs hc, hr⟩
  refine vNew_i fun d hd => ?_
  obtain ⟨hd1, hdc⟩ := fresh_of hd
  have st : ∀ l : List Nat, True := fun _ => trivial
  -- two cells beside h
  have two : ∀ {cc dd : Array Value}, Sub h (ins (ins h c (.cells cc 25 (0, 0))) d (.cells dd 99 (0, 0))) := fun {cc dd} => Sub.put (Sub.put (Sub.refl h) hc) hd1
  have gc : ∀ {cc dd : Array Value}, ins (ins h c (.cells cc 25 (0, 0))) d (.cells dd 99 (0, 0)) c = some (.cells cc 25 (0, 0)) := fun {cc dd} => by rw [ins_ne _ _ hdc.symm]; exact ins_eq _ _ _
  have gd : ∀ {cc dd : Array Value}, ins (ins h c (.cells cc 25 (0, 0))) d (.cells dd 99 (0, 0)) d = some (.cells dd 99 (0, 0)) := ins_eq _ _ _
  have pc : ∀ {cc dd cc' : Array Value}, ins (ins (ins h c (.cells cc 25 (0, 0))) d (.cells dd 99 (0, 0))) c (.cells cc' 25 (0, 0)) = ins (ins h c (.cells cc' 25 (0, 0))) d (.cells dd 99 (0, 0)) := fun {cc dd cc'} => by
    rw [ins_comm _ _ _ hdc, ins_ins]
  have e1 : (#[.int .i64 0, .int .i64 0, .int .i64 0, .int .i64 0, .int .i64 0] : Array Value) = pad5 [] := rfl
  rw [e1]
  refine lf_intro (fun m s' g' => ∃ (i : Nat) (l : List Nat) (a : Nat), s' = (.int .i64 0, .int .i64 a, .int .i64 i) ∧ m = 5 - i ∧ i ≤ 5 ∧ numsR s.data.toList i 0 = .ok l a ∧
      (∀ e, numsR s.data.toList i 0 ≠ .bad e) ∧ g' = ins (ins h c (.cells op0.a 25 (0, 0))) d (.cells (pad5 l) 99 (0, 0))) 5
    ⟨0, [], 0, rfl, rfl, by omega, rfl, (fun e h => by cases h), rfl⟩ ?_
  rintro m s' g' ⟨i, l, a, rfl, rfl, hi, hnum, _, rfl⟩
  have hll := numsR_len hnum
  have hale := numsR_le hnum
  rw [Array.length_toList] at hale
  have hale2 : a ≤ s.size := hale
  by_cases hi5 : i < 5
  · have hstep : numsR s.data.toList (i + 1) 0 = match rdNum s.data.toList a with | .bad e => Rd.bad e | .ok n b => Rd.ok (l ++ [n]) b := by
      show (match numsR s.data.toList i 0 with | .bad e => Rd.bad e | .ok l a => match rdNum s.data.toList a with | .bad e => Rd.bad e | .ok n b => Rd.ok (l ++ [n]) b) = _
      rw [hnum]
    have key : ∀ (kn : (Value × Value × Value) → (Value × Value × Value) → PH → Prop) x0 (xr : (Value × Value × Value × Value × Value) → PH → Prop),
        (∀ n b, rdNum s.data.toList a = .ok n b → kn (.string s, ptr c, ptr d) (.int .i64 0, .int .i64 b, .int .i64 ((i : Int) + 1)) (ins (ins h c (.cells op0.a 25 (0, 0))) d (.cells (pad5 (l ++ [n])) 99 (0, 0)))) →
        (∀ e, rdNum s.data.toList a = .bad e → xr (.string s, ptr c, .int .i64 e, ptr d, .int .i64 a) (ins (ins h c (.cells op0.a 25 (0, 0))) d (.cells (pad5 l) 99 (0, 0)))) →
        b17_6 (fun c h' => ∃ g, Sub g h' ∧ R (.pan c) g) x0 xr (.string s, ptr c, ptr d) kn (.int .i64 0, .int .i64 a, .int .i64 i) (ins (ins h c (.cells op0.a 25 (0, 0))) d (.cells (pad5 l) 99 (0, 0))) := by
      intro kn x0 xr hkn hxr
      unfold b17_6
      have hlt : (i : Int) < 5 := by omega
      simp only [vBin_lss, hlt, decide_true, dIf_b]
      refine ⟨fun _ => ?_, fun e => absurd e (by simp)⟩
      refine rInt_ok hz (by omega) ?_
      cases hrd : rdNum s.data.toList a with
      | bad e =>
        have he := rdN_bad _ _ _ _ _ hrd
        have he0 : ¬ e = 0 := by omega
        simp only [AEnd.elim, vExt_30, vExt_31, vExt_32, vBin_neq, he0, decide_false, Bool.not_false, dIf_b]
        refine ⟨fun _ => ?_, fun e => absurd e (by simp)⟩
        refine ⟨_, bz, ?_⟩
        refine vStore_to (cs := op0.a) gc (by rfl) (by rfl) (by rfl) ?_
        rw [pc]
        exact hxr e hrd
      | ok n b =>
        simp only [AEnd.elim, vExt_30, vExt_31, vExt_32, vBin_neq, decide_true, Bool.not_true, dIf_b]
        refine ⟨fun e => absurd e (by simp), fun _ => ?_⟩
        rw [vIxA_p]
        refine ⟨by omega, by omega, ?_⟩
        rw [show 0 + (i : Int).toNat * 1 = i by omega, vStore_1 gd (by show i < 5; omega) rfl]
        rw [ins_ins, ← hll, pad5_set (by omega)]
        simp only [vBin_add]
        rw [w64 (by omega) (by omega), hll]
        exact hkn n b hrd
    refine key _ _ _ (fun n b hrd => ⟨rfl, 5 - (i + 1), by omega, i + 1, l ++ [n], b, rfl, rfl, by omega, by rw [hstep, hrd], (fun e h => by rw [hstep, hrd] at h; cases h), rfl⟩) fun e hrd => ?_
    have hfin : numsR s.data.toList 5 0 = .bad e := by
      have up : ∀ k, numsR s.data.toList (i + 1 + k) 0 = .bad e := fun k => by
        induction k with
        | zero => rw [Nat.add_zero, hstep, hrd]
        | succ k ih =>
          show (match numsR s.data.toList (i + 1 + k) 0 with | .bad e => Rd.bad e | .ok l a => match rdNum s.data.toList a with | .bad e => Rd.bad e | .ok n b => Rd.ok (l ++ [n]) b) = _
          rw [ih]
      have := up (5 - (i + 1))
      rwa [show i + 1 + (5 - (i + 1)) = 5 by omega] at this
    rw [hfin] at hR
    intro r hr
    simp only [Prod.mk.injEq] at hr
    obtain ⟨r0, r2, r3, r4, r5⟩ := hr
    simp only [r2, r3]
    rw [vLoad_n gc (off := 0) (n := 6) (by show 0 + 6 ≤ 6; omega)]
    exact ⟨h, two, hR⟩
  · have e : i = 5 := by omega
    subst e
    rw [hnum] at hR
    unfold b17_6
    simp only [vBin_lss, dIf_b]
    refine ⟨fun e => absurd e (by simp), fun _ => ?_⟩
    intro r hr
    simp only [Prod.mk.injEq] at hr
    obtain ⟨r0, r2, r3, r4, r5⟩ := hr
    simp only [r0, r2, r3, r4, r5, vLenStr_s, vBin_sub]
    simp only at hR
    rw [w64 (by omega) (by omega)]
    simp only [vBin_lss, dIf_b, decide_eq_true_eq, decide_eq_false_iff_not]
    refine ⟨fun hlack => ?_, fun hlack => ?_⟩
    · rw [if_pos (by omega)] at hR
      refine ⟨_, bz, ?_⟩
      refine vStore_to (cs := op0.a) gc (by rfl) (by rfl) (by rfl) ?_
      rw [pc, vLoad_n gc (off := 0) (n := 6) (by show 0 + 6 ≤ 6; omega)]
      exact ⟨h, two, hR⟩
    rw [if_neg (by omega)] at hR
    simp only [vBin_gtr, dIf_b, decide_eq_true_eq, decide_eq_false_iff_not]
    refine ⟨fun htail => ?_, fun htail => ?_⟩
    · rw [if_pos (by omega)] at hR
      refine ⟨_, bz, ?_⟩
      refine vStore_to (cs := op0.a) gc (by rfl) (by rfl) (by rfl) ?_
      rw [pc, vLoad_n gc (off := 0) (n := 6) (by show 0 + 6 ≤ 6; omega)]
      exact ⟨h, two, hR⟩
    rw [if_neg (by omega)] at hR
    have ha8 : a + 8 = s.size := by omega
    have hex : (s.extract a (a + 8)).data.toList = s.data.toList.drop a := by
      rw [ByteArray.data_extract, Array.toList_extract]
      have : s.data.toList.length = a + 8 := by rw [Array.length_toList]; exact ha8.symm
      rw [List.extract_eq_take_drop, List.take_of_length_le (by rw [List.length_drop]; omega)]
    rw [hex] at hR
    have hL8 : (s.data.toList.drop a).length = 8 := by
      rw [List.length_drop, Array.length_toList]
      show s.size - a = 8
      omega
    -- the eight letters, the last first
    refine lf_intro (fun m s' g' => ∃ k : Nat, s' = (.int .u64 (un8 ((s.data.toList.drop a).drop (8 - k))), .int .i64 (7 - (k : Int))) ∧ m = 8 - k ∧ k ≤ 8 ∧ g' = ins (ins h c (.cells op0.a 25 (0, 0))) d (.cells (pad5 l) 99 (0, 0))) 8
      ⟨0, by rw [List.drop_eq_nil_of_le (by omega)]; rfl, rfl, by omega, rfl⟩ ?_
    rintro m s' g' ⟨k, rfl, rfl, hk, rfl⟩
    by_cases hk8 : k < 8
    · have key : ∀ (kn : (Value × Value × Value × Value) → (Value × Value) → PH → Prop) x2, kn (.string s, ptr c, ptr d, .int .i64 a) (.int .u64 (un8 ((s.data.toList.drop a).drop (8 - (k + 1)))), .int .i64 (7 - ((k + 1 : Nat) : Int))) (ins (ins h c (.cells op0.a 25 (0, 0))) d (.cells (pad5 l) 99 (0, 0))) →
          b17_19 (fun c h' => ∃ g, Sub g h' ∧ R (.pan c) g) x2 (.string s, ptr c, ptr d, .int .i64 a) kn (.int .u64 (un8 ((s.data.toList.drop a).drop (8 - k))), .int .i64 (7 - (k : Int))) (ins (ins h c (.cells op0.a 25 (0, 0))) d (.cells (pad5 l) 99 (0, 0))) := by
        intro kn x2 hkn
        unfold b17_19
        have hge : (0 : Int) ≤ 7 - (k : Int) := by omega
        simp only [vBin_geq, hge, decide_true, dIf_b]
        refine ⟨fun _ => ?_, fun e => absurd e (by simp)⟩
        obtain ⟨ch, hch⟩ : ∃ ch, (s.data.toList.drop a)[7 - k]? = some ch := ⟨_, List.getElem?_eq_getElem (by omega)⟩
        have hcl : ch.toNat < 256 := ch.toNat_lt
        have hun := un8_drop hch
        rw [show 7 - k + 1 = 8 - k by omega] at hun
        have hlt : un8 ((s.data.toList.drop a).drop (8 - (k + 1))) < 18446744073709551616 := by
          have h1 := un8_lt ((s.data.toList.drop a).drop (8 - (k + 1)))
          have h2 : ((s.data.toList.drop a).drop (8 - (k + 1))).length ≤ 8 := by rw [List.length_drop]; omega
          have h3 : 256 ^ ((s.data.toList.drop a).drop (8 - (k + 1))).length ≤ 256 ^ 8 := Nat.pow_le_pow_right (by omega) h2
          have h4 : (256 : Nat) ^ 8 = 18446744073709551616 := rfl
          omega
        rw [show 8 - (k + 1) = 7 - k by omega] at hlt hkn
        simp only [vBin_mul, vBin_add]
        rw [wrap_u64 (by omega) (by omega), w64 (by omega) (by omega)]
        refine ⟨s, _, _, ch, rfl, rfl, by omega, ?_, ?_⟩
        · rw [← Array.getElem?_toList, show ((a : Int) + (7 - (k : Int))).toNat = a + (7 - k) by omega]
          rw [List.getElem?_drop] at hch
          exact hch
        · simp only [vConvI_i, vBin_add, vBin_sub]
          rw [wrap_u64 (n := (ch.toNat : Int)) (by omega) (by omega), wrap_u64 (by omega) (by omega), w64 (by omega) (by omega)]
          rw [show ((un8 ((s.data.toList.drop a).drop (8 - k)) : Nat) : Int) * 256 + (ch.toNat : Int) = ((un8 ((s.data.toList.drop a).drop (7 - k)) : Nat) : Int) by rw [hun]; omega]
          rw [show (7 : Int) - ((k + 1 : Nat) : Int) = 7 - (k : Int) - 1 by omega] at hkn
          exact hkn
      exact key _ _ ⟨rfl, 8 - (k + 1), by omega, k + 1, rfl, rfl, by omega, rfl⟩
    · have e8 : k = 8 := by omega
      subst e8
      unfold b17_19
      simp only [vBin_geq, dIf_b]
      refine ⟨fun e => absurd e (by decide), fun _ => ?_⟩
      intro r2 hr2
      simp only [Prod.mk.injEq] at hr2
      obtain ⟨q2, q4, q10⟩ := hr2
      simp only [q2, q4, q10, vIxA_p]
      have ld : ∀ {j : Nat} {v : Value}, (pad5 l)[j]? = some v → ∀ K, vLoad none (.pointer (some ⟨d, j, none⟩)) (ins (ins h c (.cells op0.a 25 (0, 0))) d (.cells (pad5 l) 99 (0, 0))) K ↔ K v := fun hv K => vLoad_1 gd hv
      have l0 := ld (j := 0) (v := .int .i64 (l.getD 0 0)) rfl
      have l1 := ld (j := 1) (v := .int .i64 (l.getD 1 0)) rfl
      have l2 := ld (j := 2) (v := .int .i64 (l.getD 2 0)) rfl
      have l3 := ld (j := 3) (v := .int .i64 (l.getD 3 0)) rfl
      have l4 := ld (j := 4) (v := .int .i64 (l.getD 4 0)) rfl
      refine ⟨by omega, by omega, (l0 _).2 ⟨by omega, by omega, (l1 _).2 ⟨by omega, by omega, (l2 _).2 ⟨by omega, by omega, (l3 _).2 ⟨by omega, by omega, (l4 _).2 ?_⟩⟩⟩⟩⟩
      refine b2f_ok ?_
      refine ⟨(l0 _).2 rfl, (l1 _).2 rfl, (l2 _).2 rfl, (l3 _).2 rfl, (l4 _).2 rfl, ?_⟩
      simp only [Nat.sub_self, List.drop_zero, Int.toNat_natCast]
      refine ⟨OpV.a { kind := l.getD 0 0, good := l.getD 1 0, am := l.getD 2 0, side := l.getD 3 0, id := l.getD 4 0, price := un8 (s.data.toList.drop a) }, build_op _ _ _ _ _ _, ?_⟩
      refine vStore_to (cs := OpV.a { kind := l.getD 0 0, good := l.getD 1 0, am := l.getD 2 0, side := l.getD 3 0, id := l.getD 4 0, price := un8 (s.data.toList.drop a) }) gc (by rfl) (by rfl) (by rfl) ?_
      rw [pc, vLoad_n gc (off := 0) (n := 6) (by show 0 + 6 ≤ 6; omega)]
      exact ⟨h, two, hR⟩
end
end Go.Pw
/- A request that lets no time go on leaves the others' accounts; the walk. -/
set_option linter.unusedSimpArgs false
set_option linter.unusedVariables false
namespace Go.Pw
open Go Go.Proofs

theorem hsRecs_get {S : Hs} {i : Nat} (hi : i < S.L.n) : (hsRecs S)[i]? = some (keyB i, ⟨(payB S.L i).toArray⟩) := by
  unfold hsRecs
  have hl : i < (recsOf S.L S.L.n).length := by rw [recsOf_len]; exact hi
  rw [List.append_assoc, List.append_assoc, List.getElem?_append_left hl]
  unfold recsOf
  rw [List.getElem?_map, List.getElem?_range hi]; rfl
section
variable {h g : PH} {R : AEnd → PH → Prop}
set_option maxRecDepth 10000 in
theorem hothers_ok {v : Value} {l : List Ask} {a : Ask} (hv : AsksAt h v l) (hl : ∀ x ∈ l, x.ok) (ha : a.ok) (hR : R (.ret (.bool true)) h) : ACalls Tryz.prog 4 #[v, a.v] h R := by
  refine ACalls.drop (call4 ?_)
  unfold sh4
  rw [show Value.cells a.v = a.a from rfl]
  refine vNew_gen fun c1 G2 hc1 hs k1 => ?_
  have A1 : AskIn G2 c1 a := ⟨k1⟩
  clear k1 hc1
  refine hbegun_ok (hv.sub hs) hl fun g x nm H hn => ?_
  have hr := runH_ok (l.take 60) (newHs_ok (c := 3) (g := 2) (by omega) (by omega) (by omega) (by omega))
  have hk := hr.1
  have hn3 : (runH (newHs 3 2) (l.take 60)).L.n = 3 := hr.2.2
  generalize runH (newHs 3 2) (l.take 60) = S at *
  have hg := sep_r Own.mono H
  have fin : ∀ {g5 : PH}, Sub G2 g5 → vCall Tryz.prog 16 #[] g5 (fun u h => ∃ g, Sub g h ∧ R (.ret u) g) (fun c h => ∃ g, Sub g h ∧ R (.pan c) g) := fun {g5} hs5 => hawake_ok (by
    show ∃ g, Sub g g5 ∧ _
    exact ⟨h, hs.trans hs5, hR⟩)
  simp only [AEnd.elim]
  rw [vBin_pnil Tryz.underlying28, dIf_b]
  refine ⟨fun e => absurd e (by simp), fun _ => ?_⟩
  rw [(A1.sub hg).all]
  refine text_ok2 ha ?_
  simp only [AEnd.elim]
  refine rOfOp_ok ?_
  simp only [AEnd.elim, vExt_20, vExt_21]
  refine vNew_i fun d hd => ?_
  refine vStore_to (cs := (ofOpO a.text).1.a) (ins_eq _ _ _) (by rfl) (by rfl) (by cases (ofOpO a.text).1; rfl) ?_
  rw [ins_ins]
  have Hd : (HsN x nm S • Own G2) (ins g d (.cells (ofOpO a.text).1.a 25 (0, 0))) := sep_sub H (sub_ins _ hd)
  have hdd := ins_eq g d (.cells (ofOpO a.text).1.a 25 (0, 0))
  revert Hd hdd
  generalize ins g d (.cells (ofOpO a.text).1.a 25 (0, 0)) = g1
  intro H1 hdd
  have hg1 := sep_r Own.mono H1
  by_cases ht : (ofOpO a.text).2 = 0 ∧ (ofOpO a.text).1.kind = 1
  · rw [vBin_eql, ht.1]
    simp only [decide_true, boolOf_b, gq_b, true_implies, ne_eq, not_true_eq_false, false_implies, and_true, vFA_p, Nat.zero_add]
    rw [vLoad_1 hdd (show (ofOpO a.text).1.a[0]? = some (.int .i64 1) by rw [← ht.2]; rfl), vBin_eql]
    simp only [decide_true, vPick_b, cond_true, dIf_b]
    exact ⟨fun _ => fin hg1, fun e => absurd e (by simp)⟩
  have hnt : (ofOpO a.text).2 = 0 → (ofOpO a.text).1.kind ≠ 1 := fun h0 h1 => ht ⟨h0, h1⟩
  rw [vBin_eql]
  rcases Decidable.em ((ofOpO a.text).2 = 0) with h0 | h0
  case' inl =>
    simp only [h0, decide_true, boolOf_b, gq_b, true_implies, ne_eq, not_true_eq_false, false_implies, and_true, vFA_p, Nat.zero_add]
    rw [vLoad_1 hdd (show (ofOpO a.text).1.a[0]? = some (.int .i64 (ofOpO a.text).1.kind) from rfl), vBin_eql]
    simp only [hnt h0, decide_false, vPick_b, cond_true, dIf_b, Bool.false_eq_true, false_implies, true_and, true_implies]
  case' inr =>
    simp only [h0, decide_false, boolOf_b, gq_b, Bool.false_eq_true, false_implies, true_and, ne_eq, not_false_eq_true, true_implies, vPick_b, cond_false, dIf_b, vFA_p, Nat.zero_add]
  all_goals
    refine h_recordsC H1 hn hk fun g3 s3 H3 => ?_
    have hg3 : Sub G2 g3 := sep_r Own.mono (sep_r (mono_sep _ _) H3)
    simp only [AEnd.elim, vFA_p, Nat.zero_add]
    rw [(A1.sub hg3).w, (A1.sub hg3).s, (A1.sub hg3).all]
    refine text_ok2 ha ?_
    simp only [AEnd.elim]
    rw [(A1.sub hg3).w, (A1.sub hg3).s]
    refine ⟨rfl, rfl, ?_⟩
    refine h_doC H3 hn hk fun g4 nm4 H4 hn4 => ?_
    simp only [AEnd.elim]
    obtain ⟨k1, k2, k3⟩ := doH_ok hk a.who a.stamp a.text
    have hC : ∀ i : Nat, (i : Int) ≠ a.who → sameC S.L (doH S a.who a.stamp a.text).S.L i := fun i hi => doH_C hnt hi
    generalize (doH S a.who a.stamp a.text).S = S1 at *
    refine h_recordsC H4 hn4 k1 fun g5 s5 H5 => ?_
    simp only [AEnd.elim]
    have r5 := recs_os (sep_l OS.mono (sep_r (mono_sep _ _) H5))
    have r3 := recs_os (sep_l OS.mono (sep_r (mono_sep _ _) (sep_r (mono_sep _ _) H5)))
    have hg5 : Sub G2 g5 := sep_r Own.mono (sep_r (mono_sep _ _) (sep_r (mono_sep _ _) H5))
    refine lf_intro (fun m s' g' => ∃ i : Nat, s' = (.bool false, .int .i64 i) ∧ m = 3 - i ∧ i ≤ 3 ∧ g' = g5) 3 ⟨0, rfl, rfl, by omega, rfl⟩ ?_
    rintro m s' g' ⟨i, rfl, rfl, hi, rfl⟩
    by_cases hi3 : i < 3
    · have key : ∀ (kn : (Value × Value × Value) → (Value × Value) → PH → Prop) x0 xr, kn (ptr c1, s3, s5) (.bool false, .int .i64 ((i : Int) + 1)) g' → b4_11 (fun c h => ∃ g, Sub g h ∧ R (.pan c) g) x0 xr (ptr c1, s3, s5) kn (.bool false, .int .i64 i) g' := by
        intro kn x0 xr hkn
        unfold b4_11
        have hlt : (i : Int) < 3 := by omega
        simp only [vBin_lss, hlt, decide_true, dIf_b, vFA_p, Nat.zero_add]
        refine ⟨fun _ => ?_, fun e => absurd e (by simp)⟩
        rw [(A1.sub hg5).w, vBin_neq]
        by_cases hw : (i : Int) = a.who
        · simp [hw]
          rw [← hw, w64 (by omega) (by omega)]
          rw [hw] at hkn ⊢
          exact hkn
        · simp only [hw, decide_false, Bool.not_false, boolOf_b, gq_b, true_implies, ne_eq, not_true_eq_false, false_implies, and_true]
          have e3 := hsRecs_get (S := S) (i := i) (by omega)
          have e5 := hsRecs_get (S := S1) (i := i) (by omega)
          rw [payB_same (hC i hw) k2] at e5
          have ld3 : ∀ {K : Value → Prop}, (vIxS 2 s3 (.int .i64 i) fun t => vLoad (some 2) t g' K) ↔ K (.agg #[.string (keyB i), .string ⟨(payB S.L i).toArray⟩]) := fun {K} => r3.ld e3
          have ld5 : ∀ {K : Value → Prop}, (vIxS 2 s5 (.int .i64 i) fun t => vLoad (some 2) t g' K) ↔ K (.agg #[.string (keyB i), .string ⟨(payB S.L i).toArray⟩]) := fun {K} => r5.ld e5
          rw [ld3, ld5, rec_neq]
          simp only [decide_true, Bool.and_self, Bool.not_true, vPick_b, cond_true, dIf_b, vBin_add]
          refine ⟨fun e => absurd e (by simp), fun _ => ?_⟩
          rw [w64 (by omega) (by omega)]
          exact hkn
      exact key _ _ _ ⟨rfl, 3 - (i + 1), by omega, i + 1, rfl, rfl, by omega, rfl⟩
    · have e : i = 3 := by omega
      subst e
      unfold b4_11
      simp only [vBin_lss, dIf_b]
      refine ⟨fun e => absurd e (by decide), fun _ => ?_⟩
      intro r hr
      exact fin hg5
end
end Go.Pw

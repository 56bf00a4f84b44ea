/- Texts of this claim, one behind the other. -/
import Derived.Test.YtboeddfdbpjnjaaGreatM10
import Derived.Test.YtboeddfdbpjnjaaGreatM14
import Derived.Test.YtboeddfdbpjnjaaGreatM15
import Derived.KernelRfl
/- A house: what requests leave is in order. -/
set_option linter.unusedSimpArgs false
set_option linter.unusedVariables false
namespace Go.Pw
open Go Go.Proofs

theorem putO_ok {B : Bk} (hk : B.ok) (o : Ord) : (putO B o).2.ok := by
  unfold putO
  split
  · exact hk
  · rename_i h1
    split
    · exact hk
    · rename_i h2
      split
      · exact hk
      · rename_i h3
        have hr : rightO o = true := by
          cases h : rightO o with
          | true => rfl
          | false => exact absurd (.inl h) h1
        have hnone : ∀ x ∈ B.l, x.id ≠ o.id := idx_none (by
          cases h : idx B.l o.id with
          | none => rfl
          | some k => rw [h] at h2; exact absurd rfl h2)
        have hnx := hk.nx
        refine ⟨fun x hx => ?_, ?_, ?_, fun x hx => ?_, ?_, ?_⟩
        · rcases List.mem_append.1 hx with hx | hx
          · exact hk.right x hx
          · simp at hx; subst hx; exact hr
        · exact List.pairwise_append.2 ⟨hk.ids, by simp, fun x hx y hy => by simp at hy; subst hy; exact hnone x hx⟩
        · exact List.pairwise_append.2 ⟨hk.pls, by simp, fun x hx y hy => by simp at hy; subst hy; exact (hk.pl x hx).2⟩
        · rcases List.mem_append.1 hx with hx | hx
          · have := hk.pl x hx; simp only; omega
          · simp at hx; subst hx; simp only; omega
        · have := hk.len; simp only [List.length_append, List.length_cons, List.length_nil]; omega
        · simp only; omega
theorem cancelO_ok {B : Bk} (hk : B.ok) (id own : Int) : (cancelO B id own).2.ok := by
  unfold cancelO
  split
  · exact hk
  · rename_i k hk1
    split
    · exact hk
    · split
      · exact hk
      · have hsub : (B.l.eraseIdx k).Sublist B.l := List.eraseIdx_sublist _ _
        exact ⟨fun x hx => hk.right x (hsub.subset hx), hk.ids.sublist hsub, hk.pls.sublist hsub, fun x hx => hk.pl x (hsub.subset hx), Nat.le_trans hsub.length_le hk.len, hk.nx⟩
theorem amendO_ok {B : Bk} (hk : B.ok) (id own p m : Int) : (amendO B id own p m).2.ok := by
  unfold amendO
  split
  · exact hk
  · rename_i k hidx
    split
    · exact hk
    · rename_i o ho
      split
      · exact hk
      · split
        · exact hk
        · rename_i hr0
          have hr : rightO { o with pr := p, am := m } = true := by
            cases h : rightO { o with pr := p, am := m } with
            | true => rfl
            | false => exact absurd h hr0
          have hkl : k < B.l.length := (List.getElem?_eq_some_iff.1 ho).1
          have hom := List.mem_of_getElem? ho
          split
          · refine ⟨fun x hx => ?_, ?_, ?_, fun x hx => ?_, by simp only [List.length_set]; exact hk.len, hk.nx⟩
            · rcases List.mem_or_eq_of_mem_set hx with hx | rfl
              · exact hk.right x hx
              · exact hr
            · rw [List.pairwise_iff_getElem]
              intro i j hi hj hij
              have e1 := List.pairwise_iff_getElem.1 hk.ids i j (by simpa using hi) (by simpa using hj) hij
              have ok : B.l[k] = o := (List.getElem?_eq_some_iff.1 ho).2
              simp only [List.getElem_set]
              split
              · rename_i e; subst e
                rw [ok] at e1
                split
                · omega
                · exact e1
              · split
                · rename_i e; subst e; rw [ok] at e1; exact e1
                · exact e1
            · rw [List.pairwise_iff_getElem]
              intro i j hi hj hij
              have e1 := List.pairwise_iff_getElem.1 hk.pls i j (by simpa using hi) (by simpa using hj) hij
              have ok : B.l[k] = o := (List.getElem?_eq_some_iff.1 ho).2
              simp only [List.getElem_set]
              split
              · rename_i e; subst e
                rw [ok] at e1
                split
                · omega
                · exact e1
              · split
                · rename_i e; subst e; rw [ok] at e1; exact e1
                · exact e1
            · rcases List.mem_or_eq_of_mem_set hx with hx | rfl
              · exact hk.pl x hx
              · exact hk.pl o hom
          · split
            · exact hk
            · have hsub : (B.l.eraseIdx k).Sublist B.l := List.eraseIdx_sublist _ _
              have hnx := hk.nx
              have hlen : (B.l.eraseIdx k).length = B.l.length - 1 := List.length_eraseIdx_of_lt hkl
              refine ⟨fun x hx => ?_, ?_, ?_, fun x hx => ?_, ?_, ?_⟩
              · rcases List.mem_append.1 hx with hx | hx
                · exact hk.right x (hsub.subset hx)
                · simp at hx; subst hx; exact hr
              · refine List.pairwise_append.2 ⟨hk.ids.sublist hsub, by simp, fun x hx y hy => ?_⟩
                simp at hy; subst hy
                simp only
                obtain ⟨i, hik, hi⟩ := List.mem_eraseIdx_iff_getElem?.1 hx
                exact ids_at hk.ids hi ho hik
              · exact List.pairwise_append.2 ⟨hk.pls.sublist hsub, by simp, fun x hx y hy => by simp at hy; subst hy; exact (hk.pl x (hsub.subset hx)).2⟩
              · rcases List.mem_append.1 hx with hx | hx
                · have := hk.pl x (hsub.subset hx); simp only; omega
                · simp at hx; subst hx; simp only; omega
              · have := hk.len; simp only [List.length_append, List.length_cons, List.length_nil, hlen]; omega
              · simp only; omega
theorem putO_own {B : Bk} {o : Ord} {n : Nat} (h : ∀ x ∈ B.l, x.own < n) (ho : o.own < n) : ∀ x ∈ (putO B o).2.l, x.own < n := by
  unfold putO
  repeat' split
  · exact h
  · exact h
  · exact h
  · intro x hx
    rcases List.mem_append.1 hx with hx | hx
    · exact h x hx
    · simp at hx; subst hx; exact ho
theorem cancelO_own {B : Bk} {id own : Int} {n : Nat} (h : ∀ x ∈ B.l, x.own < n) : ∀ x ∈ (cancelO B id own).2.l, x.own < n := by
  unfold cancelO
  repeat' split
  all_goals first | exact h | exact fun x hx => h x ((List.eraseIdx_sublist _ _).subset hx)
theorem amendO_own {B : Bk} {id own p m : Int} {n : Nat} (h : ∀ x ∈ B.l, x.own < n) : ∀ x ∈ (amendO B id own p m).2.l, x.own < n := by
  unfold amendO
  split
  · exact h
  · rename_i k hidx
    split
    · exact h
    · rename_i o ho
      have hom := List.mem_of_getElem? ho
      repeat' split
      all_goals first | exact h | skip
      · intro x hx
        rcases List.mem_or_eq_of_mem_set hx with hx | rfl
        · exact h x hx
        · exact h o hom
      · intro x hx
        rcases List.mem_append.1 hx with hx | hx
        · exact h x ((List.eraseIdx_sublist _ _).subset hx)
        · simp at hx; subst hx; exact h o hom
/-- A house with another ledger, in order. -/
theorem setL_ok {S : Hs} (hk : S.ok) {L : Led} (hL : Inv L) (hg : L.goods = S.L.goods) (hn : L.n = S.L.n) : (S.setL L).ok := by
  have eG : (S.setL L).G = S.G := by unfold Hs.G Hs.setL; simp only; rw [hg]
  exact ⟨hL, by show 1 ≤ L.n; rw [hn]; exact hk.n1, fun i hi => hk.bk i (by rw [eG] at hi; exact hi), fun i hi o ho => by show o.own < L.n; rw [hn]; exact hk.own i (by rw [eG] at hi; exact hi) o ho,
    fun i A w hi ha => by show A.ok ∧ A.ste = 0 ∧ A.n = L.n ∧ 0 ≤ w ∧ w < L.n; rw [hn]; exact hk.au i A w (by rw [eG] at hi; exact hi) ha, hk.now⟩
theorem setBk_ok {S : Hs} (hk : S.ok) {i : Nat} {B : Bk} (hB : B.ok) (ho : ∀ o ∈ B.l, o.own < S.L.n) : (S.setBk i B).ok := by
  refine ⟨hk.led, hk.n1, fun k hi => ?_, fun k hi o h => ?_, hk.au, hk.now⟩
  · show (if k = i then B else S.bk k).ok
    split
    · exact hB
    · exact hk.bk k hi
  · have h2 : o ∈ (if k = i then B else S.bk k).l := h
    split at h2
    · exact ho o h2
    · exact hk.own k hi o h2
theorem setAu_ok {S : Hs} (hk : S.ok) {i : Nat} {A : Auc} {w : Int} (h : A.ok ∧ A.ste = 0 ∧ A.n = S.L.n ∧ 0 ≤ w ∧ w < S.L.n) : (S.setAu i (some (A, w))).ok := by
  refine ⟨hk.led, hk.n1, hk.bk, hk.own, fun k A' w' hi ha => ?_, hk.now⟩
  have ha2 : (if k = i then some (A, w) else S.au k) = some (A', w') := ha
  split at ha2
  · cases ha2; exact h
  · exact hk.au k A' w' hi ha2
section
variable {S : Hs} {who : Nat} {o : OpV}
theorem putH_ok (hk : S.ok) (hw : who < S.L.n) (ho : o.ok) : (putH S who o).2.ok := by
  unfold putH
  simp only
  split
  · exact hk
  · rename_i ht
    have htm := termsH_ok (S := S) (who := who) (o := o) (by simpa using ht)
    have hg := hk.g
    have hgd := ho.good
    split
    · exact hk
    · split
      · exact hk
      · have h1 := holdH_gn S.L who (coverC (decide (o.side = 0)) (termsH S who o).p o.am)
        have h2 := lockH_gn (holdH S.L who (coverC (decide (o.side = 0)) (termsH S who o).p o.am)) who o.good (coverG (decide (o.side = 0)) (termsH S who o).p o.am)
        have hB := putO_ok (hk.bk o.good.toNat (by omega)) (ordOfOp (termsH S who o) who o)
        have hO := putO_own (o := ordOfOp (termsH S who o) who o) (hk.own o.good.toNat (by omega)) (by show (who : Int) < S.L.n; omega)
        exact setL_ok (setBk_ok hk hB hO) (inv_lockH (inv_holdH hk.led hw _) (by rw [h1.2]; exact hw) _ _) (h2.1.trans h1.1) (h2.2.trans h1.2)
theorem amendH_ok (hk : S.ok) (hw : who < S.L.n) (ho : o.ok) : (amendH S who o).2.ok := by
  unfold amendH
  simp only
  split
  · exact hk
  · rename_i ht
    have htm := termsH_ok (S := S) (who := who) (o := o) (by simpa using ht)
    have hg := hk.g
    have hgd := ho.good
    split
    · exact hk
    · split
      · exact hk
      · split
        · exact hk
        · refine setL_ok (setBk_ok hk (amendO_ok (hk.bk o.good.toNat (by omega)) _ _ _ _) (amendO_own (hk.own o.good.toNat (by omega)))) (inv_lockH (inv_holdH hk.led hw _) (by rw [(holdH_gn _ _ _).2]; exact hw) _ _) ((lockH_gn _ _ _ _).1.trans (holdH_gn _ _ _).1) ((lockH_gn _ _ _ _).2.trans (holdH_gn _ _ _).2)
theorem cancelH_ok (hk : S.ok) (hw : who < S.L.n) (ho : o.ok) : (cancelH S who o).2.ok := by
  unfold cancelH
  simp only
  split
  · exact hk
  · have hg := hk.g
    have hgd := ho.good
    split
    · exact hk
    · have hb := setBk_ok (i := o.good.toNat) hk (cancelO_ok (hk.bk o.good.toNat (by omega)) (o.id * 16 + who) who) (cancelO_own (hk.own o.good.toNat (by omega)))
      split
      · exact setL_ok hb (inv_holdH hk.led hw _) (holdH_gn _ _ _).1 (holdH_gn _ _ _).2
      · exact setL_ok hb (inv_lockH hk.led hw _ _) (lockH_gn _ _ _ _).1 (lockH_gn _ _ _ _).2
theorem wantH_ok (hk : S.ok) (hw : who < S.L.n) (ho : o.ok) : (wantH S who o).2.ok := by
  unfold wantH
  split
  · exact hk
  · have hg := hk.g
    have hgd := ho.good
    split
    · exact hk
    · rename_i A w hau
      obtain ⟨a1, a2, a3, a4, a5⟩ := hk.au o.good.toNat A w (by omega) hau
      simp only
      split
      · exact hk
      · split
        · exact hk
        · split
          · exact hk
          · have hb := bidA_keep A who o.am
            exact setL_ok (setAu_ok hk ⟨bidA_ok a1 _ _, by rw [hb.1, a2], by rw [hb.2.2.1, a3], a4, a5⟩) (inv_holdH hk.led hw _) (holdH_gn _ _ _).1 (holdH_gn _ _ _).2
theorem offerH_ok (hk : S.ok) (hw : who < S.L.n) (ho : o.ok) : (offerH S who o).2.ok := by
  unfold offerH
  split
  · exact hk
  · split
    · exact hk
    · split
      · exact hk
      · rename_i hb
        have hb2 := Decidable.not_not.1 hb
        split
        · exact hk
        · split
          · exact hk
          · exact setL_ok (setAu_ok hk ⟨newAuc_ok hb2, rfl, by simp [newAuc], by omega, by omega⟩) (inv_lock hk.led hw) (lockL_gn _ _ _ _).1 (lockL_gn _ _ _ _).2
theorem actH_ok (hk : S.ok) (hw : who < S.L.n) (ho : o.ok) : (actH S who o).S.ok := by
  unfold actH
  repeat' split
  · exact (tickH_ok hk).1
  · exact setL_ok hk (inv_pay hk.led hw) (payL_gn _ _ _).1 (payL_gn _ _ _).2
  · exact setL_ok hk (inv_take hk.led hw) (takeL_gn _ _ _).1 (takeL_gn _ _ _).2
  · exact setL_ok hk (inv_store hk.led hw) (storeL_gn _ _ _ _).1 (storeL_gn _ _ _ _).2
  · exact setL_ok hk (inv_fetch hk.led hw) (fetchL_gn _ _ _ _).1 (fetchL_gn _ _ _ _).2
  · exact offerH_ok hk hw ho
  · exact wantH_ok hk hw ho
  · exact putH_ok hk hw ho
  · exact amendH_ok hk hw ho
  · exact cancelH_ok hk hw ho
  · exact hk
theorem actH_gn (hk : S.ok) : (actH S who o).S.L.goods = S.L.goods ∧ (actH S who o).S.L.n = S.L.n := by
  unfold actH
  repeat' split
  · exact ⟨(tickH_ok hk).2.2.1, (tickH_ok hk).2.1⟩
  · exact payL_gn _ _ _
  · exact takeL_gn _ _ _
  · exact storeL_gn _ _ _ _
  · exact fetchL_gn _ _ _ _
  · exact offerH_gn _ _ _
  · exact wantH_gn _ _ _
  · exact putH_gn _ _ _
  · exact amendH_gn _ _ _
  · exact cancelH_gn _ _ _
  · exact ⟨rfl, rfl⟩
theorem lockL_e (L : Led) (i : Nat) (g n : Int) : (lockL L i g n).1 = 0 ∨ (lockL L i g n).1 = 1 ∨ (lockL L i g n).1 = 61 := by unfold lockL; (repeat' split) <;> simp
theorem putO_e (B : Bk) (o : Ord) : 0 ≤ (putO B o).1 ∧ (putO B o).1 ≤ 100 := by unfold putO; (repeat' split) <;> simp
theorem amendO_e (B : Bk) (a b c d : Int) : 0 ≤ (amendO B a b c d).1 ∧ (amendO B a b c d).1 ≤ 100 := by unfold amendO; (repeat' split) <;> simp
theorem termsH_e (S : Hs) (who : Nat) (o : OpV) : 0 ≤ (termsH S who o).e ∧ (termsH S who o).e ≤ 100 := by
  have := ticksO_err o.price
  unfold termsH
  split
  · simp
  · simp only; omega
/-- Reasons are small numbers; a request that is refused changes nothing. -/
theorem actH_e (hk : S.ok) : (0 ≤ (actH S who o).e ∧ (actH S who o).e ≤ 100) ∧ (0 ≤ (actH S who o).n ∧ (actH S who o).n ≤ 9007199254740992) := by
  have ht := tickH_ok hk
  have h1 := ticksO_err o.price
  have h2 := termsH_e S who o
  have h3 := lockL_e S.L who o.good o.am
  unfold actH
  repeat' split
  · simp only; omega
  · unfold payL; (repeat' split) <;> simp
  · unfold takeL; (repeat' split) <;> simp
  · unfold storeL; (repeat' split) <;> simp
  · unfold fetchL; (repeat' split) <;> simp
  · unfold offerH; (repeat' split) <;> simp only <;> omega
  · unfold wantH; simp only; (repeat' split) <;> first | (simp; done) | (simp only; (repeat' split) <;> simp)
  · unfold putH
    simp only
    split
    · simp only; omega
    · split
      · unfold coverE at *; split <;> simp
      · split
        · have := putO_e (S.bk o.good.toNat) (ordOfOp (termsH S who o) who o); simp only; omega
        · simp
  · unfold amendH
    simp only
    split
    · simp only; omega
    · split
      · simp
      · split
        · simp
        · split
          · refine ⟨?_, by simp⟩; exact amendO_e _ _ _ _ _
          · simp
  · unfold cancelH; simp only; (repeat' split) <;> simp
  · simp
end
end Go.Pw
/- A house: a request done. -/
set_option linter.unusedSimpArgs false
set_option linter.unusedVariables false
namespace Go.Pw
open Go Go.Proofs

/-- What a request is answered: the text, why there is none, the house then. -/
structure Dn where
  t : ByteArray
  e : Int
  S : Hs
def repB (e n : Int) : ByteArray := ⟨(encN e.toNat ++ encN n.toNat).toArray⟩
def didH (S : Hs) (who : Nat) (op : ByteArray) : Did := if (ofOpO op).2 = 0 then actH S who (ofOpO op).1 else ⟨0, 90, S⟩
def markH (d : Did) (who : Nat) (stamp : Int) : Hs := d.S.setL (markL d.S.L who stamp (repB d.e d.n)).2
def doH (S : Hs) (who stamp : Int) (op : ByteArray) : Dn :=
  if ¬ (0 ≤ who ∧ who < S.L.n) then ⟨⟨#[]⟩, 60, S⟩ else
  if stamp < 1 ∨ 1099511627776 < stamp then ⟨⟨#[]⟩, 1, S⟩ else
  if stamp ≤ S.L.f who.toNat 10 then ⟨⟨#[]⟩, 91, S⟩ else
  ⟨repB (didH S who.toNat op).e (didH S who.toNat op).n, 0, markH (didH S who.toNat op) who.toNat stamp⟩
theorem markL_gn (L : Led) (i : Nat) (s : Int) (t : ByteArray) : (markL L i s t).2.goods = L.goods ∧ (markL L i s t).2.n = L.n := by unfold markL; (repeat' split) <;> exact ⟨rfl, rfl⟩
section
variable {h g : PH} {R : AEnd → PH → Prop} {x : Nat} {nm : Nm} {S : Hs} {C : PH → Prop} {who : Nat} {o : OpV}
/-- The function of a kind, called. -/
theorem h_kind {f : Nat} (hf : actF o.kind = some f) (H : HsN x nm S h) (hn : nm.ok S) (hk : S.ok) (hw : who < S.L.n) (ho : o.ok)
    (hR : ∀ g nm', HsN x nm' (actH S who o).S g → nm'.ok (actH S who o).S → R (.ret (.tuple #[.int .i64 (actH S who o).n, .int .i64 (actH S who o).e])) g) : ACalls Tryz.prog f #[ptr x, .int .i64 who, o.v] h R := by
  have hgn := actH_gn (who := who) (o := o) hk
  unfold actF at hf
  unfold actH at hR hgn
  by_cases k1 : o.kind = 1
  · rw [if_pos k1] at hf hR hgn; cases hf; exact h_tick H hn hk fun g Hg => hR g nm Hg (hn.to hgn.1)
  rw [if_neg k1] at hf hR hgn
  by_cases k2 : o.kind = 2
  · rw [if_pos k2] at hf hR hgn; cases hf; exact h_pay H hk hw fun g Hg => hR g nm Hg (hn.to hgn.1)
  rw [if_neg k2] at hf hR hgn
  by_cases k3 : o.kind = 3
  · rw [if_pos k3] at hf hR hgn; cases hf; exact h_take H hk hw fun g Hg => hR g nm Hg (hn.to hgn.1)
  rw [if_neg k3] at hf hR hgn
  by_cases k4 : o.kind = 4
  · rw [if_pos k4] at hf hR hgn; cases hf; exact h_store H hk hw fun g Hg => hR g nm Hg (hn.to hgn.1)
  rw [if_neg k4] at hf hR hgn
  by_cases k5 : o.kind = 5
  · rw [if_pos k5] at hf hR hgn; cases hf; exact h_fetch H hk hw fun g Hg => hR g nm Hg (hn.to hgn.1)
  rw [if_neg k5] at hf hR hgn
  by_cases k6 : o.kind = 6
  · rw [if_pos k6] at hf hR hgn; cases hf; exact h_offer H hn hk hw ho fun g nm' Hg hn' => hR g nm' Hg hn'
  rw [if_neg k6] at hf hR hgn
  by_cases k7 : o.kind = 7
  · rw [if_pos k7] at hf hR hgn; cases hf; exact h_want H hn hk hw ho fun g Hg => hR g nm Hg (hn.to hgn.1)
  rw [if_neg k7] at hf hR hgn
  by_cases k8 : o.kind = 8
  · rw [if_pos k8] at hf hR hgn; cases hf; exact h_put H hn hk hw ho fun g Hg => hR g nm Hg (hn.to hgn.1)
  rw [if_neg k8] at hf hR hgn
  by_cases k9 : o.kind = 9
  · rw [if_pos k9] at hf hR hgn; cases hf; exact h_amend H hn hk hw ho fun g Hg => hR g nm Hg (hn.to hgn.1)
  rw [if_neg k9] at hf hR hgn
  by_cases k10 : o.kind = 10
  · rw [if_pos k10] at hf hR hgn; cases hf; exact h_cancel H hn hk hw ho fun g Hg => hR g nm Hg (hn.to hgn.1)
  rw [if_neg k10] at hf
  cases hf
theorem actF_none {o : OpV} (hf : actF o.kind = none) : actH S who o = ⟨0, 90, S⟩ := by
  unfold actF at hf
  unfold actH
  by_cases k1 : o.kind = 1
  · rw [if_pos k1] at hf; cases hf
  by_cases k2 : o.kind = 2
  · rw [if_neg k1, if_pos k2] at hf; cases hf
  by_cases k3 : o.kind = 3
  · rw [if_neg k1, if_neg k2, if_pos k3] at hf; cases hf
  by_cases k4 : o.kind = 4
  · rw [if_neg k1, if_neg k2, if_neg k3, if_pos k4] at hf; cases hf
  by_cases k5 : o.kind = 5
  · rw [if_neg k1, if_neg k2, if_neg k3, if_neg k4, if_pos k5] at hf; cases hf
  by_cases k6 : o.kind = 6
  · rw [if_neg k1, if_neg k2, if_neg k3, if_neg k4, if_neg k5, if_pos k6] at hf; cases hf
  by_cases k7 : o.kind = 7
  · rw [if_neg k1, if_neg k2, if_neg k3, if_neg k4, if_neg k5, if_neg k6, if_pos k7] at hf; cases hf
  by_cases k8 : o.kind = 8
  · rw [if_neg k1, if_neg k2, if_neg k3, if_neg k4, if_neg k5, if_neg k6, if_neg k7, if_pos k8] at hf; cases hf
  by_cases k9 : o.kind = 9
  · rw [if_neg k1, if_neg k2, if_neg k3, if_neg k4, if_neg k5, if_neg k6, if_neg k7, if_neg k8, if_pos k9] at hf; cases hf
  by_cases k10 : o.kind = 10
  · rw [if_neg k1, if_neg k2, if_neg k3, if_neg k4, if_neg k5, if_neg k6, if_neg k7, if_neg k8, if_neg k9, if_pos k10] at hf; cases hf
  rw [if_neg k1, if_neg k2, if_neg k3, if_neg k4, if_neg k5, if_neg k6, if_neg k7, if_neg k8, if_neg k9, if_neg k10]
theorem didH_ok (hk : S.ok) (hw : who < S.L.n) (op : ByteArray) : (didH S who op).S.ok ∧ (didH S who op).S.L.goods = S.L.goods ∧ (didH S who op).S.L.n = S.L.n ∧ (0 ≤ (didH S who op).e ∧ (didH S who op).e ≤ 100) ∧ (0 ≤ (didH S who op).n ∧ (didH S who op).n ≤ 9007199254740992) := by
  unfold didH
  split
  · exact ⟨actH_ok hk hw (ofOpO_ok op), (actH_gn hk).1, (actH_gn hk).2, (actH_e hk).1, (actH_e hk).2⟩
  · exact ⟨hk, rfl, rfl, by simp, by simp⟩
theorem markH_ok {d : Did} {stamp : Int} (hk : d.S.ok) (hw : who < d.S.L.n) : (markH d who stamp).ok ∧ (markH d who stamp).L.goods = d.S.L.goods ∧ (markH d who stamp).L.n = d.S.L.n :=
  ⟨setL_ok hk (inv_mark hk.led hw) (markL_gn _ _ _ _).1 (markL_gn _ _ _ _).2, (markL_gn _ _ _ _).1, (markL_gn _ _ _ _).2⟩
theorem doH_ok (hk : S.ok) (who stamp : Int) (op : ByteArray) : (doH S who stamp op).S.ok ∧ (doH S who stamp op).S.L.goods = S.L.goods ∧ (doH S who stamp op).S.L.n = S.L.n := by
  unfold doH
  split
  · exact ⟨hk, rfl, rfl⟩
  · split
    · exact ⟨hk, rfl, rfl⟩
    · split
      · exact ⟨hk, rfl, rfl⟩
      · obtain ⟨d1, d2, d3, d4, d5⟩ := didH_ok (who := who.toNat) hk (by omega) op
        obtain ⟨m1, m2, m3⟩ := markH_ok (who := who.toNat) (stamp := stamp) d1 (by rw [d3]; omega)
        exact ⟨m1, m2.trans d2, m3.trans d3⟩
theorem str_cat {K : Value → Prop} (a b : List UInt8) (hs : a.length + b.length ≤ 1000000) : vBin Tryz.prog .add 9 (.string ⟨a.toArray⟩) (.string ⟨b.toArray⟩) K ↔ K (.string ⟨(a ++ b).toArray⟩) := by
  rw [vBin_sadd _ _ _ (by show a.toArray.size + b.toArray.size ≤ _; simp; omega)]
  have e : (⟨a.toArray⟩ : ByteArray) ++ ⟨b.toArray⟩ = ⟨(a ++ b).toArray⟩ := by
    apply ByteArray.ext
    rw [ByteArray.data_append]
    simp
  rw [e]
/-- The reply laid and marked. -/
theorem h_reply {d : Did} {stamp : Int} {R' : Value → PH → Prop} (H : HsN x nm d.S h) (hk : d.S.ok) (hw : who < d.S.L.n) (he : 0 ≤ d.e ∧ d.e ≤ 100) (hnn : 0 ≤ d.n ∧ d.n ≤ 9007199254740992) (hR : ∀ g, HsN x nm (markH d who stamp) g → R (.ret (.tuple #[.string (repB d.e d.n), .int .i64 0])) g) :
    vCall Tryz.prog 34 #[.int .i64 d.e] h (fun t83 h_17 =>
      vExt t83 0 fun t84 =>
      vExt t83 1 fun t85 =>
      vCall Tryz.prog 34 #[.int .i64 d.n] h_17 (fun t88 h_18 =>
      vExt t88 0 fun t89 =>
      vExt t88 1 fun t90 =>
      vLoad none (.pointer (some ⟨x, 0, none⟩)) h_18 fun t94 =>
      vBin Tryz.prog .add 9 t84 t89 fun t99 =>
      vCall Tryz.prog 35 #[t94, .int .i64 who, .int .i64 stamp, t99] h_18 (fun t100 h_19 =>
      vBin Tryz.prog .add 9 t84 t89 fun t103 =>
      R (.ret (.tuple #[t103, (.int .i64 0)])) h_19)
      (fun c h => R (.pan c) h))
      (fun c h => R (.pan c) h))
      (fun c h => R (.pan c) h) := by
  obtain ⟨e, he'⟩ : ∃ e : Nat, d.e = e := ⟨d.e.toNat, by omega⟩
  obtain ⟨n, hn'⟩ : ∃ n : Nat, d.n = n := ⟨d.n.toNat, by omega⟩
  unfold markH repB at hR
  rw [he', hn', Int.toNat_natCast, Int.toNat_natCast] at hR
  rw [he', hn']
  have l1 := encN_10 (n := e) (by omega)
  have l2 := encN_10 (n := n) (by omega)
  refine putInt_ok (by omega) ?_
  simp only [AEnd.elim, vExt_20, vExt_21]
  refine putInt_ok (by omega) ?_
  simp only [AEnd.elim, vExt_20, vExt_21, H.f.lx.ld]
  rw [str_cat _ _ (by omega)]
  refine mark_ok H.f.hl hw ?_
  simp only [AEnd.elim]
  rw [str_cat _ _ (by omega)]
  have hgn := markL_gn d.S.L who stamp ⟨(encN e ++ encN n).toArray⟩
  have H2 := HsN.led (L' := (markL d.S.L who stamp ⟨(encN e ++ encN n).toArray⟩).2) (sep_emp H) hgn.1 hgn.2
  exact hR _ (sep_l HsN.mono H2)
theorem h_do {who stamp : Int} {op : ByteArray} (H : HsN x nm S h) (hn : nm.ok S) (hk : S.ok) (hR : ∀ g nm', HsN x nm' (doH S who stamp op).S g → nm'.ok (doH S who stamp op).S → R (.ret (.tuple #[.string (doH S who stamp op).t, .int .i64 (doH S who stamp op).e])) g) :
    ACalls Tryz.prog 12 #[ptr x, .int .i64 who, .int .i64 stamp, .string op] h R := by
  refine call12 ?_
  unfold sh12
  have F := H.f
  rw [vBin_pnil Tryz.underlying28]
  simp only [boolOf_b, gq_b, true_implies, vNil_p, vFA_p, Nat.zero_add, F.lx.ld, ne_eq, not_true_eq_false, false_implies, and_true]
  rw [vBin_pnil Tryz.underlying81]
  simp only [vPick_b, cond_false, dIf_b]
  refine ⟨fun e => absurd e (by simp), fun _ => ?_⟩
  unfold doH at hR
  by_cases hw : 0 ≤ who ∧ who < S.L.n
  rotate_left
  · rw [if_pos hw] at hR
    refine acct_bad F.hl (by omega) ?_
    simp only [AEnd.elim, vExt_20, vExt_21]
    refine vNew_i fun c hc => ?_
    refine vStore_to (cs := acct0) (ins_eq _ _ _) (by rfl) (by rfl) (by rfl) ?_
    rw [ins_ins]
    simp only [vUn_not, Bool.not_false, dIf_b]
    exact ⟨fun _ => hR _ nm (HsN.mono _ _ (sub_ins _ hc) H) hn, fun e => absurd e (by simp)⟩
  rw [if_neg (fun hnn => hnn hw)] at hR
  obtain ⟨i, rfl⟩ : ∃ i : Nat, who = i := ⟨who.toNat, by omega⟩
  have hi : i < S.L.n := by omega
  rw [Int.toNat_natCast] at hR
  refine acct_ok F.hl hi ?_
  simp only [AEnd.elim, vExt_20, vExt_21]
  refine vNew_i fun c hc => ?_
  refine vStore_to (cs := acctCells S.L i) (ins_eq _ _ _) (by rfl) (by rfl) (by rfl) ?_
  rw [ins_ins]
  have H1 : HsN x nm S (ins h c (.cells (acctCells S.L i) 61 (0, 0))) := HsN.mono _ _ (sub_ins _ hc) H
  revert H1
  generalize ins h c (.cells (acctCells S.L i) 61 (0, 0)) = G
  intro H1
  have F1 := H1.f
  simp only [vUn_not, Bool.not_true, dIf_b]
  refine ⟨fun e => absurd e (by simp), fun _ => ?_⟩
  simp only [vNil_p, vFA_p, Nat.zero_add, F1.lx.ld]
  refine last_ok F1.hl hi ?_
  simp only [AEnd.elim, vExt_20, vExt_21, vBin_lss]
  by_cases hs1 : stamp < 1
  · rw [if_pos (.inl hs1)] at hR
    simp [hs1]
    exact hR _ nm H1 hn
  by_cases hs2 : 1099511627776 < stamp
  · rw [if_pos (.inr hs2)] at hR
    simp [hs1, hs2]
    exact hR _ nm H1 hn
  rw [if_neg (by omega)] at hR
  simp only [hs1, decide_false, boolOf_b, gq_b, true_implies, vBin_gtr, hs2, ne_eq, not_true_eq_false, false_implies, and_true, vPick_b, cond_false, dIf_b, Bool.false_eq_true, true_and, vBin_leq]
  by_cases hs3 : stamp ≤ S.L.f i 10
  · rw [if_pos hs3] at hR
    simp only [hs3, decide_true]
    exact ⟨fun _ => hR _ nm H1 hn, fun e => absurd e (by simp)⟩
  rw [if_neg hs3] at hR
  simp only [hs3, decide_false]
  refine ⟨fun e => absurd e (by simp), fun _ => ?_⟩
  refine ofOp_ok ?_
  simp only [AEnd.elim, vExt_20, vExt_21]
  have ho := ofOpO_ok op
  obtain ⟨d1, d2, d3, d4, d5⟩ := didH_ok hk hi op
  have fin : ∀ {d : Did} {g nm'}, didH S i op = d → HsN x nm' d.S g → nm'.ok d.S → _ := fun {d g nm'} hd Hg hn' => h_reply (R := R) (R' := fun _ _ => True) (d := d) (stamp := stamp) (who := i) Hg (by rw [← hd]; exact d1) (by rw [← hd, d3]; exact hi) (by rw [← hd]; exact d4) (by rw [← hd]; exact d5) fun g2 Hg2 => by
    rw [hd] at hR
    exact hR g2 nm' Hg2 (hn'.to (markL_gn _ _ _ _).1)
  unfold didH at fin
  refine vNew_i fun q hq => ?_
  refine vStore_to (cs := (ofOpO op).1.a) (ins_eq _ _ _) (by rfl) (by rfl) (by cases (ofOpO op).1; rfl) ?_
  rw [ins_ins]
  have H2 : HsN x nm S (ins G q (.cells (ofOpO op).1.a 25 (0, 0))) := HsN.mono _ _ (sub_ins _ hq) H1
  have hqq : ins G q (.cells (ofOpO op).1.a 25 (0, 0)) q = some (.cells (ofOpO op).1.a 25 (0, 0)) := ins_eq _ _ _
  revert H2 hqq
  generalize ins G q (.cells (ofOpO op).1.a 25 (0, 0)) = G2
  intro H2 hqq
  rw [vBin_eql, dIf_b]
  by_cases hf : (ofOpO op).2 = 0
  rotate_left
  · rw [if_neg hf] at fin
    simp only [hf, decide_false]
    exact ⟨fun e => absurd e (by simp), fun _ => fin (d := ⟨0, 90, S⟩) rfl H2 hn⟩
  rw [if_pos hf] at fin
  simp only [hf, decide_true]
  refine ⟨fun _ => ?_, fun e => absurd e (by simp)⟩
  generalize (ofOpO op).1 = o at *
  simp only [vFA_p, Nat.zero_add]
  rw [vLoad_1 hqq (show o.a[0]? = some (.int .i64 o.kind) from rfl)]
  refine h_acts ?_
  simp only [AEnd.elim]
  cases ha : actF o.kind with
  | none =>
    rw [actF_none ha] at fin
    unfold fnV
    rw [nofn_neq, dIf_b]
    exact ⟨fun e => absurd e (by simp), fun _ => fin (d := ⟨0, 90, S⟩) rfl H2 hn⟩
  | some f =>
    unfold fnV
    rw [fn_neq, dIf_b]
    refine ⟨fun _ => ?_, fun e => absurd e (by simp)⟩
    rw [vLoad_n hqq (off := 0) (n := 6) (by show 0 + 6 ≤ 6; omega), show o.a.extract 0 (0 + 6) = o.a from rfl]
    refine ⟨f, #[], #[], rfl, ?_⟩
    refine h_kind (who := i) (o := o) ha H2 hn hk hi ho fun g nm' Hg hn' => ?_
    simp only [AEnd.elim, vExt_20, vExt_21]
    exact fin (d := actH S i o) rfl Hg hn'
end
end Go.Pw
/- A house: its records. -/
set_option linter.unusedSimpArgs false
set_option linter.unusedVariables false
namespace Go.Pw
open Go Go.Proofs

abbrev Rec := ByteArray × ByteArray
def recC (l : List Rec) : List Value := l.flatMap fun a => [.string a.1, .string a.2]
theorem recC_app (l m : List Rec) : recC (l ++ m) = recC l ++ recC m := by simp [recC]
theorem recC_cells (L : Led) (n : Nat) : recCells L n = recC (recsOf L n) := by
  unfold recCells recC recsOf
  rw [List.flatMap_map]
theorem recsOf_len (L : Led) (n : Nat) : (recsOf L n).length = n := by simp [recsOf]
theorem recC_get : ∀ (l : List Rec) (i : Nat) (a : Rec), l[i]? = some a → (recC l)[i * 2]? = some (.string a.1) ∧ (recC l)[i * 2 + 1]? = some (.string a.2)
  | [], i, a, h => by simp at h
  | b :: l, 0, a, h => by simp at h; subst h; exact ⟨rfl, rfl⟩
  | b :: l, i + 1, a, h => by
    have := recC_get l i a (by simpa using h)
    have e : recC (b :: l) = [.string b.1, .string b.2] ++ recC l := by simp [recC]
    rw [e, List.getElem?_append_right (by simp; omega), List.getElem?_append_right (by simp; omega)]
    have e1 : (i + 1) * 2 - [Value.string b.1, .string b.2].length = i * 2 := by simp; omega
    have e2 : (i + 1) * 2 + 1 - [Value.string b.1, .string b.2].length = i * 2 + 1 := by simp; omega
    rw [e1, e2]
    exact this
theorem recs_of {h h0 : PH} {l : List Rec} {s : Value} (hw : OB 42 2 h0 l.length (recC l) h s) : RecsAt h s l := by
  rcases Nat.eq_zero_or_pos l.length with hn | hn
  · obtain ⟨p, cap, e⟩ := ob_len hw
    have := List.eq_nil_of_length_eq_zero hn
    subst this
    exact ⟨p, cap, e, by simp, fun i a ha => by simp at ha⟩
  · obtain ⟨q, c, cap, hs, hq, hsz, hget⟩ := ob_get hw hn
    have hc : l.length ≤ cap := by
      rcases hw.buf with ⟨_, h1, _⟩ | ⟨g2, c2, cap2, h1, h2, h3, h4, h5, h6⟩
      · omega
      · rw [h1] at hs; cases hs; exact h5
    refine ⟨_, cap, hs, hc, fun i a ha => ?_⟩
    have hi : i < l.length := (List.getElem?_eq_some_iff.1 ha).1
    obtain ⟨g1, g2⟩ := recC_get l i a ha
    refine ⟨q, 0, c, _, _, rfl, hq, by omega, ?_⟩
    apply Array.ext_getElem?
    intro j
    rw [Array.getElem?_extract]
    rcases Nat.lt_or_ge j 2 with hj | hj
    · rw [if_pos (by omega), hget _ (by omega)]
      match j, hj with
      | 0, _ => simpa using g1
      | 1, _ => simpa using g2
    · rw [if_neg (by omega), Array.getElem?_eq_none (by simpa using hj)]
def keyS (p : List UInt8) (i : Nat) : ByteArray := ⟨(p ++ [UInt8.ofNat (48 + i)]).toArray⟩
def bookK : List UInt8 := [98, 111, 111, 107, 47]
def clockK : List UInt8 := [99, 108, 111, 99, 107, 47]
def bkR (S : Hs) (i : Nat) : Rec := (keyS bookK i, bkB (S.bk i))
def auR (S : Hs) (i : Nat) : List Rec := match S.au i with
  | some p => [(keyS clockK i, ⟨(encN p.2.toNat ++ (aucB p.1).data.toList).toArray⟩)]
  | none => []
def auRs (S : Hs) : Nat → List Rec
  | 0 => []
  | k + 1 => auRs S k ++ auR S k
def nowR (S : Hs) : Rec := (⟨#[110, 111, 119]⟩, ⟨(encN S.now.toNat).toArray⟩)
def hsRecs (S : Hs) : List Rec := recsOf S.L S.L.n ++ (List.range S.G).map (bkR S) ++ auRs S S.G ++ [nowR S]
theorem auRs_len (S : Hs) : ∀ k, (auRs S k).length ≤ k
  | 0 => by simp [auRs]
  | k + 1 => by
    have h1 := auRs_len S k
    have h2 : (auR S k).length ≤ 1 := by unfold auR; split <;> simp
    simp only [auRs, List.length_append]
    omega
section
variable {h g : PH} {R : AEnd → PH → Prop} {x : Nat} {nm : Nm} {S : Hs} {C : PH → Prop}
theorem fill_b (b : UInt8) : Instr.fill (fun i => some (i * 1, 1)) (rep #[Value.int IntKind.u8 0] (1 * 1)) [(0, Value.int IntKind.u8 ↑b.toNat)] = some #[.int .u8 b.toNat] := by
  have e : Array.range 1 = #[0] := by decide
  simp [Instr.fill, rep, Value.cells, e]
theorem hkey_ok {p : List UInt8} {i : Nat} (hi : i < 10) (hp : p.length ≤ 100) (hR : R (.ret (.string (keyS p i))) h) : ACalls Tryz.prog 38 #[.string ⟨p.toArray⟩, .int .i64 i] h R := by
  refine ACalls.drop (call38 ?_)
  unfold sh38
  rw [vBin_add, w64 (by omega) (by omega), vConvI_i, wrap_u8n (n := 48 + i) (by omega) (by omega)]
  refine ⟨by omega, _, fill_b _, fun b hb => ?_⟩
  refine .inr ⟨b, 0, 1, 1, _, _, _, [UInt8.ofNat (48 + i)], rfl, ins_eq _ _ _, rfl, rfl, ?_⟩
  refine (str_cat p [UInt8.ofNat (48 + i)] (by simp; omega)).2 ?_
  exact ⟨h, sub_ins _ hb, hR⟩
/-- One record more. -/
theorem app_rec {K : Value → PH → Prop} {h0 : PH} {s : Value} {l : List Rec} {a b : ByteArray} (ob : OB 42 2 h0 l.length (recC l) h s) (hl : l.length ≤ 1000000) (hk : ∀ g s', OB 42 2 h0 (l ++ [(a, b)]).length (recC (l ++ [(a, b)])) g s' → K s' g) :
    vBuild [(0, 1), (1, 1)] #[.string ⟨#[]⟩, .string ⟨#[]⟩] [(0, .string a), (1, .string b)] fun t41 =>
      (1 * 2 ≤ 2 ^ 24) ∧ vBuildS 42 2 1 #[.string ⟨#[]⟩, .string ⟨#[]⟩] [(0, t41)] h fun t42 h_3 =>
      (0 < 2) ∧ (0 < 32) ∧ (Array.size #[(.string ⟨#[]⟩ : Value), (.string ⟨#[]⟩ : Value)] = 2) ∧ vAppend false 42 2 32 s t42 h_3 K := by
  refine ⟨#[.string a, .string b], by simp [Instr.fill, Value.cells], ?_⟩
  refine ⟨by omega, _, fill_rec a b, fun d hd => ⟨by omega, by omega, rfl, ?_⟩⟩
  have obd := ob.up (sub_ins (.cells #[.string a, .string b] 42) hd)
  refine ob_app (m := 1) (news := [.string a, .string b]) obd (by simp only [roomBytes]; omega) (by omega) rfl
    (fun K' hk' => .inr (.inr ⟨rfl, d, 0, 1, 1, _, _, _, rfl, ins_eq _ _ _, by show 0 + 1 * 2 ≤ 2; omega, ?_, hk'⟩)) (fun b' off l cc hx gg cap hs => ?_) fun g5 s5 ob5 => ?_
  · intro v hv
    simp at hv
    rcases hv with rfl | rfl <;> rfl
  · cases hx
    intro e
    rcases ob.buf with ⟨h1', _⟩ | ⟨g3, c3, cap3, h1', h2', _⟩
    · rw [h1'] at hs; cases hs
    · rw [h1'] at hs; cases hs; rw [← e, hd] at h2'; cases h2'
  · refine hk g5 s5 ?_
    rw [recC_app, List.length_append]
    exact ob5
theorem h_records (H : HsN x nm S h) (hn : nm.ok S) (hk : S.ok) (hR : ∀ g s, OB 42 2 h (hsRecs S).length (recC (hsRecs S)) g s → R (.ret s) g) : ACalls Tryz.prog 14 #[ptr x] h R := by
  refine call14 ?_
  unfold sh14
  have F := H.f
  have hcl := hk.cl
  have hg := hk.g
  rw [vBin_pnil Tryz.underlying28]
  simp only [boolOf_b, gq_b, true_implies, vNil_p, vFA_p, Nat.zero_add, F.lx.ld, ne_eq, not_true_eq_false, false_implies, and_true]
  rw [vBin_pnil Tryz.underlying81]
  simp only [vPick_b, cond_false, dIf_b]
  refine ⟨fun e => absurd e (by simp), fun _ => ?_⟩
  refine records_ok F.hl hk.led fun g1 s1 ob1 => ?_
  simp only [AEnd.elim]
  have ob1' : OB 42 2 h (recsOf S.L S.L.n).length (recC (recsOf S.L S.L.n)) g1 s1 := by
    rw [recsOf_len, ← recC_cells]; exact ob1
  have hl0 : (recsOf S.L S.L.n).length ≤ 16 := by rw [recsOf_len]; exact hcl
  unfold hsRecs at hR
  generalize recsOf S.L S.L.n = l0 at *
  rw [vLoad_1 (ob1.sub _ _ F.hx) (show (hsHd nm S)[4]? = some (.slice (some ⟨nm.bs, 0, none⟩) S.G nm.bcap) from rfl), vLenS_s]
  refine lf_intro (fun m s' g => ∃ (i : Nat) (s : Value), s' = (s, .int .i64 i) ∧ m = S.G - i ∧ i ≤ S.G ∧ OB 42 2 h (l0 ++ (List.range i).map (bkR S)).length (recC (l0 ++ (List.range i).map (bkR S))) g s) S.G
    ⟨0, s1, rfl, rfl, by omega, by simpa using ob1'⟩ ?_
  rintro m s' g ⟨i, s, rfl, rfl, hi, ob⟩
  by_cases hin : i < S.G
  · have key : ∀ (kn : (Value × Value × Value) → (Value × Value) → PH → Prop) x0, (∀ g2 s2, OB 42 2 h (l0 ++ (List.range (i + 1)).map (bkR S)).length (recC (l0 ++ (List.range (i + 1)).map (bkR S))) g2 s2 → kn (ptr x, .slice (some ⟨nm.bs, 0, none⟩) S.G nm.bcap, .int .i64 S.G) (s2, .int .i64 ((i : Int) + 1)) g2) →
        b14_5 (fun c h => R (.pan c) h) x0 (ptr x, .slice (some ⟨nm.bs, 0, none⟩) S.G nm.bcap, .int .i64 S.G) kn (s, .int .i64 i) g := by
      intro kn x0 hkn
      unfold b14_5
      have hlt : (i : Int) < (S.G : Int) := by omega
      simp only [vBin_lss, hlt, decide_true, dIf_b, vIxS_p]
      refine ⟨fun _ => ⟨by omega, by omega, ?_⟩, fun e => absurd e (by simp)⟩
      rw [vLoad_1 (ob.sub _ _ F.hb) (v := ptr (nm.ba i)) (by simpa using hn.cb i hin)]
      refine hkey_ok (p := bookK) (by omega) (by simp [bookK]) ?_
      simp only [AEnd.elim]
      refine bk_bytes (BkP.mono _ _ ob.sub (F.bk i hin)) (hk.bk i hin) ?_
      simp only [AEnd.elim]
      refine app_rec ob (by simp; omega) fun g2 s2 ob2 => ?_
      simp only [vBin_add]
      rw [w64 (by omega) (by omega)]
      refine hkn g2 s2 ?_
      rw [List.range_succ, List.map_append, ← List.append_assoc]
      exact ob2
    exact key _ _ fun g2 s2 ob2 => ⟨rfl, S.G - (i + 1), by omega, i + 1, s2, rfl, rfl, by omega, ob2⟩
  · have e : i = S.G := by omega
    subst e
    unfold b14_5
    simp only [vBin_lss, dIf_b]
    refine ⟨fun e => absurd e (by simp), fun _ => ?_⟩
    intro r hr
    simp only [Prod.mk.injEq] at hr
    obtain ⟨r0, r3⟩ := hr
    simp only [r0, r3, vNil_p, vFA_p, Nat.zero_add]
    rw [vLoad_1 (ob.sub _ _ F.hx) (show (hsHd nm S)[5]? = some (.slice (some ⟨nm.ss, 0, none⟩) S.G S.G) from rfl), vLenS_s]
    have hl1 : (l0 ++ (List.range S.G).map (bkR S)).length ≤ 20 := by simp; omega
    generalize l0 ++ (List.range S.G).map (bkR S) = l1 at *
    refine lf_intro (fun m s' g => ∃ (i : Nat) (s : Value), s' = (s, .int .i64 i) ∧ m = S.G - i ∧ i ≤ S.G ∧ OB 42 2 h (l1 ++ auRs S i).length (recC (l1 ++ auRs S i)) g s) S.G
      ⟨0, s, rfl, rfl, by omega, by simpa [auRs] using ob⟩ ?_
    clear ob
    rintro m s' g ⟨i, s, rfl, rfl, hi, ob⟩
    have hla := auRs_len S i
    by_cases hin : i < S.G
    · have key : ∀ (kn : (Value × Value × Value) → (Value × Value) → PH → Prop) x2, (∀ g2 s2, OB 42 2 h (l1 ++ auRs S (i + 1)).length (recC (l1 ++ auRs S (i + 1))) g2 s2 → kn (ptr x, .slice (some ⟨nm.ss, 0, none⟩) S.G S.G, .int .i64 S.G) (s2, .int .i64 ((i : Int) + 1)) g2) →
          b14_10 (fun c h => R (.pan c) h) x2 (ptr x, .slice (some ⟨nm.ss, 0, none⟩) S.G S.G, .int .i64 S.G) kn (s, .int .i64 i) g := by
        intro kn x2 hkn
        unfold b14_10
        have hlt : (i : Int) < (S.G : Int) := by omega
        simp only [vBin_lss, hlt, decide_true, dIf_b, vIxS_p]
        refine ⟨fun _ => ⟨by omega, by omega, ?_⟩, fun e => absurd e (by simp)⟩
        rw [show 0 + (i : Int).toNat * 2 = i * 2 by omega, vLoad_n (ob.sub _ _ F.hs) (by rw [saleC_size]; omega), saleC_ext hin]
        refine vNew_i fun d hd => ?_
        refine vStore_to (cs := #[saleP nm S i, .int .i64 (saleW S i)]) (ins_eq _ _ _) (by rfl) (by rfl) (by unfold saleP; cases S.au i <;> rfl) ?_
        rw [ins_ins]
        have obd := ob.up (sub_ins (.cells #[saleP nm S i, .int .i64 (saleW S i)] 98 (0, 0)) hd)
        have hdd : ins g d (.cells #[saleP nm S i, .int .i64 (saleW S i)] 98 (0, 0)) d = some (.cells #[saleP nm S i, .int .i64 (saleW S i)] 98 (0, 0)) := ins_eq _ _ _
        revert obd hdd
        generalize ins g d (.cells #[saleP nm S i, .int .i64 (saleW S i)] 98 (0, 0)) = G
        intro obd hdd
        simp only [vFA_p, Nat.zero_add]
        rw [vLoad_1 hdd (v := saleP nm S i) rfl]
        cases hau : S.au i with
        | none =>
          have hP : saleP nm S i = .pointer none := by unfold saleP; rw [hau]
          rw [hP, vBin_nilneq Tryz.underlying96, dIf_b]
          refine ⟨fun e => absurd e (by simp), fun _ => ?_⟩
          rw [vBin_add, w64 (by omega) (by omega)]
          refine hkn G s ?_
          have : auRs S (i + 1) = auRs S i := by simp [auRs, auR, hau]
          rw [this]
          exact obd
        | some q =>
          obtain ⟨A, w⟩ := q
          obtain ⟨hAk, hA0, hAn, hw0, hwn⟩ := hk.au i A w hin hau
          have hP : saleP nm S i = ptr (nm.aa i) := by unfold saleP; rw [hau]
          have hW : saleW S i = w := by unfold saleW; rw [hau]
          rw [hP, hW] at hdd
          rw [hP, vBin_pneq Tryz.underlying96, dIf_b]
          refine ⟨fun _ => ?_, fun e => absurd e (by simp)⟩
          rw [vLoad_1 hdd (v := .int .i64 w) rfl]
          obtain ⟨wn, rfl⟩ : ∃ wn : Nat, w = wn := ⟨w.toNat, by omega⟩
          refine putInt_ok (by omega) ?_
          simp only [AEnd.elim, vExt_20, vExt_21, vFA_p, Nat.zero_add]
          rw [vLoad_1 hdd (v := ptr (nm.aa i)) rfl]
          refine hkey_ok (p := clockK) (by omega) (by simp [clockK]) ?_
          simp only [AEnd.elim]
          rw [vLoad_1 hdd (v := ptr (nm.aa i)) rfl]
          refine ⟨rfl, ?_⟩
          refine clock_bytes ((F.au i (A, (wn : Int)) hin hau).sub obd.sub) hAk ?_
          simp only [AEnd.elim]
          have l1' := encN_10 (n := wn) (by omega)
          have l2' : (encL (aucNums A A.n)).length ≤ 1000 := by
            have h1 := encL_len2 (aucNums_bd hAk A.n (Nat.le_refl _))
            have h2 := aucNums_len A A.n
            have h3 := hAk.n
            omega
          have eB : (aucB A).data.toList = encL (aucNums A A.n) := by simp [aucB]
          have eB2 : aucB A = ⟨(aucB A).data.toList.toArray⟩ := by simp [aucB]
          rw [eB2, str_cat _ _ (by rw [eB]; omega)]
          refine app_rec obd (by simp; omega) fun g2 s2 ob2 => ?_
          simp only [vBin_add]
          rw [w64 (by omega) (by omega)]
          refine hkn g2 s2 ?_
          have : auRs S (i + 1) = auRs S i ++ [(keyS clockK i, ⟨(encN wn ++ (aucB A).data.toList).toArray⟩)] := by simp [auRs, auR, hau]
          rw [this, ← List.append_assoc]
          exact ob2
      exact key _ _ fun g2 s2 ob2 => ⟨rfl, S.G - (i + 1), by omega, i + 1, s2, rfl, rfl, by omega, ob2⟩
    · have e : i = S.G := by omega
      subst e
      unfold b14_10
      simp only [vBin_lss, dIf_b]
      refine ⟨fun e => absurd e (by simp), fun _ => ?_⟩
      intro r hr
      simp only [Prod.mk.injEq] at hr
      obtain ⟨r0, r3⟩ := hr
      simp only [r0, r3, vNil_p, vFA_p, Nat.zero_add]
      have hnow := hk.now
      rw [vLoad_1 (ob.sub _ _ F.hx) (show (hsHd nm S)[3]? = some (.int .i64 S.now) from rfl)]
      obtain ⟨nw, hnw⟩ : ∃ nw : Nat, S.now = nw := ⟨S.now.toNat, by omega⟩
      unfold nowR at hR
      rw [hnw, Int.toNat_natCast] at hR
      rw [hnw]
      refine putInt_ok (by omega) ?_
      simp only [AEnd.elim, vExt_20, vExt_21]
      exact app_rec ob (by simp; omega) fun g2 s2 ob2 => hR g2 s2 ob2
end
end Go.Pw
/- A house: a new one. -/
set_option linter.unusedSimpArgs false
set_option linter.unusedVariables false
namespace Go.Pw
open Go Go.Proofs

def newHs (c g : Int) : Hs := { L := newLed c g, now := 0, bk := fun _ => { next := 1, l := [] }, au := fun _ => none }
theorem bk0_ok : ({ next := 1, l := [] } : Bk).ok where
  right o h := by simp at h
  ids := List.Pairwise.nil
  pls := List.Pairwise.nil
  pl o h := by simp at h
  len := by simp
  nx := by simp
theorem newHs_ok {c g : Int} (hc1 : 1 ≤ c) (hc2 : c ≤ 16) (hg1 : 1 ≤ g) (hg2 : g ≤ 4) : (newHs c g).ok :=
  ⟨inv_new hc2 hg2 hg1, by show 1 ≤ c.toNat; omega, fun i _ => bk0_ok, fun i _ o h => (by simp [newHs] at h), fun i A w _ h => (by simp [newHs] at h), by simp [newHs]⟩
theorem saleC_new {nm : Nm} {S : Hs} (h : ∀ i, S.au i = none) : rep #[.pointer none, .int .i64 0] (S.G * 2) = saleC nm S := by
  apply Array.ext_getElem?
  intro k
  rcases Nat.lt_or_ge k (S.G * 2) with hk | hk
  · have e1 : (saleC nm S)[k]? = some (if k % 2 = 0 then .pointer none else .int .i64 0) := by
      unfold saleC
      rw [Array.getElem?_ofFn, dif_pos hk]
      simp only
      unfold saleP saleW
      rw [h]
    rw [e1]
    unfold rep
    simp only [Array.getElem?_map, Array.getElem?_range, hk, if_true, Option.map_some]
    congr 1
    have hm : k % 2 < 2 := by omega
    simp only [List.size_toArray, List.length_cons, List.length_nil]
    match hk : k % 2, hm with
    | 0, _ => rfl
    | 1, _ => rfl
  · rw [Array.getElem?_eq_none (by simp [rep]; omega), Array.getElem?_eq_none (by rw [saleC_size]; exact hk)]
theorem stars_emp {A : Nat → PH → Prop} : ∀ (n : Nat), (∀ k, k < n → A k = emp) → stars A n = emp
  | 0, _ => rfl
  | n + 1, h => by unfold stars; rw [stars_emp n fun k hk => h k (by omega), h n (by omega), sep_emp_eq mono_emp]
section
variable {h g : PH} {R : AEnd → PH → Prop} {x : Nat} {nm : Nm} {S : Hs} {C : PH → Prop}
theorem led_of {b : Nat} {L : Led} (H : (pt x (.cells #[.int .i64 L.goods, .slice (some ⟨b, 0, none⟩) L.n L.n] 149 (0, 0)) • pt b (.cells (ledCells L) 132 (0, 0)) • C) h) : (LedP x b L • C) h := by
  rw [← sep_assoc] at H
  refine sep_mono H (fun g hg => ?_) fun _ h => h
  have h1 := pt_get hg
  have h2 := pt_get (sep_c hg)
  refine ⟨h1, h2, fun e => ?_⟩
  rw [e, h2] at h1
  injection h1 with h3
  injection h3 with _ h4
  exact absurd h4 (by decide)
theorem os_pt {e : TypeId} {esz n : Nat} {l : List Value} {s : Value} (H : (OS e esz s n l • C) h) (hn : 0 < n) : ∃ g c cap, s = .slice (some ⟨g, 0, none⟩) n cap ∧ n ≤ cap ∧ (∀ j, j < n * esz → c[j]? = l[j]?) ∧ (pt g (.cells c e (0, 0)) • C) h := by
  obtain ⟨h0, hc, ob⟩ := os_ob H
  rcases ob.buf with ⟨_, e0, _⟩ | ⟨g, c, cap, rfl, hg, hg0, hcs, hle, htk⟩
  · omega
  · refine ⟨g, c, cap, rfl, hle, fun j hj => by rw [← htk, List.getElem?_take, if_pos hj, Array.getElem?_toList], ?_⟩
    refine ⟨one g (.cells c e (0, 0)), h0, fun b hb => ?_, one_sub hg, ob.sub, ins_eq _ _ _, hc⟩
    by_cases e : b = g
    · subst e; exact hg0
    · exact absurd (by unfold one; rw [ins_ne _ _ e]) hb
def ptrsL (ba : Nat → Nat) (n : Nat) : List Value := (List.range n).map fun k => ptr (ba k)
theorem fill_p (v : Value) (hv : v.cells = #[v]) : Instr.fill (fun i => some (i * 1, 1)) (rep #[Value.pointer none] (1 * 1)) [(0, v)] = some #[v] := by
  have e : Array.range 1 = #[0] := by decide
  simp [Instr.fill, rep, hv, e]
def hc0 (l c g : Value) (s : Value) (ss G : Nat) : Array Value := #[l, c, g, .int .i64 0, s, .slice (some ⟨ss, 0, none⟩) G G]
theorem build_house (l c g v : Value) (hl : l.cells = #[l]) (hc : c.cells = #[c]) (hg : g.cells = #[g]) (hv : v.cells = #[v]) :
    Instr.fill (fun i => [(0, 1), (1, 1), (2, 1), (3, 1), (4, 1), (5, 1)][i]?) #[Value.pointer none, .int .i64 0, .int .i64 0, .int .i64 0, .slice none 0 0, .slice none 0 0] [(0, l), (1, c), (2, g), (5, v)] = some #[l, c, g, .int .i64 0, .slice none 0 0, v] := by
  simp [Instr.fill, hl, hc, hg, hv]
theorem h_new {c g : Int} (hc1 : 1 ≤ c) (hc2 : c ≤ 16) (hg1 : 1 ≤ g) (hg2 : g ≤ 4) (hR : ∀ G x nm, (∀ C : PH → Prop, C h → (HsN x nm (newHs c g) • C) G) → nm.ok (newHs c g) → R (.ret (.tuple #[ptr x, .int .i64 0])) G) :
    ACalls Tryz.prog 19 #[.int .i64 c, .int .i64 g] h R := by
  refine call19 ?_
  unfold sh19
  refine new_ok hc1 hc2 hg1 hg2 fun l lb hlb hl hne => ?_
  obtain ⟨C0, hC0, h0⟩ : ∃ C0 : PH → Prop, (∀ g', C0 g' → g' = h) ∧ C0 h := ⟨fun g' => g' = h, fun _ e => e, rfl⟩
  have H1 : (LedP l lb (newLed c g) • C0) (ins (ins h lb (.cells (ledCells (newLed c g)) 132 (0, 0))) l (.cells #[.int .i64 g, .slice (some ⟨lb, 0, none⟩) c.toNat c.toNat] 149 (0, 0))) :=
    led_of (L := newLed c g) (pt_new (by rw [ins_ne _ _ hne]; exact hl) (pt_new hlb h0))
  revert H1
  generalize ins (ins h lb (.cells (ledCells (newLed c g)) 132 (0, 0))) l (.cells #[.int .i64 g, .slice (some ⟨lb, 0, none⟩) c.toNat c.toNat] 149 (0, 0)) = G1
  intro H1
  simp only [AEnd.elim, vExt_20, vExt_21, vBin_neq, decide_true, Bool.not_true, dIf_b]
  refine ⟨fun e => absurd e (by simp), fun _ => ?_⟩
  refine ⟨_, _, _, _, rfl, rfl, by omega, by omega, by omega, by omega, fun ss hss => ?_⟩
  obtain ⟨G, hG⟩ : ∃ G : Nat, g = G := ⟨g.toNat, by omega⟩
  subst hG
  simp only [Int.toNat_natCast]
  refine ⟨_, build_house _ _ _ _ rfl rfl rfl rfl, ?_⟩
  have H2 : (pt ss (.cells (rep #[.pointer none, .int .i64 0] (G * 2)) 98 (0, 0)) • LedP l lb (newLed c G) • C0) (ins G1 ss (.cells (rep #[.pointer none, .int .i64 0] (G * 2)) 98 (0, 0))) := pt_new hss H1
  revert H2
  generalize ins G1 ss (.cells (rep #[.pointer none, .int .i64 0] (G * 2)) 98 (0, 0)) = G2
  intro H2
  refine vNew_i fun x hx => ?_
  rw [show (Value.agg #[ptr l, .int .i64 c, .int .i64 G, .int .i64 0, .slice none 0 0, .slice (some ⟨ss, 0, none⟩) G G]).cells = hc0 (ptr l) (.int .i64 c) (.int .i64 G) (.slice none 0 0) ss G from rfl]
  have H3 : (pt x (.cells (hc0 (ptr l) (.int .i64 c) (.int .i64 G) (.slice none 0 0) ss G) 85 (0, 0)) • pt ss (.cells (rep #[.pointer none, .int .i64 0] (G * 2)) 98 (0, 0)) • LedP l lb (newLed c G) • C0) (ins G2 x (.cells (hc0 (ptr l) (.int .i64 c) (.int .i64 G) (.slice none 0 0) ss G) 85 (0, 0))) := pt_new hx H2
  revert H3
  generalize ins G2 x (.cells (hc0 (ptr l) (.int .i64 c) (.int .i64 G) (.slice none 0 0) ss G) 85 (0, 0)) = G3
  intro H3
  generalize hD : (pt ss (.cells (rep #[.pointer none, .int .i64 0] (G * 2)) 98 (0, 0)) • LedP l lb (newLed c G) • C0) = D at H3
  refine lf_intro (fun m s' g' => ∃ (i : Nat) (s : Value) (ba : Nat → Nat), s' = .int .i64 i ∧ m = G - i ∧ i ≤ G ∧
      (pt x (.cells (hc0 (ptr l) (.int .i64 c) (.int .i64 G) s ss G) 85 (0, 0)) • OS 93 1 s i (ptrsL ba i) • stars (fun k => BkP (ba k) { next := 1, l := [] }) i • D) g') G
    ⟨0, .slice none 0 0, fun _ => 0, rfl, rfl, by omega, ?_⟩ ?_
  · refine sep_mono H3 (fun _ h => h) fun g' hg' => ?_
    refine ob_os (h0 := g') ?_ ⟨Sub.refl _, rfl, .inl ⟨rfl, rfl, rfl⟩⟩
    show (emp • D) g'
    exact sep_c (sep_emp hg')
  rintro m s' g' ⟨i, s, ba, rfl, rfl, hi, H⟩
  by_cases hin : i < G
  · have key : ∀ (kn : (Value × Value) → Value → PH → Prop) x0, (∀ g2 s2 ba2, (pt x (.cells (hc0 (ptr l) (.int .i64 c) (.int .i64 G) s2 ss G) 85 (0, 0)) • OS 93 1 s2 (i + 1) (ptrsL ba2 (i + 1)) • stars (fun k => BkP (ba2 k) { next := 1, l := [] }) (i + 1) • D) g2 → kn (ptr x, .int .i64 G) (.int .i64 ((i : Int) + 1)) g2) →
        b19_6 (fun c h => R (.pan c) h) x0 (ptr x, .int .i64 G) kn (.int .i64 i) g' := by
      intro kn x0 hkn
      unfold b19_6
      have hlt : (i : Int) < (G : Int) := by omega
      simp only [vBin_lss, hlt, decide_true, dIf_b, vNil_p, vFA_p, Nat.zero_add]
      refine ⟨fun _ => ?_, fun e => absurd e (by simp)⟩
      have hxx := pt_get H
      rw [vLoad_1 hxx (v := s) rfl]
      refine bk_new fun g2 b hb hs hC => ?_
      have H4 := hC _ H
      have hxx2 := hs _ _ hxx
      simp only [AEnd.elim]
      rw [vLoad_1 hxx2 (v := s) rfl]
      refine ⟨rfl, by omega, _, fill_p (ptr b) rfl, fun d hd => ⟨by omega, by omega, rfl, ?_⟩⟩
      have H5 : (pt d (.cells #[ptr b] 93 (0, 0)) • BkP b { next := 1, l := [] } • pt x (.cells (hc0 (ptr l) (.int .i64 c) (.int .i64 G) s ss G) 85 (0, 0)) • OS 93 1 s i (ptrsL ba i) • stars (fun k => BkP (ba k) { next := 1, l := [] }) i • D) (ins g2 d (.cells #[ptr b] 93 (0, 0))) := pt_new hd H4
      revert H5
      generalize ins g2 d (.cells #[ptr b] 93 (0, 0)) = g3
      intro H5
      have hdd := pt_get H5
      have e5 : pt d (.cells #[ptr b] 93 (0, 0)) • BkP b { next := 1, l := [] } • pt x (.cells (hc0 (ptr l) (.int .i64 c) (.int .i64 G) s ss G) 85 (0, 0)) • OS 93 1 s i (ptrsL ba i) • stars (fun k => BkP (ba k) { next := 1, l := [] }) i • D =
          OS 93 1 s i (ptrsL ba i) • (pt d (.cells #[ptr b] 93 (0, 0)) • BkP b { next := 1, l := [] } • pt x (.cells (hc0 (ptr l) (.int .i64 c) (.int .i64 G) s ss G) 85 (0, 0)) • stars (fun k => BkP (ba k) { next := 1, l := [] }) i • D) := by ac_rfl
      rw [e5] at H5
      obtain ⟨h6, hc6, ob6⟩ := os_ob H5
      have hd6 := pt_get hc6
      refine ob_app (m := 1) (news := [ptr b]) ob6 (by simp only [roomBytes]; omega) (by omega) rfl
        (fun K' hk' => .inr (.inr ⟨rfl, d, 0, 1, 1, _, _, _, rfl, hdd, by show 0 + 1 * 1 ≤ 1; omega, (by intro v hv; simp at hv; subst hv; rfl), hk'⟩)) (fun b' off l' cc hx' gg cap hs' => ?_) fun g7 s7 ob7 => ?_
      · cases hx'
        intro e
        rcases ob6.buf with ⟨h1', _⟩ | ⟨g3, c3, cap3, h1', h2', h3', _⟩
        · rw [h1'] at hs'; cases hs'
        · rw [h1'] at hs'; cases hs'; rw [← e, hd6] at h3'; cases h3'
      have H7 := ob_os hc6 ob7
      have e7 : OS 93 1 s7 (i + 1) (ptrsL ba i ++ [ptr b]) • (pt d (.cells #[ptr b] 93 (0, 0)) • BkP b { next := 1, l := [] } • pt x (.cells (hc0 (ptr l) (.int .i64 c) (.int .i64 G) s ss G) 85 (0, 0)) • stars (fun k => BkP (ba k) { next := 1, l := [] }) i • D) =
          pt x (.cells (hc0 (ptr l) (.int .i64 c) (.int .i64 G) s ss G) 85 (0, 0)) • (OS 93 1 s7 (i + 1) (ptrsL ba i ++ [ptr b]) • (stars (fun k => BkP (ba k) { next := 1, l := [] }) i • BkP b { next := 1, l := [] }) • (D • pt d (.cells #[ptr b] 93 (0, 0)))) := by ac_rfl
      rw [e7] at H7
      have hxx7 := pt_get H7
      rw [vStore_1 hxx7 (by show 4 < 6; omega) (by rcases ob7.buf with ⟨e, _⟩ | ⟨_, _, _, e, _⟩ <;> rw [e] <;> rfl)]
      simp only [vBin_add]
      rw [w64 (by omega) (by omega)]
      have H8 := pt_put (p := .cells (hc0 (ptr l) (.int .i64 c) (.int .i64 G) s7 ss G) 85 (0, 0)) H7
      refine hkn _ s7 (fun k => if k = i then b else ba k) ?_
      refine sep_mono H8 (fun _ h => h) fun _ h => sep_mono h (fun _ h => ?_) fun _ h => sep_mono h (fun _ h => ?_) fun _ h => sep_l ?_ h
      · have e8 : ptrsL (fun k => if k = i then b else ba k) (i + 1) = ptrsL ba i ++ [ptr b] := by
          unfold ptrsL
          rw [List.range_succ, List.map_append]
          congr 1
          · refine List.map_congr_left fun k hk => ?_
            have := List.mem_range.1 hk
            show ptr (if k = i then b else ba k) = ptr (ba k)
            rw [if_neg (by omega)]
          · simp
        rw [e8]; exact h
      · unfold stars
        have e9 : stars (fun k => BkP (if k = i then b else ba k) { next := 1, l := [] }) i = stars (fun k => BkP (ba k) { next := 1, l := [] }) i := stars_congr _ fun k hk => by
          show BkP (if k = i then b else ba k) _ = BkP (ba k) _
          rw [if_neg (by omega)]
        have e10 : BkP ((fun k => if k = i then b else ba k) i) { next := 1, l := [] } = BkP b { next := 1, l := [] } := by simp
        show (stars (fun k => BkP (if k = i then b else ba k) { next := 1, l := [] }) i • BkP ((fun k => if k = i then b else ba k) i) { next := 1, l := [] }) _
        rw [e9, e10]
        exact h
      · rw [← hD]; exact mono_sep _ _
    exact key _ _ fun g2 s2 ba2 H2 => ⟨rfl, G - (i + 1), by omega, i + 1, s2, ba2, rfl, rfl, by omega, H2⟩
  · have e : i = G := by omega
    subst e
    unfold b19_6
    simp only [vBin_lss, dIf_b]
    refine ⟨fun e => absurd e (by simp), fun _ => ?_⟩
    intro r hr
    simp only [hr]
    rw [← hD] at H
    have e9 : pt x (.cells (hc0 (ptr l) (.int .i64 c) (.int .i64 i) s ss i) 85 (0, 0)) • OS 93 1 s i (ptrsL ba i) • stars (fun k => BkP (ba k) { next := 1, l := [] }) i • (pt ss (.cells (rep #[.pointer none, .int .i64 0] (i * 2)) 98 (0, 0)) • LedP l lb (newLed c i) • C0) =
        OS 93 1 s i (ptrsL ba i) • (pt x (.cells (hc0 (ptr l) (.int .i64 c) (.int .i64 i) s ss i) 85 (0, 0)) • stars (fun k => BkP (ba k) { next := 1, l := [] }) i • (pt ss (.cells (rep #[.pointer none, .int .i64 0] (i * 2)) 98 (0, 0)) • LedP l lb (newLed c i) • C0)) := by ac_rfl
    rw [e9] at H
    obtain ⟨bs, cb, bcap, rfl, hcap, hcb, H⟩ := os_pt H (by omega)
    have eG : (newHs c i).G = i := by unfold Hs.G newHs newLed; simp
    refine hR g' x { l := l, lb := lb, bs := bs, bcap := bcap, cb := cb, ss := ss, ba := ba, aa := fun _ => 0, ab := fun _ => 0 } (fun C hC => ?_) ⟨fun k hk => ?_, by rw [eG]; exact hcap⟩
    · unfold HsN
      have e1 : hsO { l := l, lb := lb, bs := bs, bcap := bcap, cb := cb, ss := ss, ba := ba, aa := fun _ => 0, ab := fun _ => 0 } (newHs c i) = .cells (hc0 (ptr l) (.int .i64 c) (.int .i64 i) (.slice (some ⟨bs, 0, none⟩) i bcap) ss i) 85 (0, 0) := by
        unfold hsO hsHd hc0
        rw [eG]
        have : ((newHs c i).L.n : Int) = c := by show ((c.toNat : Nat) : Int) = c; omega
        rw [this]; rfl
      have e2 : saO { l := l, lb := lb, bs := bs, bcap := bcap, cb := cb, ss := ss, ba := ba, aa := fun _ => 0, ab := fun _ => 0 } (newHs c i) = .cells (rep #[.pointer none, .int .i64 0] (i * 2)) 98 (0, 0) := by
        unfold saO
        rw [← saleC_new (S := newHs c i) (fun _ => rfl), eG]
      rw [e1, e2, eG]
      have e3 : stars (auP { l := l, lb := lb, bs := bs, bcap := bcap, cb := cb, ss := ss, ba := ba, aa := fun _ => 0, ab := fun _ => 0 } (newHs c i)) i = emp := stars_emp i fun k _ => rfl
      rw [e3, sep_emp_eq (mono_stars _ _)]
      have e4 : (pt x (.cells (hc0 (ptr l) (.int .i64 c) (.int .i64 i) (.slice (some ⟨bs, 0, none⟩) i bcap) ss i) 85 (0, 0)) • LedP l lb (newHs c i).L • pt bs (boO { l := l, lb := lb, bs := bs, bcap := bcap, cb := cb, ss := ss, ba := ba, aa := fun _ => 0, ab := fun _ => 0 }) • pt ss (.cells (rep #[.pointer none, .int .i64 0] (i * 2)) 98 (0, 0)) • stars (bkP { l := l, lb := lb, bs := bs, bcap := bcap, cb := cb, ss := ss, ba := ba, aa := fun _ => 0, ab := fun _ => 0 } (newHs c i)) i) • C =
          pt bs (boO { l := l, lb := lb, bs := bs, bcap := bcap, cb := cb, ss := ss, ba := ba, aa := fun _ => 0, ab := fun _ => 0 }) • (pt x (.cells (hc0 (ptr l) (.int .i64 c) (.int .i64 i) (.slice (some ⟨bs, 0, none⟩) i bcap) ss i) 85 (0, 0)) • stars (bkP { l := l, lb := lb, bs := bs, bcap := bcap, cb := cb, ss := ss, ba := ba, aa := fun _ => 0, ab := fun _ => 0 } (newHs c i)) i • (pt ss (.cells (rep #[.pointer none, .int .i64 0] (i * 2)) 98 (0, 0)) • LedP l lb (newHs c i).L • C)) := by ac_rfl
      rw [e4]
      refine sep_mono H (fun _ h => h) fun _ h => sep_mono h (fun _ h => h) fun _ h => sep_mono h (fun _ h => h) fun _ h => sep_mono h (fun _ h => h) fun _ h => sep_mono h (fun _ h => h) fun g2 h => ?_
      rw [hC0 _ h]; exact hC
    · rw [eG] at hk
      have := hcb k (by omega)
      rw [this]
      unfold ptrsL
      rw [List.getElem?_map, List.getElem?_range hk]
      rfl
end
end Go.Pw
/- A house behind some requests. -/
set_option linter.unusedSimpArgs false
set_option linter.unusedVariables false
namespace Go.Pw
open Go Go.Proofs

/-- A request as the laws tell it. -/
structure Ask where
  who : Int
  stamp : Int
  op : OpV
  raw : Bool
  t : ByteArray
def Ask.a (a : Ask) : Array Value := #[.int .i64 a.who, .int .i64 a.stamp, .int .i64 a.op.kind, .int .i64 a.op.good, .int .i64 a.op.am, .int .i64 a.op.side, .int .i64 a.op.id, .float .f64 a.op.price, .bool a.raw, .string a.t]
abbrev Ask.v (a : Ask) : Value := .agg a.a
def Ask.text (a : Ask) : ByteArray := if a.raw then a.t else opB a.op
def Ask.ok (a : Ask) : Prop := a.op.price < 18446744073709551616
def AsksAt (h : PH) (v : Value) (l : List Ask) : Prop :=
  ∃ p cap, v = .slice p l.length cap ∧ l.length ≤ cap ∧ ∀ i a, l[i]? = some a → ∃ b off c e fr, p = some ⟨b, off, none⟩ ∧ h b = some (.cells c e fr) ∧ off + i * 10 + 10 ≤ c.size ∧ c.extract (off + i * 10) (off + i * 10 + 10) = a.a
theorem AsksAt.sub {h g : PH} {v : Value} {l : List Ask} (hv : AsksAt h v l) (hs : Sub h g) : AsksAt g v l := by
  obtain ⟨p, cap, rfl, hc, hel⟩ := hv
  refine ⟨p, cap, rfl, hc, fun i a ha => ?_⟩
  obtain ⟨b, off, c, e, fr, q1, q2, q3⟩ := hel i a ha
  exact ⟨b, off, c, e, fr, q1, hs _ _ q2, q3⟩
/-- All that was there. -/
abbrev Own (h : PH) : PH → Prop := fun g => Sub h g
theorem Own.mono {h : PH} : Mono (Own h) := fun a b hs H => H.trans hs
/-- Behind all of a list of requests. -/
def runH (S : Hs) (l : List Ask) : Hs := l.foldl (fun S a => (doH S a.who a.stamp a.text).S) S
theorem runH_ok : ∀ (l : List Ask) {S : Hs}, S.ok → (runH S l).ok ∧ (runH S l).L.goods = S.L.goods ∧ (runH S l).L.n = S.L.n
  | [], S, h => ⟨h, rfl, rfl⟩
  | a :: l, S, h => by
    obtain ⟨d1, d2, d3⟩ := doH_ok h a.who a.stamp a.text
    obtain ⟨r1, r2, r3⟩ := runH_ok l d1
    exact ⟨r1, r2.trans d2, r3.trans d3⟩
theorem runH_take {S : Hs} {l : List Ask} {i : Nat} {a : Ask} (ha : l[i]? = some a) : runH S (l.take (i + 1)) = (doH (runH S (l.take i)) a.who a.stamp a.text).S := by
  unfold runH
  rw [List.take_add_one, ha, List.foldl_append]; rfl
section
variable {h g : PH} {R : AEnd → PH → Prop} {x : Nat} {nm : Nm} {S : Hs} {C : PH → Prop}
theorem text_ok2 {a : Ask} (ha : a.ok) (hR : R (.ret (.string a.text)) h) : ACalls Tryz.prog 13 #[a.v] h R := by
  refine ACalls.drop (call13 ?_)
  unfold sh13
  rw [show Value.cells a.v = a.a from rfl]
  refine vNew_gen fun c G hc hs hcc => ?_
  simp only [vFA_p, Nat.zero_add]
  rw [vLoad_1 hcc (v := .bool a.raw) rfl, dIf_b]
  unfold Ask.text at hR
  refine ⟨fun hr => ?_, fun hr => ?_⟩
  · rw [if_pos hr] at hR
    rw [vLoad_1 hcc (v := .string a.t) rfl]
    exact ⟨h, hs, hR⟩
  · rw [if_neg (by simp [hr])] at hR
    rw [vLoad_n hcc (off := 2) (n := 6) (by show 2 + 6 ≤ 10; omega), show a.a.extract 2 (2 + 6) = a.op.a from rfl]
    refine opText_ok ha ?_
    simp only [AEnd.elim, vExt_20, vExt_21]
    exact ⟨h, hs, hR⟩
/-- A request, beside what it does not touch. -/
theorem h_doC {who stamp : Int} {op : ByteArray} (H : (HsN x nm S • C) h) (hn : nm.ok S) (hk : S.ok)
    (hR : ∀ g nm', (HsN x nm' (doH S who stamp op).S • C) g → nm'.ok (doH S who stamp op).S → R (.ret (.tuple #[.string (doH S who stamp op).t, .int .i64 (doH S who stamp op).e])) g) :
    ACalls Tryz.prog 12 #[ptr x, .int .i64 who, .int .i64 stamp, .string op] h R := by
  refine ACalls.sep (Q := fun e g => e = .ret (.tuple #[.string (doH S who stamp op).t, .int .i64 (doH S who stamp op).e]) ∧ ∃ nm', nm'.ok (doH S who stamp op).S ∧ HsN x nm' (doH S who stamp op).S g) H (fun g Hg => h_do Hg hn hk fun g' nm' Hg' hn' => ⟨rfl, nm', hn', Hg'⟩) fun e g Hq => ?_
  obtain ⟨he, Hq2⟩ := sep_and.1 Hq
  obtain ⟨nm', Hq3⟩ := sep_ex.1 Hq2
  obtain ⟨hn', Hq4⟩ := sep_and.1 Hq3
  rw [he]
  exact hR g nm' Hq4 hn'
theorem h_recordsC (H : (HsN x nm S • C) h) (hn : nm.ok S) (hk : S.ok) (hR : ∀ g s, (HsN x nm S • OS 42 2 s (hsRecs S).length (recC (hsRecs S)) • C) g → R (.ret s) g) : ACalls Tryz.prog 14 #[ptr x] h R := by
  refine ACalls.sep (Q := fun e g => ∃ s, e = .ret s ∧ (OS 42 2 s (hsRecs S).length (recC (hsRecs S)) • HsN x nm S) g) H (fun g Hg => h_records Hg hn hk fun g' s ob => ⟨s, rfl, ob_os Hg ob⟩) fun e g Hq => ?_
  obtain ⟨s, Hq2⟩ := sep_ex.1 Hq
  obtain ⟨he, Hq⟩ := sep_and.1 Hq2
  rw [he]
  refine hR g s ?_
  have e : (OS 42 2 s (hsRecs S).length (recC (hsRecs S)) • HsN x nm S) • C = HsN x nm S • OS 42 2 s (hsRecs S).length (recC (hsRecs S)) • C := by ac_rfl
  rw [e] at Hq
  exact Hq
theorem recs_os {l : List Rec} {s : Value} (H : OS 42 2 s l.length (recC l) h) : RecsAt h s l := by
  obtain ⟨h0, _, ob⟩ := os_ob (C := emp) (sep_emp H)
  exact recs_of ob
set_option maxRecDepth 10000 in
theorem hbegun_ok {v : Value} {l : List Ask} (hv : AsksAt h v l) (hl : ∀ a ∈ l, a.ok)
    (hR : ∀ g x nm, (HsN x nm (runH (newHs 3 2) (l.take 60)) • Own h) g → nm.ok (runH (newHs 3 2) (l.take 60)) → R (.ret (ptr x)) g) : ACalls Tryz.prog 11 #[v] h R := by
  refine call11 ?_
  unfold sh11
  obtain ⟨p, cap, rfl, _, hel⟩ := hv
  refine h_new (c := 3) (g := 2) (by omega) (by omega) (by omega) (by omega) fun g x nm H0 hn0 => ?_
  have H := H0 (Own h) (Sub.refl h)
  simp only [AEnd.elim, vExt_20, vExt_21]
  rw [vBin_pnil Tryz.underlying28, dIf_b]
  refine ⟨fun e => absurd e (by simp), fun _ => ?_⟩
  have hk0 : (newHs 3 2).ok := newHs_ok (by omega) (by omega) (by omega) (by omega)
  generalize newHs 3 2 = S0 at *
  refine lf_intro (fun m s' g' => ∃ (i : Nat) (nm : Nm), s' = .int .i64 i ∧ m = l.length - i ∧ i ≤ l.length ∧ i ≤ 60 ∧ (HsN x nm (runH S0 (l.take i)) • Own h) g' ∧ nm.ok (runH S0 (l.take i))) l.length ⟨0, nm, rfl, rfl, by omega, by omega, H, hn0⟩ ?_
  rintro m s' g' ⟨i, nm, rfl, rfl, hi, hi60, H, hn⟩
  by_cases hil : i < l.length ∧ i < 60
  · obtain ⟨hil, h60⟩ := hil
    obtain ⟨a, ha⟩ : ∃ a, l[i]? = some a := ⟨_, List.getElem?_eq_getElem hil⟩
    obtain ⟨b', off, c, e, fr, rfl, hc, hsz, hex⟩ := hel i a ha
    have hao := hl a (List.mem_of_getElem? ha)
    have hstep := runH_take (S := S0) ha
    have hk := (runH_ok (l.take i) hk0).1
    generalize runH S0 (l.take i) = S at *
    have key : ∀ (kn : (Value × Value) → Value → PH → Prop) (x0 : Value → PH → Prop), (∀ g2 nm2, (HsN x nm2 (doH S a.who a.stamp a.text).S • Own h) g2 → nm2.ok (doH S a.who a.stamp a.text).S → kn (.slice (some ⟨b', off, none⟩) l.length cap, ptr x) (.int .i64 ((i : Int) + 1)) g2) →
        b11_5 (fun c h => R (.pan c) h) x0 (.slice (some ⟨b', off, none⟩) l.length cap, ptr x) kn (.int .i64 i) g' := by
      intro kn x0 hkn
      unfold b11_5
      have hlt : (i : Int) < (l.length : Int) := by omega
      have hlt60 : (i : Int) < 60 := by omega
      have hcg : g' b' = some (.cells c e fr) := (sep_r Own.mono H) _ _ hc
      have ex : ∀ j, j < 10 → c[off + i * 10 + j]? = a.a[j]? := fun j hj => by
        rw [← hex, Array.getElem?_extract, if_pos (by omega)]
      simp only [vLenS_s, vBin_lss, hlt, decide_true, boolOf_b, gq_b, true_implies, ne_eq, not_true_eq_false, false_implies, and_true, hlt60, vPick_b, cond_true, dIf_b, vIxS_p, vFA_p]
      refine ⟨⟨by omega, trivial, ?_⟩, fun e => absurd e (by simp)⟩
      have e0 : off + (i : Int).toNat * 10 = off + i * 10 := by omega
      rw [e0, Nat.add_zero]
      have l0 : ∀ K, vLoad none (.pointer (some ⟨b', off + i * 10, none⟩)) g' K ↔ K (.int .i64 a.who) := fun K => vLoad_1 hcg ((ex 0 (by omega)).trans rfl)
      have l1 : ∀ K, vLoad none (.pointer (some ⟨b', off + i * 10 + 1, none⟩)) g' K ↔ K (.int .i64 a.stamp) := fun K => vLoad_1 hcg ((ex 1 (by omega)).trans rfl)
      rw [l0]
      refine ⟨by omega, trivial, ?_⟩
      rw [l1]
      refine ⟨by omega, trivial, ?_⟩
      rw [vLoad_n hcg (by omega), hex]
      refine text_ok2 hao ?_
      simp only [AEnd.elim]
      rw [l0, l1]
      refine ⟨rfl, rfl, ?_⟩
      refine h_doC H hn hk fun g2 nm2 H2 hn2 => ?_
      simp only [AEnd.elim, vBin_add]
      rw [w64 (by omega) (by omega)]
      exact hkn g2 nm2 H2 hn2
    exact key _ _ fun g2 nm2 H2 hn2 => ⟨rfl, l.length - (i + 1), by omega, i + 1, nm2, rfl, rfl, by omega, by omega, by rw [hstep]; exact H2, by rw [hstep]; exact hn2⟩
  · have out : ∀ (kn : (Value × Value) → Value → PH → Prop) (x0 : Value → PH → Prop), x0 (ptr x) g' → b11_5 (fun c h => R (.pan c) h) x0 (.slice p l.length cap, ptr x) kn (.int .i64 i) g' := by
      intro kn x0 hx0
      unfold b11_5
      by_cases hil2 : i < l.length
      · have h60 : ¬ (i : Int) < 60 := by omega
        simp [hil2, h60]
        exact hx0
      · simp [hil2]
        exact hx0
    refine out _ _ ?_
    intro r hr
    rw [show r 3 = _ from hr]
    have e : l.take i = l.take 60 := by
      rcases Nat.lt_or_ge i 60 with h1 | h1
      · rw [List.take_of_length_le (by omega), List.take_of_length_le (by omega)]
      · have : i = 60 := by omega
        rw [this]
    rw [e] at H hn
    exact hR _ _ _ H hn
end
end Go.Pw
/- A house: what is told of it; of none. -/
set_option linter.unusedSimpArgs false
set_option linter.unusedVariables false
namespace Go.Pw
open Go Go.Proofs

section
variable {h g : PH} {R : AEnd → PH → Prop} {x : Nat} {nm : Nm} {S : Hs} {C : PH → Prop} {i : Nat}
theorem h_account (H : HsN x nm S h) (hi : i < S.L.n) (hR : R (.ret (.tuple #[.agg (acctCells S.L i), .bool true])) h) : ACalls Tryz.prog 23 #[ptr x, .int .i64 i] h R := by
  refine ACalls.drop (call23 ?_)
  unfold sh23
  refine vNew_i fun c hc => ?_
  have H1 := HsN.mono _ _ (sub_ins (.cells #[.int .i64 0, .int .i64 0, .int .i64 0, .int .i64 0, .int .i64 0, .int .i64 0, .int .i64 0, .int .i64 0, .int .i64 0, .int .i64 0] 61 (0, 0)) hc) H
  rw [vBin_pnil Tryz.underlying28, dIf_b]
  refine ⟨fun e => absurd e (by simp), fun _ => ?_⟩
  simp only [vNil_p, vFA_p, Nat.zero_add, H1.f.lx.ld]
  refine acct_ok H1.f.hl hi ?_
  simp only [AEnd.elim, vExt_20, vExt_21]
  refine vStore_to (cs := acctCells S.L i) (ins_eq _ _ _) (by rfl) (by rfl) (by rfl) ?_
  rw [ins_ins, vLoad_n (ins_eq _ _ _) (by show 0 + 10 ≤ 10; omega)]
  rw [show (acctCells S.L i).extract 0 (0 + 10) = acctCells S.L i from rfl]
  exact ⟨h, sub_ins _ hc, hR⟩
theorem h_last (H : HsN x nm S h) (hi : i < S.L.n) (hR : R (.ret (.tuple #[.int .i64 (S.L.f i 10), .string (S.L.r i)])) h) : ACalls Tryz.prog 18 #[ptr x, .int .i64 i] h R := by
  refine call18 ?_
  unfold sh18
  rw [vBin_pnil Tryz.underlying28, dIf_b]
  refine ⟨fun e => absurd e (by simp), fun _ => ?_⟩
  simp only [vNil_p, vFA_p, Nat.zero_add, H.f.lx.ld]
  refine last_ok H.f.hl hi ?_
  simp only [AEnd.elim, vExt_20, vExt_21]
  exact hR
theorem h_now (H : HsN x nm S h) (hR : R (.ret (.int .i64 S.now)) h) : ACalls Tryz.prog 26 #[ptr x] h R := by
  refine call26 ?_
  unfold sh26
  rw [vBin_pnil Tryz.underlying28, dIf_b]
  refine ⟨fun e => absurd e (by simp), fun _ => ?_⟩
  simp only [vNil_p, vFA_p, Nat.zero_add]
  rw [vLoad_1 H.f.hx (show (hsHd nm S)[3]? = some (.int .i64 S.now) from rfl)]
  exact hR
/-! none -/
end
end Go.Pw
/- The example of chapter 9, worked out. -/
set_option linter.unusedSimpArgs false
set_option linter.unusedVariables false
namespace Go.Pw
open Go Go.Proofs

def awOp (k g m d i : Int) (p : Nat) : OpV := { kind := k, good := g, am := m, side := d, id := i, price := p }
def aw0H : Hs := newHs 2 1
def q1 : OpV := awOp 2 0 6400 0 0 0
def q2 : OpV := awOp 4 0 5 0 0 0
def q3 : OpV := awOp 8 0 5 0 1 4611686018427387904
def q4 : OpV := awOp 8 0 3 1 1 4609434218613702656
def q5 : OpV := awOp 1 0 0 0 0 0
theorem enc_6400 : encN 6400 = [128, 50] := by rw [encN_big (by omega), encN_small (by omega)]; rfl
theorem enc0 : encN 0 = [0] := encN_small (by omega)
theorem enc1 : encN 1 = [1] := encN_small (by omega)
theorem ob1 : opB q1 = ⟨#[2, 0, 128, 50, 0, 0, 0, 0, 0, 0, 0, 0, 0, 0]⟩ := by
  have : ¬ ∃ n ∈ q1.nums, n < 0 ∨ 9007199254740992 < n := by decide
  unfold opB
  rw [if_neg this]
  have e : encL q1.nums = [2, 0, 128, 50, 0, 0] := by
    show encN 2 ++ (encN 0 ++ (encN 6400 ++ (encN 0 ++ (encN 0 ++ [])))) = _
    rw [enc_6400, enc0, encN_small (by omega)]; rfl
  rw [e]; rfl
theorem of1 : ofOpO (opB q1) = (q1, 0) := by rw [ob1]; kernel_rfl
def aw1H : Hs := (actH aw0H 0 q1).S.setL (markL (actH aw0H 0 q1).S.L 0 1 ⟨#[0, 0]⟩).2
def aw2H : Hs := (actH aw1H 1 q2).S.setL (markL (actH aw1H 1 q2).S.L 1 2 ⟨#[0, 0]⟩).2
def aw3H : Hs := (actH aw2H 0 q3).S.setL (markL (actH aw2H 0 q3).S.L 0 3 ⟨#[0, 0]⟩).2
def aw4H : Hs := (actH aw3H 1 q4).S.setL (markL (actH aw3H 1 q4).S.L 1 4 ⟨#[0, 0]⟩).2
def aw5H : Hs := (actH aw4H 0 q5).S.setL (markL (actH aw4H 0 q5).S.L 0 5 ⟨#[0, 1]⟩).2
theorem ae1 : (actH aw0H 0 q1).e = 0 := by kernel_rfl
theorem ae2 : (actH aw1H 1 q2).e = 0 := by kernel_rfl
theorem ae3 : (actH aw2H 0 q3).e = 0 := by kernel_rfl
theorem ae4 : (actH aw3H 1 q4).e = 0 := by kernel_rfl
theorem ae5 : (actH aw4H 0 q5).e = 0 := by kernel_rfl
theorem an5 : (actH aw4H 0 q5).n = 1 := by kernel_rfl
theorem an1 : (actH aw0H 0 q1).n = 0 := by kernel_rfl
theorem an2 : (actH aw1H 1 q2).n = 0 := by kernel_rfl
theorem an3 : (actH aw2H 0 q3).n = 0 := by kernel_rfl
theorem an4 : (actH aw3H 1 q4).n = 0 := by kernel_rfl
theorem as0 : aw0H.L.f 0 10 = 0 := by kernel_rfl
theorem as1 : aw1H.L.f 1 10 = 0 := by kernel_rfl
theorem as2 : aw2H.L.f 0 10 = 1 := by kernel_rfl
theorem as3 : aw3H.L.f 1 10 = 2 := by kernel_rfl
theorem as4 : aw4H.L.f 0 10 = 3 := by kernel_rfl
theorem av1 : aw5H.now = 1 := by kernel_rfl
theorem av2 : aw5H.L.f 0 2 = 3 := by kernel_rfl
theorem av3 : aw5H.L.f 0 0 = 6112 := by kernel_rfl
theorem av4 : aw5H.L.f 0 1 = 256 := by kernel_rfl
theorem av5 : aw5H.L.f 1 0 = 288 := by kernel_rfl
theorem av6 : aw5H.L.f 1 6 = 0 := by kernel_rfl
end Go.Pw
/- The example of chapter 9, walked. -/
set_option linter.unusedSimpArgs false
set_option linter.unusedVariables false
namespace Go.Pw
open Go Go.Proofs

theorem encL_small : ∀ {l : List Int}, (∀ n ∈ l, 0 ≤ n ∧ n < 128) → encL l = l.map fun n => UInt8.ofNat n.toNat
  | [], _ => rfl
  | n :: l, h => by
    have h1 := h n (by simp)
    have h2 := encL_small (l := l) fun x hx => h x (by simp [hx])
    show encN n.toNat ++ encL l = _
    rw [h2, encN_small (by omega)]; rfl
theorem opB_small {o : OpV} (h : ∀ n ∈ o.nums, 0 ≤ n ∧ n < 128) : opB o = ⟨(o.nums.map (fun n => UInt8.ofNat n.toNat) ++ le8 o.price 8).toArray⟩ := by
  unfold opB
  rw [if_neg (by rintro ⟨n, hn, h1⟩; have := h n hn; omega), encL_small h]
theorem of2 : ofOpO (opB q2) = (q2, 0) := by rw [opB_small (by decide)]; kernel_rfl
theorem of3 : ofOpO (opB q3) = (q3, 0) := by rw [opB_small (by decide)]; kernel_rfl
theorem of4 : ofOpO (opB q4) = (q4, 0) := by rw [opB_small (by decide)]; kernel_rfl
theorem of5 : ofOpO (opB q5) = (q5, 0) := by rw [opB_small (by decide)]; kernel_rfl
def ask (w : Int) (q : OpV) : Ask := { who := w, stamp := 0, op := q, raw := false, t := ⟨#[]⟩ }
def awL : List Ask := [ask 0 q1, ask 1 q2, ask 0 q3, ask 1 q4, ask 0 q5]
def awS : Nat → Hs
  | 0 => aw0H
  | 1 => aw1H
  | 2 => aw2H
  | 3 => aw3H
  | 4 => aw4H
  | _ => aw5H
def awT : Nat → ByteArray
  | 4 => ⟨#[0, 1]⟩
  | _ => ⟨#[0, 0]⟩
theorem do_step {S : Hs} {w : Nat} {stamp : Int} {op : ByteArray} {o : OpV} {n : Nat} {c : UInt8} (hw : w < S.L.n) (hs : 1 ≤ stamp ∧ stamp ≤ 1099511627776) (hl : S.L.f w 10 < stamp) (ho : ofOpO op = (o, 0)) (he : (actH S w o).e = 0) (hn : (actH S w o).n = n) (hc : encN n = [c]) :
    doH S w stamp op = ⟨⟨#[0, c]⟩, 0, (actH S w o).S.setL (markL (actH S w o).S.L w stamp ⟨#[0, c]⟩).2⟩ := by
  unfold doH
  rw [if_neg (by omega), if_neg (by omega), if_neg (by rw [Int.toNat_natCast]; omega)]
  simp only [Int.toNat_natCast]
  have hd : didH S w op = actH S w o := by unfold didH; rw [ho]; simp
  rw [hd]
  have hr : repB (actH S w o).e (actH S w o).n = ⟨#[0, c]⟩ := by
    unfold repB
    rw [he, hn, Int.toNat_natCast, hc, show (0 : Int).toNat = 0 from rfl, enc0]
    rfl
  unfold markH
  rw [hr]
theorem aw_do {i : Nat} {a : Ask} (ha : awL[i]? = some a) : doH (awS i) a.who ((i : Int) + 1) a.text = ⟨awT i, 0, awS (i + 1)⟩ ∧ a.ok := by
  have tx : ∀ w q, (ask w q).text = opB q := fun w q => by simp [Ask.text, ask]
  match i, ha with
  | 0, ha => cases ha; rw [tx]; exact ⟨do_step (w := 0) (n := 0) (by decide) (by decide) (by rw [show (awS 0).L.f 0 10 = 0 from as0]; decide) of1 ae1 an1 enc0, by unfold Ask.ok; decide⟩
  | 1, ha => cases ha; rw [tx]; exact ⟨do_step (w := 1) (n := 0) (by decide) (by decide) (by rw [show (awS 1).L.f 1 10 = 0 from as1]; decide) of2 ae2 an2 enc0, by unfold Ask.ok; decide⟩
  | 2, ha => cases ha; rw [tx]; exact ⟨do_step (w := 0) (n := 0) (by decide) (by decide) (by rw [show (awS 2).L.f 0 10 = 1 from as2]; decide) of3 ae3 an3 enc0, by unfold Ask.ok; decide⟩
  | 3, ha => cases ha; rw [tx]; exact ⟨do_step (w := 1) (n := 0) (by decide) (by decide) (by rw [show (awS 3).L.f 1 10 = 2 from as3]; decide) of4 ae4 an4 enc0, by unfold Ask.ok; decide⟩
  | 4, ha => cases ha; rw [tx]; exact ⟨do_step (w := 0) (n := 1) (by decide) (by decide) (by rw [show (awS 4).L.f 0 10 = 3 from as4]; decide) of5 ae5 an5 enc1, by unfold Ask.ok; decide⟩
  | i + 5, ha => simp [awL] at ha
def z10 : Array Value := #[.int .i64 0, .int .i64 0, .int .i64 0, .int .i64 0, .int .i64 0, .int .i64 0, .int .i64 0, .float .f64 0, .bool false, .string ⟨#[]⟩]
def awC : Array Value := (awL.flatMap fun a => a.a.toList).toArray
theorem fill_ask (w : Int) (q : OpV) : Instr.fill (fun i => [(0, 1), (1, 1), (2, 6), (8, 1), (9, 1)][i]?) z10 [(0, .int .i64 w), (2, .agg q.a)] = some (ask w q).a := by kernel_rfl
theorem fill_awL : Instr.fill (fun i => some (i * 10, 10)) (rep z10 (5 * 10)) [(0, .agg (ask 0 q1).a), (1, .agg (ask 1 q2).a), (2, .agg (ask 0 q3).a), (3, .agg (ask 1 q4).a), (4, .agg (ask 0 q5).a)] = some awC := by kernel_rfl
theorem aex0 : awC.extract (0 * 10) (0 * 10 + 10) = (ask 0 q1).a := by kernel_rfl
theorem aex1 : awC.extract (1 * 10) (1 * 10 + 10) = (ask 1 q2).a := by kernel_rfl
theorem aex2 : awC.extract (2 * 10) (2 * 10 + 10) = (ask 0 q3).a := by kernel_rfl
theorem aex3 : awC.extract (3 * 10) (3 * 10 + 10) = (ask 1 q4).a := by kernel_rfl
theorem aex4 : awC.extract (4 * 10) (4 * 10 + 10) = (ask 0 q5).a := by kernel_rfl
theorem awC_ext {i : Nat} {a : Ask} (ha : awL[i]? = some a) : awC.extract (i * 10) (i * 10 + 10) = a.a := by
  match i, ha with
  | 0, ha => cases ha; exact aex0
  | 1, ha => cases ha; exact aex1
  | 2, ha => cases ha; exact aex2
  | 3, ha => cases ha; exact aex3
  | 4, ha => cases ha; exact aex4
  | i + 5, ha => simp [awL] at ha
section
variable {h g : PH} {R : AEnd → PH → Prop}
set_option maxRecDepth 10000 in
theorem hawake_ok (hR : R (.ret (.bool true)) h) : ACalls Tryz.prog 16 #[] h R := by
  refine ACalls.drop (call16 ?_)
  unfold sh16
  refine h_new (c := 2) (g := 1) (by omega) (by omega) (by omega) (by omega) fun g x nm H0 hn0 => ?_
  have H := H0 (Own h) (Sub.refl h)
  clear H0
  simp only [AEnd.elim, vExt_20, vExt_21, vBin_neq, decide_true, Bool.not_true, boolOf_b, gq_b, true_implies, ne_eq, not_true_eq_false, false_implies, and_true]
  rw [vBin_pnil Tryz.underlying28]
  simp only [vPick_b, cond_false, dIf_b]
  refine ⟨fun e => absurd e (by simp), fun _ => ?_⟩
  refine ⟨q1.a, by rfl, (ask 0 q1).a, fill_ask 0 q1, q2.a, by rfl, (ask 1 q2).a, fill_ask 1 q2, q3.a, by rfl, (ask 0 q3).a, fill_ask 0 q3, q4.a, by rfl, (ask 1 q4).a, fill_ask 1 q4, q5.a, by rfl, (ask 0 q5).a, fill_ask 0 q5, ?_⟩
  refine ⟨by omega, awC, fill_awL, fun d hd => ?_⟩
  have H1 : (pt d (.cells awC 27 (0, 0)) • HsN x nm (awS 0) • Own h) (ins g d (.cells awC 27 (0, 0))) := pt_new hd H
  have H2 : (HsN x nm (awS 0) • pt d (.cells awC 27 (0, 0)) • Own h) (ins g d (.cells awC 27 (0, 0))) := by rw [sep_lc]; exact H1
  clear H1
  revert H2
  generalize ins g d (.cells awC 27 (0, 0)) = g1
  intro H2
  have hk0 : ∀ i, (awS i).ok := by
    have k0 : (awS 0).ok := newHs_ok (by omega) (by omega) (by omega) (by omega)
    have st : ∀ i, i < 5 → (awS i).ok → (awS (i + 1)).ok := fun i hi hk => by
      have hl : i < awL.length := hi
      have := (aw_do (List.getElem?_eq_getElem hl)).1
      have h1 := (doH_ok hk (awL[i]'hl).who ((i : Int) + 1) (awL[i]'hl).text).1
      rw [this] at h1
      exact h1
    have k1 := st 0 (by omega) k0
    have k2 := st 1 (by omega) k1
    have k3 := st 2 (by omega) k2
    have k4 := st 3 (by omega) k3
    have k5 := st 4 (by omega) k4
    intro i
    match i with
    | 0 => exact k0
    | 1 => exact k1
    | 2 => exact k2
    | 3 => exact k3
    | 4 => exact k4
    | i + 5 => exact k5
  refine lf_intro (fun m s' g' => ∃ (i : Nat) (nm : Nm), s' = (.bool false, .int .i64 i) ∧ m = 5 - i ∧ i ≤ 5 ∧ (HsN x nm (awS i) • pt d (.cells awC 27 (0, 0)) • Own h) g' ∧ nm.ok (awS i)) 5 ⟨0, nm, rfl, rfl, by omega, H2, hn0⟩ ?_
  clear H2 hn0 H hd
  rintro m s' g' ⟨i, nm, rfl, rfl, hi, H, hn⟩
  by_cases hil : i < 5
  · have hl : i < awL.length := hil
    have ha : awL[i]? = some awL[i] := List.getElem?_eq_getElem hl
    generalize awL[i] = a at ha
    obtain ⟨hdo, hao⟩ := aw_do ha
    have hex := awC_ext ha
    have hcc := pt_get (sep_r (mono_sep _ _) H)
    have hsz : awC.size = 50 := by kernel_rfl
    have ex : ∀ j, j < 10 → awC[i * 10 + j]? = a.a[j]? := fun j hj => by
      rw [← hex, Array.getElem?_extract, if_pos (by omega)]
    have hk := hk0 i
    have key : ∀ (kn : (Value × Value) → (Value × Value) → PH → Prop) x0 xr, (∀ g2 nm2, (HsN x nm2 (awS (i + 1)) • pt d (.cells awC 27 (0, 0)) • Own h) g2 → nm2.ok (awS (i + 1)) → kn (ptr x, .slice (some ⟨d, 0, none⟩) 5 5) (.bool false, .int .i64 ((i : Int) + 1)) g2) →
        b16_6 (fun c h' => ∃ g, Sub g h' ∧ R (.pan c) g) x0 xr (ptr x, .slice (some ⟨d, 0, none⟩) 5 5) kn (.bool false, .int .i64 i) g' := by
      intro kn x0 xr hkn
      unfold b16_6
      have hlt : (i : Int) < ((5 : Nat) : Int) := by omega
      simp only [vLenS_s, vBin_lss, hlt, decide_true, dIf_b, vIxS_p, vFA_p]
      refine ⟨fun _ => ⟨by omega, by omega, ?_⟩, fun e => absurd e (by simp)⟩
      have e0 : 0 + (i : Int).toNat * 10 = i * 10 := by omega
      rw [e0, Nat.add_zero]
      have l0 : ∀ K, vLoad none (.pointer (some ⟨d, i * 10, none⟩)) g' K ↔ K (.int .i64 a.who) := fun K => vLoad_1 hcc ((ex 0 (by omega)).trans rfl)
      rw [l0, vBin_add, w64 (by omega) (by omega)]
      refine ⟨by omega, by omega, ?_⟩
      rw [vLoad_n hcc (by omega), hex]
      refine text_ok2 hao ?_
      simp only [AEnd.elim]
      rw [l0]
      refine ⟨rfl, ?_⟩
      refine h_doC H hn hk ?_
      rw [hdo]
      intro g2 nm2 H2 hn2
      have hT : awT i = ⟨#[0, 0]⟩ ∨ awT i = ⟨#[0, 1]⟩ := by
        match i with
        | 0 => exact .inl rfl
        | 1 => exact .inl rfl
        | 2 => exact .inl rfl
        | 3 => exact .inl rfl
        | 4 => exact .inr rfl
        | i + 5 => exact .inl rfl
      obtain ⟨c, hc⟩ : ∃ c : UInt8, awT i = ⟨#[0, c]⟩ := by rcases hT with h | h <;> exact ⟨_, h⟩
      simp only [AEnd.elim, vExt_20, vExt_21, vBin_neq, decide_true, Bool.not_true, boolOf_b, gq_b, true_implies, ne_eq, not_true_eq_false, false_implies, and_true, vLenStr_s, vPick_b, cond_false]
      rw [hc]
      have hsz2 : ((ByteArray.size ⟨#[0, c]⟩ : Nat) : Int) = 2 := rfl
      rw [hsz2]
      simp only [decide_true, Bool.not_true, boolOf_b, gq_b, true_implies, ne_eq, not_true_eq_false, false_implies, and_true, vPick_b, cond_false]
      refine ⟨⟨#[0, c]⟩, _, _, 0, rfl, rfl, by omega, rfl, ?_⟩
      refine (vBin_neq 5 .u8 0 0).2 ?_
      simp only [decide_true, Bool.not_true, vPick_b, cond_false, dIf_b, vBin_add]
      refine ⟨fun e => absurd e (by simp), fun _ => ?_⟩
      rw [w64 (by omega) (by omega)]
      exact hkn g2 nm2 H2 hn2
    exact key _ _ _ fun g2 nm2 H2 hn2 => ⟨rfl, 5 - (i + 1), by omega, i + 1, nm2, rfl, rfl, by omega, H2, hn2⟩
  · have e : i = 5 := by omega
    subst e
    unfold b16_6
    simp only [vLenS_s, vBin_lss, dIf_b]
    refine ⟨fun e => absurd e (by simp), fun _ => ?_⟩
    intro r hr
    simp only [Prod.mk.injEq] at hr
    obtain ⟨r0, r1⟩ := hr
    simp only [r0, r1]
    have hsub : Sub h g' := sep_r Own.mono (sep_r (mono_sep _ _) H)
    have HN : HsN x nm aw5H g' := sep_l HsN.mono H
    clear H
    have hn5 : aw5H.L.n = 2 := by kernel_rfl
    refine h_account (i := 0) HN (by omega) ?_
    simp only [AEnd.elim, vExt_20, vExt_21]
    refine vNew_i fun c1 hc1 => ?_
    refine vStore_to (cs := acctCells aw5H.L 0) (ins_eq _ _ _) (by rfl) (by rfl) (by rfl) ?_
    rw [ins_ins]
    have s1 : Sub g' (ins g' c1 (.cells (acctCells aw5H.L 0) 61 (0, 0))) := sub_ins _ hc1
    have q1' : ins g' c1 (.cells (acctCells aw5H.L 0) 61 (0, 0)) c1 = some (.cells (acctCells aw5H.L 0) 61 (0, 0)) := ins_eq _ _ _
    revert s1 q1'
    generalize ins g' c1 (.cells (acctCells aw5H.L 0) 61 (0, 0)) = G1
    intro s1 k1
    have HN1 := HsN.mono _ _ s1 HN
    refine h_account (i := 1) HN1 (by omega) ?_
    simp only [AEnd.elim, vExt_20, vExt_21]
    refine vNew_i fun c2 hc2 => ?_
    refine vStore_to (cs := acctCells aw5H.L 1) (ins_eq _ _ _) (by rfl) (by rfl) (by rfl) ?_
    rw [ins_ins]
    have s2 : Sub G1 (ins G1 c2 (.cells (acctCells aw5H.L 1) 61 (0, 0))) := sub_ins _ hc2
    have k2 : ins G1 c2 (.cells (acctCells aw5H.L 1) 61 (0, 0)) c2 = some (.cells (acctCells aw5H.L 1) 61 (0, 0)) := ins_eq _ _ _
    revert s2 k2
    generalize ins G1 c2 (.cells (acctCells aw5H.L 1) 61 (0, 0)) = G2
    intro s2 k2
    have k1' := s2 _ _ k1
    refine h_now (HsN.mono _ _ s2 HN1) ?_
    have ld := fun {j : Nat} {v : Value} (hv : (acctCells aw5H.L 0)[j]? = some v) (K : Value → Prop) => vLoad_1 (K := K) k1' hv
    have ld2 := fun {j : Nat} {v : Value} (hv : (acctCells aw5H.L 1)[j]? = some v) (K : Value → Prop) => vLoad_1 (K := K) k2 hv
    have a0 := ld (j := 0) (v := .int .i64 6112) (by show some (Value.int .i64 (aw5H.L.f 0 0)) = _; rw [av3])
    have a1 := ld (j := 1) (v := .int .i64 256) (by show some (Value.int .i64 (aw5H.L.f 0 1)) = _; rw [av4])
    have a2 := ld (j := 2) (v := .int .i64 3) (by show some (Value.int .i64 (aw5H.L.f 0 2)) = _; rw [av2])
    have b0 := ld2 (j := 0) (v := .int .i64 288) (by show some (Value.int .i64 (aw5H.L.f 1 0)) = _; rw [av5])
    have b6 := ld2 (j := 6) (v := .int .i64 0) (by show some (Value.int .i64 (aw5H.L.f 1 6)) = _; rw [av6])
    rw [av1]
    simp [AEnd.elim, a0, a1, a2, b0, b6]
    exact ⟨h, (hsub.trans s1).trans s2, hR⟩
end
end Go.Pw
/- A house: what a request leaves as it was. -/
set_option linter.unusedSimpArgs false
set_option linter.unusedVariables false
namespace Go.Pw
open Go Go.Proofs

/-- The stamps and replies stay. -/
def sameR (L M : Led) : Prop := (∀ i, M.f i 10 = L.f i 10) ∧ M.r = L.r
theorem sameR_refl (L : Led) : sameR L L := ⟨fun _ => rfl, rfl⟩
theorem sameR_trans {A B C : Led} (h : sameR A B) (k : sameR B C) : sameR A C := ⟨fun i => (k.1 i).trans (h.1 i), k.2.trans h.2⟩
theorem sameR_set {L M : Led} (h : sameR L M) {k c : Nat} {v : Int} (hc : c ≠ 10) : sameR L (M.set k c v) :=
  ⟨fun i => by rw [set_ne (by omega)]; exact h.1 i, h.2⟩
theorem partE_g {L : Led} {g n : Int} (hg : L.goods ≤ 4) (h : ¬ partE L g n ≠ 0) : g.toNat < 4 := by
  have := partE_n (Decidable.not_not.1 h)
  omega
section
variable {L : Led} {i j : Nat} {g n p : Int}
theorem pay_R : sameR L (payL L i n).2 := by unfold payL; (repeat' split) <;> first | exact sameR_refl L | exact sameR_set (sameR_refl L) (by omega)
theorem take_R : sameR L (takeL L i n).2 := by unfold takeL; (repeat' split) <;> first | exact sameR_refl L | exact sameR_set (sameR_refl L) (by omega)
theorem hold_R0 : sameR L (holdL L i n).2 := by unfold holdL; (repeat' split) <;> first | exact sameR_refl L | exact sameR_set (sameR_refl L) (by omega)
theorem free_R0 : sameR L (freeL L i n).2 := by unfold freeL; (repeat' split) <;> first | exact sameR_refl L | exact sameR_set (sameR_refl L) (by omega)
theorem store_R (hg : L.goods ≤ 4) : sameR L (storeL L i g n).2 := by
  unfold storeL
  split
  · exact sameR_refl L
  · rename_i h; have := partE_g hg h
    split
    · exact sameR_refl L
    · exact sameR_set (sameR_refl L) (by omega)
theorem fetch_R (hg : L.goods ≤ 4) : sameR L (fetchL L i g n).2 := by
  unfold fetchL
  split
  · exact sameR_refl L
  · rename_i h; have := partE_g hg h
    split
    · exact sameR_refl L
    · exact sameR_set (sameR_refl L) (by omega)
theorem lock_R0 (hg : L.goods ≤ 4) : sameR L (lockL L i g n).2 := by
  unfold lockL
  split
  · exact sameR_refl L
  · rename_i h; have := partE_g hg h
    split
    · exact sameR_refl L
    · exact sameR_set (sameR_refl L) (by omega)
theorem unlock_R0 (hg : L.goods ≤ 4) : sameR L (unlockL L i g n).2 := by
  unfold unlockL
  split
  · exact sameR_refl L
  · rename_i h; have := partE_g hg h
    split
    · exact sameR_refl L
    · exact sameR_set (sameR_refl L) (by omega)
theorem move_R : sameR L (moveL L i j n).2 := by
  unfold moveL moveTo
  (repeat' split) <;> first | exact sameR_refl L | exact sameR_set (sameR_set (sameR_set (sameR_refl L) (by omega)) (by omega)) (by omega)
theorem hand_R (hg : L.goods ≤ 4) : sameR L (handL L i j g n).2 := by
  unfold handL
  split
  · exact sameR_refl L
  · rename_i h; have := partE_g hg h
    split
    · exact sameR_refl L
    · unfold handTo
      exact sameR_set (sameR_set (sameR_set (sameR_refl L) (by omega)) (by omega)) (by omega)
theorem hold_R : sameR L (holdH L i n) := by
  unfold holdH
  repeat' split
  · exact hold_R0
  · exact free_R0
  · exact sameR_refl L
theorem lock_R (hg : L.goods ≤ 4) : sameR L (lockH L i g n) := by
  unfold lockH
  repeat' split
  · exact lock_R0 hg
  · exact unlock_R0 hg
  · exact sameR_refl L
theorem trade_R (hg : L.goods ≤ 4) : sameR L (tradeH L i j g p n) := by
  unfold tradeH
  repeat' split
  · exact sameR_trans (hand_R hg) move_R
  · exact hand_R hg
  · exact sameR_refl L
end
theorem rdRun_R (held : Nat → Int) (t : Led × Auc) : ∀ k, sameR t.1 (rdRun held t k).1
  | 0 => sameR_refl _
  | k + 1 => sameR_trans (rdRun_R held t k) hold_R
theorem slRun_gn (gd : Int) (w : Nat) (p : Int) (held got : Nat → Int) (t : Led × Int) : ∀ k, (slRun gd w p held got t k).1.goods = t.1.goods
  | 0 => rfl
  | k + 1 => by
    show (holdH (tradeH (slRun gd w p held got t k).1 w k gd p (got k)) k _).goods = _
    rw [(holdH_gn _ _ _).1, (tradeH_gn _ _ _ _ _ _).1, slRun_gn gd w p held got t k]
theorem slRun_R {gd : Int} {w : Nat} {p : Int} {held got : Nat → Int} {t : Led × Int} (hg : t.1.goods ≤ 4) : ∀ k, sameR t.1 (slRun gd w p held got t k).1
  | 0 => sameR_refl _
  | k + 1 => by
    refine sameR_trans (slRun_R (gd := gd) (w := w) (p := p) (held := held) (got := got) hg k) ?_
    show sameR _ (holdH (tradeH (slRun gd w p held got t k).1 w k gd p (got k)) k _)
    exact sameR_trans (trade_R (by rw [slRun_gn]; exact hg)) hold_R
theorem matchF_R {gd p : Int} : ∀ (k : Nat) (L : Led) (bu se : List Fil), L.goods ≤ 4 → sameR L (matchF gd p k L bu se)
  | 0, L, bu, se, h => by cases bu <;> cases se <;> exact sameR_refl L
  | k + 1, L, [], se, h => by rw [matchF_nil]; exact sameR_refl L
  | k + 1, L, b :: bs, [], h => by rw [matchF_nil2]; exact sameR_refl L
  | k + 1, L, b :: bs, s :: ss, h => by
    show sameR L (matchF gd p k _ _ _)
    exact sameR_trans (trade_R h) (matchF_R k _ _ _ (by rw [(tradeH_gn _ _ _ _ _ _).1]; exact h))
theorem inF_R (p : Int) (f : Fil) (t : Spl) (o : Ord) : sameR t.L (inF p f t o).L := by
  unfold inF
  repeat' split
  · exact sameR_refl _
  · exact hold_R
  · exact sameR_refl _
theorem outF_R (p : Int) (f : Fil) : ∀ (was : List Ord) (t : Spl), sameR t.L (was.foldl (inF p f) t).L
  | [], t => sameR_refl _
  | o :: was, t => sameR_trans (inF_R p f t o) (outF_R p f was _)
theorem fills_R (p : Int) (was : List Ord) : ∀ (fs : List Fil) (t : Spl), sameR t.L (fs.foldl (outF p was) t).L
  | [], t => sameR_refl _
  | f :: fs, t => sameR_trans (outF_R p f was t) (fills_R p was fs _)
theorem clearH_R {S : Hs} (hk : S.ok) {gd : Nat} (hgG : gd < S.G) : sameR S.L (clearH S gd).L := by
  have h1 := fills_R (clearO (S.bk gd)).p (S.bk gd).l (clearO (S.bk gd)).fs ⟨S.L, [], []⟩
  have h2 := splH_inv hk hgG
  have hg := hk.g
  exact sameR_trans h1 (matchF_R _ _ _ _ (by have := h2.1.2.2; show (splH S gd).L.goods ≤ 4; omega))
theorem roundH_R {S : Hs} (hk : S.ok) {gd : Nat} (hgG : gd < S.G) : sameR S.L (roundH S gd).L := by
  have hg := hk.g
  unfold roundH
  cases hau : S.au gd with
  | none => exact sameR_refl _
  | some q =>
    obtain ⟨A, w⟩ := q
    simp only
    split
    · exact rdRun_R _ (S.L, (nextA A).2.2) _
    · have h1 := slRun_R (gd := gd) (w := w.toNat) (p := (saleA (nextA A).2.2).1) (held := fun i : Nat => needA A i) (got := (saleA (nextA A).2.2).2) (t := (S.L, A.sup)) (by show S.L.goods ≤ 4; omega) S.L.n
      refine sameR_trans h1 (lock_R ?_)
      rw [slRun_gn]
      show S.L.goods ≤ 4
      omega
theorem tickRun_R {S : Hs} (hk : S.ok) : ∀ k, k ≤ S.G → sameR S.L (tickRun S k).L
  | 0, _ => sameR_refl _
  | k + 1, hle => by
    obtain ⟨h1, h2, h3, h4⟩ := tickRun_ok hk k (by omega)
    have eG : (tickRun S k).G = S.G := by unfold Hs.G; rw [h3]
    obtain ⟨c1, c2, c3⟩ := clearH_gn h1 (gd := k) (by rw [eG]; omega)
    have eG2 : (clearH (tickRun S k) k).G = S.G := by unfold Hs.G; rw [c3, h3]
    exact sameR_trans (tickRun_R hk k (by omega)) (sameR_trans (clearH_R h1 (by rw [eG]; omega)) (roundH_R (clearH_ok h1 (by rw [eG]; omega)) (by rw [eG2]; omega)))
theorem tickH_R {S : Hs} (hk : S.ok) : sameR S.L (tickH S).2.2.L := by
  unfold tickH
  have hn := hk.now
  split
  · exact sameR_refl _
  · exact tickRun_R (S := S.setNow (S.now + 1)) (setNow_ok hk (by omega)) S.G (Nat.le_refl _)
section
variable {S : Hs} {who : Nat} {o : OpV}
theorem putH_R (hk : S.ok) : sameR S.L (putH S who o).2.L := by
  have hg := hk.g
  unfold putH
  simp only
  repeat' split
  all_goals first | exact sameR_refl _ | exact sameR_trans hold_R (lock_R (by rw [(holdH_gn _ _ _).1]; omega))
theorem amendH_R (hk : S.ok) : sameR S.L (amendH S who o).2.L := by
  have hg := hk.g
  unfold amendH
  simp only
  repeat' split
  all_goals first | exact sameR_refl _ | exact sameR_trans hold_R (lock_R (by rw [(holdH_gn _ _ _).1]; omega))
theorem cancelH_R (hk : S.ok) : sameR S.L (cancelH S who o).2.L := by
  have hg := hk.g
  unfold cancelH
  simp only
  repeat' split
  all_goals first | exact sameR_refl _ | exact hold_R | exact lock_R (by omega)
theorem wantH_R (hk : S.ok) : sameR S.L (wantH S who o).2.L := by
  unfold wantH
  split
  · exact sameR_refl _
  · split
    · exact sameR_refl _
    · simp only
      repeat' split
      all_goals first | exact sameR_refl _ | exact hold_R
theorem offerH_R (hk : S.ok) : sameR S.L (offerH S who o).2.L := by
  have hg := hk.g
  unfold offerH
  repeat' split
  all_goals first | exact sameR_refl _ | exact lock_R0 (by omega)
theorem actH_R (hk : S.ok) : sameR S.L (actH S who o).S.L := by
  have hg := hk.g
  unfold actH
  repeat' split
  · exact tickH_R hk
  · exact pay_R
  · exact take_R
  · exact store_R (by omega)
  · exact fetch_R (by omega)
  · exact offerH_R hk
  · exact wantH_R hk
  · exact putH_R hk
  · exact amendH_R hk
  · exact cancelH_R hk
  · exact sameR_refl _
end
/-! what belongs to another client -/
section
variable {S : Hs} {who : Nat} {o : OpV} {i : Nat}
/-! what is refused -/
theorem pay_same (h : (payL S.L who o.am).1 ≠ 0) : S.setL (payL S.L who o.am).2 = S := by
  have : (payL S.L who o.am).2 = S.L := by revert h; unfold payL; (repeat' split) <;> simp
  rw [this]; rfl
theorem take_same (h : (takeL S.L who o.am).1 ≠ 0) : S.setL (takeL S.L who o.am).2 = S := by
  have : (takeL S.L who o.am).2 = S.L := by revert h; unfold takeL; (repeat' split) <;> simp
  rw [this]; rfl
theorem store_same (h : (storeL S.L who o.good o.am).1 ≠ 0) : S.setL (storeL S.L who o.good o.am).2 = S := by
  have : (storeL S.L who o.good o.am).2 = S.L := by revert h; unfold storeL; (repeat' split) <;> simp
  rw [this]; rfl
theorem fetch_same (h : (fetchL S.L who o.good o.am).1 ≠ 0) : S.setL (fetchL S.L who o.good o.am).2 = S := by
  have : (fetchL S.L who o.good o.am).2 = S.L := by revert h; unfold fetchL; (repeat' split) <;> simp
  rw [this]; rfl
theorem tick_same (h : (tickH S).2.1 ≠ 0) : (tickH S).2.2 = S := by
  unfold tickH at h ⊢
  split
  · rfl
  · rename_i hn; rw [if_neg hn] at h; exact absurd rfl h
theorem offer_same (h : (offerH S who o).1 ≠ 0) : (offerH S who o).2 = S := by
  revert h; unfold offerH
  split
  · intro _; rfl
  · split
    · intro _; rfl
    · split
      · intro _; rfl
      · split
        · intro _; rfl
        · split
          · intro _; rfl
          · intro h; exact absurd rfl h
theorem want_same (h : (wantH S who o).1 ≠ 0) : (wantH S who o).2 = S := by
  revert h
  unfold wantH
  split
  · intro _; rfl
  · split
    · intro _; rfl
    · simp only
      split
      · intro _; rfl
      · split
        · intro _; rfl
        · split
          · intro _; rfl
          · intro h; exact absurd rfl h
theorem put_same (h : (putH S who o).1 ≠ 0) : (putH S who o).2 = S := by
  revert h; unfold putH; simp only
  split
  · intro _; rfl
  · split
    · intro _; rfl
    · split
      · intro _; rfl
      · intro h; exact absurd rfl h
theorem amend_same (h : (amendH S who o).1 ≠ 0) : (amendH S who o).2 = S := by
  revert h; unfold amendH; simp only
  split
  · intro _; rfl
  · split
    · intro _; rfl
    · split
      · intro _; rfl
      · split
        · intro _; rfl
        · intro h; exact absurd rfl h
theorem cancel_same (h : (cancelH S who o).1 ≠ 0) : (cancelH S who o).2 = S := by
  revert h; unfold cancelH; simp only
  split
  · intro _; rfl
  · split
    · intro _; rfl
    · intro h; exact absurd rfl h
theorem actH_same (h : (actH S who o).e ≠ 0) : (actH S who o).S = S := by
  unfold actH at h ⊢
  by_cases k1 : o.kind = 1
  · rw [if_pos k1] at h ⊢; exact tick_same h
  rw [if_neg k1] at h ⊢
  by_cases k2 : o.kind = 2
  · rw [if_pos k2] at h ⊢; exact pay_same h
  rw [if_neg k2] at h ⊢
  by_cases k3 : o.kind = 3
  · rw [if_pos k3] at h ⊢; exact take_same h
  rw [if_neg k3] at h ⊢
  by_cases k4 : o.kind = 4
  · rw [if_pos k4] at h ⊢; exact store_same h
  rw [if_neg k4] at h ⊢
  by_cases k5 : o.kind = 5
  · rw [if_pos k5] at h ⊢; exact fetch_same h
  rw [if_neg k5] at h ⊢
  by_cases k6 : o.kind = 6
  · rw [if_pos k6] at h ⊢; exact offer_same h
  rw [if_neg k6] at h ⊢
  by_cases k7 : o.kind = 7
  · rw [if_pos k7] at h ⊢; exact want_same h
  rw [if_neg k7] at h ⊢
  by_cases k8 : o.kind = 8
  · rw [if_pos k8] at h ⊢; exact put_same h
  rw [if_neg k8] at h ⊢
  by_cases k9 : o.kind = 9
  · rw [if_pos k9] at h ⊢; exact amend_same h
  rw [if_neg k9] at h ⊢
  by_cases k10 : o.kind = 10
  · rw [if_pos k10] at h ⊢; exact cancel_same h
  rw [if_neg k10] at h ⊢
end
end Go.Pw
/- A stamp takes effect once; the walk. -/
set_option linter.unusedSimpArgs false
set_option linter.unusedVariables false
namespace Go.Pw
open Go Go.Proofs

theorem repB_size {e n : Int} (he : 0 ≤ e ∧ e ≤ 100) (hn : 0 ≤ n ∧ n ≤ 9007199254740992) : ((repB e n).size : Int) ≤ 256 := by
  have l1 := encN_10 (n := e.toNat) (by omega)
  have l2 := encN_10 (n := n.toNat) (by omega)
  show ((encN e.toNat ++ encN n.toNat).toArray.size : Int) ≤ 256
  simp only [List.size_toArray, List.length_append]
  omega
section
variable {S : Hs} {who stamp : Int} {op : ByteArray}
/-- A request that is taken. -/
theorem doH_0 (hk : S.ok) (he : (doH S who stamp op).e = 0) : ∃ i : Nat, who = i ∧ i < S.L.n ∧ 1 ≤ stamp ∧ stamp ≤ 1099511627776 ∧ S.L.f i 10 < stamp ∧ (doH S who stamp op).t = repB (didH S i op).e (didH S i op).n ∧
    (doH S who stamp op).S = (didH S i op).S.setL (((didH S i op).S.L.set i 10 stamp).setR i (repB (didH S i op).e (didH S i op).n)) ∧ (doH S who stamp op).S.L.f i 10 = stamp ∧ (doH S who stamp op).S.L.r i = repB (didH S i op).e (didH S i op).n := by
  unfold doH at he ⊢
  split at he
  · cases he
  · rename_i hw
    rw [if_neg hw]
    split at he
    · cases he
    · rename_i hs
      rw [if_neg hs]
      split at he
      · cases he
      · rename_i hl
        rw [if_neg hl]
        obtain ⟨i, rfl⟩ : ∃ i : Nat, who = i := ⟨who.toNat, by omega⟩
        rw [Int.toNat_natCast] at hl ⊢
        have hi : i < S.L.n := by omega
        obtain ⟨d1, d2, d3, d4, d5⟩ := didH_ok hk hi op
        have hR : sameR S.L (didH S i op).S.L := by
          unfold didH
          split
          · exact actH_R hk
          · exact sameR_refl _
        have hz := repB_size d4 d5
        have hm : (markL (didH S i op).S.L i stamp (repB (didH S i op).e (didH S i op).n)).2 = ((didH S i op).S.L.set i 10 stamp).setR i (repB (didH S i op).e (didH S i op).n) := by
          unfold markL
          rw [if_neg (by omega), if_neg (by rw [hR.1]; omega)]
        refine ⟨i, rfl, hi, by omega, by omega, by omega, rfl, ?_, ?_, ?_⟩
        · simp only [markH, hm]
        · simp only [markH, hm, Hs.setL, Led.setR, Led.set]; simp
        · simp only [markH, hm, Hs.setL, Led.setR, Led.set]; simp
theorem doH_no (he : (doH S who stamp op).e ≠ 0) : (doH S who stamp op).S = S ∧ (doH S who stamp op).t = ⟨#[]⟩ := by
  unfold doH at he ⊢
  split
  · exact ⟨rfl, rfl⟩
  · rename_i hw
    rw [if_neg hw] at he
    split
    · exact ⟨rfl, rfl⟩
    · rename_i hs
      rw [if_neg hs] at he
      split
      · exact ⟨rfl, rfl⟩
      · rename_i hl
        rw [if_neg hl] at he
        exact absurd rfl he
end
theorem str_emp (t : ByteArray) : (t = ⟨#[]⟩) ↔ t.size = 0 := by
  constructor
  · intro h; rw [h]; rfl
  · intro h
    cases t with
    | mk d =>
      have : d = #[] := by
        apply Array.eq_empty_of_size_eq_zero
        exact h
      rw [this]
section
variable {h g : PH} {R : AEnd → PH → Prop}
/-- An argument's request, laid. -/
structure AskIn (G : PH) (c : Nat) (a : Ask) : Prop where
  hc : G c = some (.cells a.a 27 (0, 0))
theorem AskIn.sub {G g : PH} {c : Nat} {a : Ask} (H : AskIn G c a) (hs : Sub G g) : AskIn g c a := ⟨hs _ _ H.hc⟩
theorem AskIn.w {G : PH} {c : Nat} {a : Ask} {K : Value → Prop} (H : AskIn G c a) : vLoad none (.pointer (some ⟨c, 0, none⟩)) G K ↔ K (.int .i64 a.who) := vLoad_1 H.hc rfl
theorem AskIn.s {G : PH} {c : Nat} {a : Ask} {K : Value → Prop} (H : AskIn G c a) : vLoad none (.pointer (some ⟨c, 1, none⟩)) G K ↔ K (.int .i64 a.stamp) := vLoad_1 H.hc rfl
theorem AskIn.all {G : PH} {c : Nat} {a : Ask} {K : Value → Prop} (H : AskIn G c a) : vLoad (some 10) (.pointer (some ⟨c, 0, none⟩)) G K ↔ K a.v := by
  rw [vLoad_n H.hc (off := 0) (n := 10) (by show 0 + 10 ≤ 10; omega)]; rfl
end
end Go.Pw
/- The document's reader of requests reads what the program's reads. -/
set_option linter.unusedSimpArgs false
set_option linter.unusedVariables false
namespace Go.Pw
open Go Go.Proofs

end Go.Pw
/- A request that lets no time go on leaves the others' accounts; the walk. -/
set_option linter.unusedSimpArgs false
set_option linter.unusedVariables false
namespace Go.Pw
open Go Go.Proofs

end Go.Pw
/- A refused request changes nothing but its client's stamp and reply; the walk. -/
set_option linter.unusedSimpArgs false
set_option linter.unusedVariables false
namespace Go.Pw
open Go Go.Proofs

theorem hsRecs_len (S : Hs) (hk : S.ok) : (hsRecs S).length ≤ 1000 := by
  have h1 := hk.cl
  have h2 := hk.g
  have h3 := auRs_len S S.G
  unfold hsRecs
  simp only [List.length_append, recsOf_len, List.length_map, List.length_range, List.length_cons, List.length_nil]
  omega
/-- What changes of the records where one client is marked. -/
theorem hsRecs_mark {S : Hs} {i : Nat} (hi : i < S.L.n) (s : Int) (t : ByteArray) : (hsRecs (S.setL ((S.L.set i 10 s).setR i t))).length = (hsRecs S).length ∧
    ∀ (j : Nat) (a b : Rec), (hsRecs S)[j]? = some a → (hsRecs (S.setL ((S.L.set i 10 s).setR i t)))[j]? = some b → a.1 = b.1 ∧ (j = i ∨ a = b) := by
  have eL : ∀ {S' : Hs}, S'.L.n = S.L.n → S'.G = S.G → S'.bk = S.bk → S'.au = S.au → S'.now = S.now → ∃ tl, hsRecs S = recsOf S.L S.L.n ++ tl ∧ hsRecs S' = recsOf S'.L S.L.n ++ tl := fun {S'} h1 h2 h3 h4 h5 => by
    refine ⟨(List.range S.G).map (bkR S) ++ auRs S S.G ++ [nowR S], by unfold hsRecs; simp only [List.append_assoc], ?_⟩
    have e1 : bkR S' = bkR S := by funext k; unfold bkR; rw [h3]
    have e2 : ∀ k, auRs S' k = auRs S k := fun k => by
      induction k with
      | zero => rfl
      | succ k ih => unfold auRs; rw [ih]; unfold auR; rw [h4]
    have e3 : nowR S' = nowR S := by unfold nowR; rw [h5]
    unfold hsRecs
    rw [h1, h2, e1, e2, e3]
    simp only [List.append_assoc]
  obtain ⟨tl, h1, h2⟩ := eL (S' := S.setL ((S.L.set i 10 s).setR i t)) rfl rfl rfl rfl rfl
  rw [h1, h2]
  refine ⟨by simp [recsOf_len], fun j a b ha hb => ?_⟩
  by_cases hj : j < S.L.n
  · have l1 : j < (recsOf S.L S.L.n).length := by rw [recsOf_len]; exact hj
    have l2 : j < (recsOf (S.setL ((S.L.set i 10 s).setR i t)).L S.L.n).length := by rw [recsOf_len]; exact hj
    rw [List.getElem?_append_left l1] at ha
    rw [List.getElem?_append_left l2] at hb
    unfold recsOf at ha hb
    rw [List.getElem?_map, List.getElem?_range hj] at ha hb
    cases ha; cases hb
    refine ⟨rfl, ?_⟩
    by_cases e : j = i
    · exact .inl e
    · right
      have hC : sameC S.L (S.setL ((S.L.set i 10 s).setR i t)).L j := sameC_setR (sameC_set (sameC_refl _ j) e) e
      have := payB_same hC rfl
      simp only [this]
  · rw [List.getElem?_append_right (by rw [recsOf_len]; omega)] at ha hb
    rw [recsOf_len] at ha hb
    rw [ha] at hb
    cases hb
    exact ⟨rfl, .inr rfl⟩
section
variable {h g : PH} {R : AEnd → PH → Prop}
theorem RecsAt.key {v : Value} {l : List Rec} (hv : RecsAt h v l) {i : Nat} {a : Rec} (ha : l[i]? = some a) {K : Value → Prop} : (vIxS 2 v (.int .i64 i) fun t => vFA 0 t fun t => vLoad none t h K) ↔ K (.string a.1) := by
  obtain ⟨p, cap, rfl, hcap, hel⟩ := hv
  obtain ⟨b, off, c, e, fr, rfl, hb, hsz, hex⟩ := hel i a ha
  have hi : i < l.length := (List.getElem?_eq_some_iff.1 ha).1
  have hc : c[off + i * 2]? = some (.string a.1) := by
    have h1 : (c.extract (off + i * 2) (off + i * 2 + 2))[0]? = some (.string a.1) := by rw [hex]; rfl
    rw [Array.getElem?_extract, if_pos (by omega)] at h1
    simpa using h1
  rw [vIxS_p]
  constructor
  · rintro ⟨_, _, k⟩
    rw [vFA_p, Nat.add_zero, show off + (i : Int).toNat * 2 = off + i * 2 by omega, vLoad_1 hb hc] at k
    exact k
  · intro k
    refine ⟨by omega, by omega, ?_⟩
    rw [vFA_p, Nat.add_zero, show off + (i : Int).toNat * 2 = off + i * 2 by omega, vLoad_1 hb hc]
    exact k
theorem refLoop_ok {c1 : Nat} {a : Ask} {s0 s1 t x : Value} {e : Int} {L0 L1 : List Rec} {Kp : List PanicEntry → PH → Prop} {x0 xr : (Value × Value × Value × Value × Value) → PH → Prop} (A1 : AskIn g c1 a) (r0 : RecsAt g s0 L0) (r1 : RecsAt g s1 L1) (hl : L1.length = L0.length) (hz : L0.length ≤ 1000)
    (hsame : ∀ (j : Nat) (p q : Rec), L0[j]? = some p → L1[j]? = some q → p.1 = q.1 ∧ ((e = 0 ∧ (j : Int) = a.who) ∨ p = q)) (hX : x0 (ptr c1, .bool false, x, t, .int .i64 e) g) :
    lf (b5_12 Kp x0 xr) (ptr c1, x, s0, t, .int .i64 e, s1) (.bool false, .int .i64 0) g := by
  refine lf_intro (fun m s' g' => ∃ i : Nat, s' = (.bool false, .int .i64 i) ∧ m = L0.length - i ∧ i ≤ L0.length ∧ g' = g) L0.length ⟨0, rfl, rfl, by omega, rfl⟩ ?_
  rintro m s' g' ⟨i, rfl, rfl, hi, rfl⟩
  by_cases hil : i < L0.length
  · have key : ∀ (kn : (Value × Value × Value × Value × Value × Value) → (Value × Value) → PH → Prop) x0 xr, kn (ptr c1, x, s0, t, .int .i64 e, s1) (.bool false, .int .i64 ((i : Int) + 1)) g' → b5_12 Kp x0 xr (ptr c1, x, s0, t, .int .i64 e, s1) kn (.bool false, .int .i64 i) g' := by
      intro kn x0 xr hkn
      unfold b5_12
      have hlt : (i : Int) < (L0.length : Int) := by omega
      obtain ⟨p, hp⟩ : ∃ p, L0[i]? = some p := ⟨_, List.getElem?_eq_getElem hil⟩
      obtain ⟨q, hq⟩ : ∃ q, L1[i]? = some q := ⟨_, List.getElem?_eq_getElem (by omega)⟩
      obtain ⟨hk1, hor⟩ := hsame i p q hp hq
      simp only [r0.len]
      simp only [vBin_lss, hlt, decide_true, dIf_b]
      refine ⟨fun _ => ?_, fun e => absurd e (by simp)⟩
      have k0 : ∀ {K : Value → Prop}, (vIxS 2 s0 (.int .i64 i) fun t => vFA 0 t fun t => vLoad none t g' K) ↔ K (.string p.1) := fun {K} => r0.key hp
      have k1 : ∀ {K : Value → Prop}, (vIxS 2 s1 (.int .i64 i) fun t => vFA 0 t fun t => vLoad none t g' K) ↔ K (.string q.1) := fun {K} => r1.key hq
      have l0 : ∀ {K : Value → Prop}, (vIxS 2 s0 (.int .i64 i) fun t => vLoad (some 2) t g' K) ↔ K (.agg #[.string p.1, .string p.2]) := fun {K} => r0.ld hp
      have l1 : ∀ {K : Value → Prop}, (vIxS 2 s1 (.int .i64 i) fun t => vLoad (some 2) t g' K) ↔ K (.agg #[.string q.1, .string q.2]) := fun {K} => r1.ld hq
      obtain ⟨own, hown⟩ : ∃ own : Bool, own = (decide (e = 0) && decide ((i : Int) = a.who)) := ⟨_, rfl⟩
      have main : ∀ o : Bool, (o = true ∨ p = q) → vIxS 2 s0 (.int .i64 i) fun t66 =>
          vFA 0 t66 fun t67 => vLoad none t67 g' fun t68 => vIxS 2 s1 (.int .i64 i) fun t71 => vFA 0 t71 fun t72 => vLoad none t72 g' fun t73 =>
          vBin Tryz.prog .neq 9 t68 t73 fun t74 =>
          gq (boolOf t74) false (fun K_4 => K_4 (.bool o) g') (fun t76 h_5 => gq (boolOf t74) false (fun K_5 => vUn Tryz.prog .not t76 fun u_3 => K_5 u_3 h_5)
          (fun t77 h_6 => gq (boolOf t74) false (fun K_6 => K_6 t77 h_6)
          (fun t78 h_7 => gq (boolOf t78) true (fun K_7 => K_7 s0 h_7)
          (fun t79 h_8 => gq (boolOf t78) true (fun K_8 => K_8 (.int .i64 i) h_8)
          (fun t80 h_9 => gq (boolOf t78) true (fun K_9 => vIxS 2 t79 t80 fun u_4 => K_9 u_4 h_9)
          (fun t81 h_10 => gq (boolOf t78) true (fun K_10 => vLoad (some 2) t81 h_10 fun u_5 => K_10 u_5 h_10)
          (fun t82 h_11 => gq (boolOf t78) true (fun K_11 => K_11 s1 h_11)
          (fun t83 h_12 => gq (boolOf t78) true (fun K_12 => K_12 (.int .i64 i) h_12)
          (fun t84 h_13 => gq (boolOf t78) true (fun K_13 => vIxS 2 t83 t84 fun u_6 => K_13 u_6 h_13)
          (fun t85 h_14 => gq (boolOf t78) true (fun K_14 => vLoad (some 2) t85 h_14 fun u_7 => K_14 u_7 h_14)
          (fun t86 h_15 => gq (boolOf t78) true (fun K_15 => vBin Tryz.prog .neq 42 t82 t86 fun u_8 => K_15 u_8 h_15)
          (fun t87 h_16 => gq (boolOf t74) false (fun K_16 => vPick t78 t87 (.bool false) fun u_9 => K_16 u_9 h_16)
          (fun t88 h_17 => vPick t74 (.bool true) t88 fun t89 =>
          dIf t89 (xr (ptr c1, (.bool false), x, t, .int .i64 e) h_17)
          (vBin Tryz.prog .add 3 (.int .i64 i) (.int .i64 1) fun t55 =>
          kn (ptr c1, x, s0, t, .int .i64 e, s1) ((.bool false), t55) h_17)) h_16) h_15) h_14) h_13) h_12) h_11) h_10) h_9) h_8) h_7) h_6) h_5) g' := fun o ho => by
        rw [k0, k1, vBin_sneq, hk1]
        simp only [decide_true, Bool.not_true, boolOf_b, gq_b, true_implies, ne_eq, not_true_eq_false, false_implies, and_true, vUn_not]
        have hw : IntKind.i64.wrap ((i : Int) + 1) = (i : Int) + 1 := w64 (by omega) (by omega)
        cases o with
        | true => simp [hw]; exact hkn
        | false =>
          have hpq : p = q := by rcases ho with h | h
                                 · cases h
                                 · exact h
          simp only [Bool.not_false, boolOf_b, gq_b, true_implies, ne_eq, not_true_eq_false, false_implies, and_true]
          rw [l0, l1, rec_neq, hpq]
          simp [hw]; exact hkn
      rw [vBin_eql]
      by_cases he : e = 0
      · simp only [he, decide_true, boolOf_b, gq_b, true_implies, ne_eq, not_true_eq_false, false_implies, and_true, vFA_p, Nat.zero_add]
        rw [A1.w, vBin_eql]
        simp only [vPick_b, cond_true]
        have := main (decide ((i : Int) = a.who)) (by rcases hor with h | h
                                                      · left; simp [h.2]
                                                      · exact .inr h)
        simpa only [he, vFA_p, Nat.zero_add] using this
      · simp only [he, decide_false, boolOf_b, gq_b, Bool.false_eq_true, false_implies, true_and, ne_eq, not_false_eq_true, true_implies, vPick_b, cond_false]
        have := main false (by rcases hor with h | h
                               · exact absurd h.1 he
                               · exact .inr h)
        simpa only [vFA_p, Nat.zero_add] using this
    exact key _ _ _ ⟨rfl, L0.length - (i + 1), by omega, i + 1, rfl, rfl, by omega, rfl⟩
  · have e' : i = L0.length := by omega
    unfold b5_12
    have hge : ¬ (i : Int) < (L0.length : Int) := by omega
    simp only [r0.len]
    simp only [vBin_lss, hge, decide_false, dIf_b]
    exact ⟨fun e => absurd e (by simp), fun _ => hX⟩
end
end Go.Pw
/- A refused request changes nothing but its client's stamp and reply; the walk's end. -/
set_option linter.unusedSimpArgs false
set_option linter.unusedVariables false
namespace Go.Pw
open Go Go.Proofs

section
variable {h g : PH} {R : AEnd → PH → Prop}
theorem didH_same {S : Hs} {who : Nat} {op : ByteArray} (h : (didH S who op).e ≠ 0) : (didH S who op).S = S := by
  unfold didH at h ⊢
  split
  · rename_i h0; rw [if_pos h0] at h; exact actH_same h
  · rfl
theorem repB_first {e n : Int} (he : 0 ≤ e ∧ e ≤ 100) : (repB e n).data[0]? = some (UInt8.ofNat e.toNat) ∧ repB e n ≠ ⟨#[]⟩ := by
  have h1 : encN e.toNat = [UInt8.ofNat e.toNat] := encN_small (by omega)
  unfold repB
  rw [h1]
  refine ⟨rfl, fun h => ?_⟩
  have := (str_emp _).1 h
  have h2 : ((⟨([UInt8.ofNat e.toNat] ++ encN n.toNat).toArray⟩ : ByteArray)).size = 1 + (encN n.toNat).length := by
    show ([UInt8.ofNat e.toNat] ++ encN n.toNat).toArray.size = _
    simp; omega
  omega
set_option maxRecDepth 10000 in
theorem hrefused_ok {v : Value} {l : List Ask} {a : Ask} (hv : AsksAt h v l) (hl : ∀ x ∈ l, x.ok) (ha : a.ok) (hR : R (.ret (.bool true)) h) : ACalls Tryz.prog 5 #[v, a.v] h R := by
  refine ACalls.drop (call5 ?_)
  unfold sh5
  rw [show Value.cells a.v = a.a from rfl]
  refine vNew_gen fun c1 G2 hc1 hs k1 => ?_
  have A1 : AskIn G2 c1 a := ⟨k1⟩
  clear k1 hc1
  refine hbegun_ok (hv.sub hs) hl fun g x nm H hn => ?_
  have hr := runH_ok (l.take 60) (newHs_ok (c := 3) (g := 2) (by omega) (by omega) (by omega) (by omega))
  have hk := hr.1
  generalize runH (newHs 3 2) (l.take 60) = S at *
  have hg := sep_r Own.mono H
  have fin : ∀ {g5 : PH}, Sub G2 g5 → vCall Tryz.prog 16 #[] g5 (fun u h => ∃ g, Sub g h ∧ R (.ret u) g) (fun c h => ∃ g, Sub g h ∧ R (.pan c) g) := fun {g5} hs5 => hawake_ok (by
    show ∃ g, Sub g g5 ∧ _
    exact ⟨h, hs.trans hs5, hR⟩)
  have fin2 : ∀ {g5 : PH}, Sub G2 g5 → ACalls Tryz.prog 16 #[] g5 (fun e h' => e = .ret (.bool true) ∧ Sub G2 h') := fun {g5} hs5 => hawake_ok ⟨rfl, hs5⟩
  simp only [AEnd.elim]
  rw [vBin_pnil Tryz.underlying28, dIf_b]
  refine ⟨fun e => absurd e (by simp), fun _ => ?_⟩
  refine h_recordsC H hn hk fun g3 s3 H3 => ?_
  have hg3 : Sub G2 g3 := sep_r Own.mono (sep_r (mono_sep _ _) H3)
  simp only [AEnd.elim, vFA_p, Nat.zero_add]
  rw [(A1.sub hg3).w, (A1.sub hg3).s, (A1.sub hg3).all]
  refine text_ok2 ha ?_
  simp only [AEnd.elim]
  rw [(A1.sub hg3).w, (A1.sub hg3).s]
  refine ⟨rfl, rfl, ?_⟩
  refine h_doC H3 hn hk fun g4 nm4 H4 hn4 => ?_
  simp only [AEnd.elim, vExt_20, vExt_21]
  obtain ⟨k1, k2, k3⟩ := doH_ok hk a.who a.stamp a.text
  have hdo0 := fun he => doH_0 (S := S) (who := a.who) (stamp := a.stamp) (op := a.text) hk he
  have hdon := fun he => doH_no (S := S) (who := a.who) (stamp := a.stamp) (op := a.text) he
  generalize doH S a.who a.stamp a.text = dn at *
  obtain ⟨t, e, S1⟩ := dn
  simp only at H4 hn4 k1 k2 k3 hdo0 hdon ⊢
  refine h_recordsC H4 hn4 k1 fun g5 s5 H5 => ?_
  simp only [AEnd.elim]
  have r5 := recs_os (sep_l OS.mono (sep_r (mono_sep _ _) H5))
  have r3 := recs_os (sep_l OS.mono (sep_r (mono_sep _ _) (sep_r (mono_sep _ _) H5)))
  have hg5 : Sub G2 g5 := sep_r Own.mono (sep_r (mono_sep _ _) (sep_r (mono_sep _ _) H5))
  have HN := sep_l HsN.mono H5
  have hz := hsRecs_len S hk
  by_cases he : e = 0
  · obtain ⟨i, hw, hi, h1, h2, h3, h4, h5, h6, h7⟩ := hdo0 he
    obtain ⟨d1, d2, d3, d4, d5⟩ := didH_ok hk hi a.text
    obtain ⟨f1, f2⟩ := repB_first (e := (didH S i a.text).e) (n := (didH S i a.text).n) d4
    have hdS := didH_same (S := S) (who := i) (op := a.text)
    have hne : ¬ t = ⟨#[]⟩ := by rw [h4]; exact f2
    have hfirst : t.data[0]? = some (UInt8.ofNat (didH S i a.text).e.toNat) := by rw [h4]; exact f1
    have hc : (((UInt8.ofNat (didH S i a.text).e.toNat).toNat : Nat) : Int) = (didH S i a.text).e := by rw [u8_of (by omega)]; omega
    simp only [he, vBin_eql, decide_true, boolOf_b, gq_b, true_implies, ne_eq, not_true_eq_false, false_implies, and_true, vBin_sneq, hne, decide_false, Bool.not_false, vPick_b, cond_true]
    refine ⟨t, _, _, _, rfl, rfl, by omega, hfirst, ?_⟩
    refine (vBin_eql 5 .u8 _ 0).2 ?_
    rw [hc]
    by_cases hd0 : (didH S i a.text).e = 0
    · simp only [hd0, decide_true, dIf_b]
      exact ⟨fun _ => fin hg5, fun e => absurd e (by simp)⟩
    · simp only [hd0, decide_false, dIf_b]
      refine ⟨fun e => absurd e (by simp), fun _ => ?_⟩
      rw [hdS hd0] at h5
      have hm := hsRecs_mark (S := S) hi a.stamp (repB (didH S i a.text).e (didH S i a.text).n)
      rw [← h5] at hm
      simp only [r3.len, r5.len, hm.1]
      simp only [vBin_neq, decide_true, Bool.not_true, dIf_b]
      refine ⟨fun e => absurd e (by simp), fun _ => ?_⟩
      refine refLoop_ok (e := 0) (A1.sub hg5) r3 r5 hm.1 hz (fun j p q hp hq => ?_) ?_
      · obtain ⟨m1, m2⟩ := hm.2 j p q hp hq
        refine ⟨m1, ?_⟩
        rcases m2 with m2 | m2
        · left; refine ⟨rfl, ?_⟩; rw [hw, m2]
        · exact .inr m2
      · intro r hr
        simp only [Prod.mk.injEq] at hr
        obtain ⟨q3, q4, q5, q7, q8⟩ := hr
        simp only [q3, q5, q7, q8, vBin_neq, decide_true, Bool.not_true, dIf_b, vFA_p, Nat.zero_add]
        refine ⟨fun e => absurd e (by simp), fun _ => ?_⟩
        rw [(A1.sub hg5).w, hw]
        refine h_last HN (by omega) ?_
        simp only [AEnd.elim, vExt_20, vExt_21, vFA_p, Nat.zero_add]
        rw [(A1.sub hg5).s, h6, h7, h4]
        simp only [vBin_eql, vBin_seq, decide_true, boolOf_b, gq_b, true_implies, ne_eq, not_true_eq_false, false_implies, and_true, vPick_b, cond_true]
        refine hawake_ok ?_
        simp only [AEnd.elim, vPick_b, cond_true]
        exact ⟨h, hs.trans hg5, hR⟩
  · obtain ⟨hS, ht⟩ := hdon he
    subst hS
    subst ht
    simp only [vBin_eql, he, decide_false, boolOf_b, gq_b, Bool.false_eq_true, false_implies, true_and, ne_eq, not_false_eq_true, true_implies, vPick_b, cond_false, dIf_b]
    simp only [r3.len, r5.len]
    simp only [vBin_neq, decide_true, Bool.not_true, dIf_b]
    refine ⟨fun e => absurd e (by simp), fun _ => ?_⟩
    refine refLoop_ok (e := e) (A1.sub hg5) r3 r5 rfl hz (fun j p q hp hq => ?_) ?_
    · rw [hp] at hq; cases hq; exact ⟨rfl, .inr rfl⟩
    · intro r hr
      simp only [Prod.mk.injEq] at hr
      obtain ⟨q3, q4, q5, q7, q8⟩ := hr
      simp only [q3, q5, q7, q8, vBin_neq, he, decide_false, Bool.not_false, dIf_b, vBin_seq, decide_true]
      refine ⟨fun _ => ?_, fun e => absurd e (by simp)⟩
      simp only [boolOf_b, gq_b, true_implies, ne_eq, not_true_eq_false, false_implies, and_true]
      refine hawake_ok ?_
      simp only [AEnd.elim, vPick_b, cond_true]
      exact ⟨h, hs.trans hg5, hR⟩
end
end Go.Pw

/- core.New, and what a new replica tells. -/
import Derived.Test.YtgpcjdmiecnphaaGreatPyD
set_option linter.unusedSimpArgs false
set_option linter.unusedVariables false
set_option maxRecDepth 100000
namespace Go.Pw
open Go Go.Proofs Go.Px
def repA (f c g p id n : Int) (b l hh : Value) : Array Value := #[.int .i64 f, .int .i64 c, .int .i64 g, .int .i64 p, .int .i64 id, .int .i64 n, b, l, hh, .int .i64 0, .int .i64 0, .bool true, .int .i64 0, .int .i64 0, .int .i64 0, .int .i64 1, .string ⟨#[]⟩, .map none, .map none, .map none, .map none, .map none, .slice none 0 0, .int .i64 0, .string ⟨#[]⟩, .string ⟨#[]⟩, .int .i64 0, .string ⟨#[]⟩, .string ⟨#[]⟩, .slice none 0 0, .int .i64 0, .string ⟨#[]⟩, .string ⟨#[]⟩, .slice none 0 0, .slice none 0 0, .slice none 0 0]
def rep0 : Array Value := #[.int .i64 0, .int .i64 0, .int .i64 0, .int .i64 0, .int .i64 0, .int .i64 0, .pointer none, .pointer none, .pointer none, .int .i64 0, .int .i64 0, .bool false, .int .i64 0, .int .i64 0, .int .i64 0, .int .i64 0, .string ⟨#[]⟩, .map none, .map none, .map none, .map none, .map none, .slice none 0 0, .int .i64 0, .string ⟨#[]⟩, .string ⟨#[]⟩, .int .i64 0, .string ⟨#[]⟩, .string ⟨#[]⟩, .slice none 0 0, .int .i64 0, .string ⟨#[]⟩, .string ⟨#[]⟩, .slice none 0 0, .slice none 0 0, .slice none 0 0]
/-- What is laid at one place. -/
theorem fill_rep (f c g p id n : Int) (b l hh : Addr) : Instr.fill (fun i => [(0, 4), (4, 1), (5, 1), (6, 1), (7, 1), (8, 1), (9, 1), (10, 1), (11, 1), (12, 1), (13, 1), (14, 1), (15, 1), (16, 1), (17, 1), (18, 1), (19, 1), (20, 1), (21, 1), (22, 1), (23, 3), (26, 3), (29, 1), (30, 4), (34, 1), (35, 1)][i]?) rep0 [(0, cfg f c g p), (1, .int .i64 id), (2, .int .i64 n), (3, .pointer (some b)), (4, .pointer (some l)), (5, .pointer (some hh)), (8, .bool true), (12, .int .i64 1)] = some (repA f c g p id n (.pointer (some b)) (.pointer (some l)) (.pointer (some hh))) := by kernel_rfl
section
variable {C : PH → Prop} {h : PH} {R : AEnd → PH → Prop} {f c g p id : Int} {n : Nat}
def RepQ (r : Value) (l : Addr) (h : PH) : Prop := ∃ blk cs, r = .pointer (some ⟨blk, 0, none⟩) ∧ h blk = some (.cells cs 97 (0, 0)) ∧ cs[7]? = some (.pointer (some l)) ∧ cs[14]? = some (.int .i64 0) ∧ cs[34]? = some (.slice none 0 0)
theorem RepQ.mono (r : Value) (l : Addr) : Mono (RepQ r l) := fun _ _ hs ⟨blk, cs, a, b, c⟩ => ⟨blk, cs, a, hs _ _ b, c⟩
theorem l4 {t : Nat} {G : PH} {e : TypeId} (hG : G t = some (.cells (cfg f c g p).cells e (0, 0))) (K : Value → Prop) : vLoad (some 4) (.pointer (some ⟨t, 0, none⟩)) G K ↔ K (cfg f c g p) := by
  rw [vLoad_n hG (by show 0 + 4 ≤ 4; omega)]; exact Iff.rfl
theorem newrep_bad (hb : ¬ (fitsB f c g p = true ∧ 0 ≤ id ∧ id ≤ 3 * f)) {b : Value} (hR : R (.ret (.tuple #[.pointer none, .int .i64 1])) h) : ACalls Tryz.prog 7 #[cfg f c g p, .int .i64 id, b] h R := by
  refine ACalls.drop (call7 ?_)
  unfold sh7
  refine vNew_gen fun t G ht s1 hG => ?_
  rw [vFA_p, vLoad_1 hG (v := .int .i64 f) rfl, vBin_mul, vBin_add, l4 hG]
  refine fits_ok (f := f) (c := c) (g := g) (p := p) ?_
  have st : ∃ g, Sub g G ∧ R (.ret (.tuple #[.pointer none, .int .i64 1])) g := ⟨h, s1, hR⟩
  simp only [AEnd.elim]
  by_cases h0 : fitsB f c g p = true
  · obtain ⟨f1, f2, -⟩ := fitsB_iff.1 h0
    have w1 : IntKind.i64.wrap (3 * f) = 3 * f := w64 (by omega) (by omega)
    have w2 : IntKind.i64.wrap (3 * f + 1) = 3 * f + 1 := w64 (by omega) (by omega)
    by_cases h1 : id < 0
    · simp [h0, h1]; exact st
    · have h2 : 3 * f + 1 ≤ id := by
        have : ¬ id ≤ 3 * f := fun x => hb ⟨h0, by omega, x⟩
        omega
      simp [h0, h1, w1, w2, h2]; exact st
  · rw [Bool.not_eq_true] at h0
    simp [h0]; exact st
theorem newrep_nil (hf : fitsB f c g p = true) (h0 : 0 ≤ id) (h1 : id ≤ 3 * f) (hR : R (.ret (.tuple #[.pointer none, .int .i64 1])) h) : ACalls Tryz.prog 7 #[cfg f c g p, .int .i64 id, .pointer none] h R := by
  refine ACalls.drop (call7 ?_)
  unfold sh7
  refine vNew_gen fun t G ht s1 hG => ?_
  rw [vFA_p, vLoad_1 hG (v := .int .i64 f) rfl, vBin_mul, vBin_add, l4 hG]
  refine fits_ok (f := f) (c := c) (g := g) (p := p) ?_
  obtain ⟨f1, f2, -⟩ := fitsB_iff.1 hf
  have w1 : IntKind.i64.wrap (3 * f) = 3 * f := w64 (by omega) (by omega)
  have w2 : IntKind.i64.wrap (3 * f + 1) = 3 * f + 1 := w64 (by omega) (by omega)
  have n0 : ¬ id < 0 := by omega
  have n1 : ¬ 3 * f + 1 ≤ id := by omega
  simp only [AEnd.elim]
  simp [hf, w1, w2, n0, n1]
  refine digest_nil (C := fun g => Sub h g) s1 (fun _ _ a b => b.trans a) fun G2 s2 => ?_
  simp [AEnd.elim]
  exact ⟨h, s2, hR⟩
theorem get_set {cs : Array Value} {i j : Nat} {v : Value} {x : Option Value} (hij : i ≠ j) (h : cs[j]? = x) : (cs.setIfInBounds i v)[j]? = x := by
  rw [Array.getElem?_setIfInBounds_ne hij]; exact h
/-- The end of New: the replica is laid, its maps are made. -/
theorem rep_end {X : PH → Prop} {G4 : PH} {c0 : Array Value} {l : Addr} {K : Value → PH → Prop} (hX : X G4) (hsz : c0.size = 36) (e1 : c0[7]? = some (.pointer (some l))) (e2 : c0[14]? = some (.int .i64 0)) (e3 : c0[34]? = some (.slice none 0 0))
    (hk : ∀ r G cs, (pt r (.cells cs 97 (0, 0)) • X) G → cs[7]? = some (.pointer (some l)) → cs[14]? = some (.int .i64 0) → cs[34]? = some (.slice none 0 0) → K (.pointer (some ⟨r, 0, none⟩)) G) :
    vNew c0 97 G4 fun t55 h_14 => vMapNew h_14 fun t61 h_15 => vMapNew h_15 fun t62 h_16 => vMapNew h_16 fun t63 h_17 => vMapNew h_17 fun t64 h_18 => vMapNew h_18 fun t65 h_19 => vNil t55 fun t66 => vFA 17 t66 fun t67 => vStore 1 t67 t61 h_19 fun h_20 => vNil t55 fun t68 => vFA 18 t68 fun t69 => vStore 1 t69 t62 h_20 fun h_21 => vNil t55 fun t70 => vFA 19 t70 fun t71 => vStore 1 t71 t63 h_21 fun h_22 => vNil t55 fun t72 => vFA 20 t72 fun t73 => vStore 1 t73 t64 h_22 fun h_23 => vNil t55 fun t74 => vFA 21 t74 fun t75 => vStore 1 t75 t65 h_23 fun h_24 => K t55 h_24 := by
  refine vNew_i fun r hr => ?_
  have H5 := pt_new (o := .cells c0 97 (0, 0)) hr hX
  revert H5
  generalize ins G4 r (.cells c0 97 (0, 0)) = G5
  intro H5 m1 hm1 m2 hm2 m3 hm3 m4 hm4 m5 hm5
  have H6 := mono_sep _ _ _ _ (sub_ins (.map #[] 0) hm5) (mono_sep _ _ _ _ (sub_ins (.map #[] 0) hm4) (mono_sep _ _ _ _ (sub_ins (.map #[] 0) hm3) (mono_sep _ _ _ _ (sub_ins (.map #[] 0) hm2) (mono_sep _ _ _ _ (sub_ins (.map #[] 0) hm1) H5))))
  revert H6
  generalize ins (ins (ins (ins (ins G5 m1 (.map #[] 0)) m2 (.map #[] 0)) m3 (.map #[] 0)) m4 (.map #[] 0)) m5 (.map #[] 0) = G6
  intro H6
  simp only [vNil_p, vFA_p, Nat.zero_add]
  refine st1 H6 (by simp [hsz]) rfl fun G7 H7 => ?_
  refine st1 H7 (by simp [hsz]) rfl fun G8 H8 => ?_
  refine st1 H8 (by simp [hsz]) rfl fun G9 H9 => ?_
  refine st1 H9 (by simp [hsz]) rfl fun G10 H10 => ?_
  refine st1 H10 (by simp [hsz]) rfl fun G11 H11 => ?_
  exact hk r G11 _ H11 (get_set (by omega) (get_set (by omega) (get_set (by omega) (get_set (by omega) (get_set (by omega) e1))))) (get_set (by omega) (get_set (by omega) (get_set (by omega) (get_set (by omega) (get_set (by omega) e2))))) (get_set (by omega) (get_set (by omega) (get_set (by omega) (get_set (by omega) (get_set (by omega) e3)))))
theorem rep_facts (f c g p id n : Int) (b l hh : Addr) : (repA f c g p id n (.pointer (some b)) (.pointer (some l)) (.pointer (some hh))).size = 36 ∧ (repA f c g p id n (.pointer (some b)) (.pointer (some l)) (.pointer (some hh)))[7]? = some (.pointer (some l)) ∧ (repA f c g p id n (.pointer (some b)) (.pointer (some l)) (.pointer (some hh)))[14]? = some (.int .i64 0) ∧ (repA f c g p id n (.pointer (some b)) (.pointer (some l)) (.pointer (some hh)))[34]? = some (.slice none 0 0) :=
  ⟨by kernel_rfl, by kernel_rfl, by kernel_rfl, by kernel_rfl⟩
theorem newrep_ok {b : Addr} (hm : Mono C) (hf : fitsB f c g p = true) (h0 : 0 ≤ id) (h1 : id ≤ 3 * f) (H : (BookP (n + 1) (.pointer (some b)) • C) h) (hR : ∀ r l G, (RepQ r l • LogP (.pointer (some l)) • BookP n (.pointer (some b)) • C) G → R (.ret (.tuple #[r, .int .i64 0])) G) :
    ACalls Tryz.prog 7 #[cfg f c g p, .int .i64 id, .pointer (some b)] h R := by
  refine call7 ?_
  unfold sh7
  refine vNew_i fun t ht => ?_
  have H1 := pt_new (o := .cells (cfg f c g p).cells 23 (0, 0)) ht H
  revert H1
  generalize ins h t (.cells (cfg f c g p).cells 23 (0, 0)) = G1
  intro H1
  obtain ⟨f1, f2, c1, c2, g1, g2, -⟩ := fitsB_iff.1 hf
  have w1 : IntKind.i64.wrap (3 * f) = 3 * f := w64 (by omega) (by omega)
  have w2 : IntKind.i64.wrap (3 * f + 1) = 3 * f + 1 := w64 (by omega) (by omega)
  have n0 : ¬ id < 0 := by omega
  have n1 : ¬ 3 * f + 1 ≤ id := by omega
  rw [vFA_p, vLoad_1 (pt_get H1) (v := .int .i64 f) rfl, vBin_mul, vBin_add, l4 (pt_get H1)]
  refine fits_ok (f := f) (c := c) (g := g) (p := p) ?_
  simp only [AEnd.elim]
  simp [hf, w1, w2, n0, n1]
  rw [sep_lc] at H1
  refine digest_ok H1 fun s G2 hs H2 => ?_
  simp [AEnd.elim, hs]
  obtain ⟨fn, hfn⟩ : ∃ fn : Nat, 3 * f + 1 = fn := ⟨(3 * f + 1).toNat, by omega⟩
  rw [hfn]
  refine newlog_ok (by omega) H2 fun l G3 H3 => ?_
  simp only [AEnd.elim, vExt_20, vExt_21, vFA_p]
  have e1 : LogP (.pointer (some l)) • BookP n (.pointer (some b)) • pt t (.cells (cfg f c g p).cells 23 (0, 0)) • C = pt t (.cells (cfg f c g p).cells 23 (0, 0)) • LogP (.pointer (some l)) • BookP n (.pointer (some b)) • C := by ac_rfl
  rw [e1] at H3
  rw [vLoad_1 (pt_get H3) (v := .int .i64 c) rfl, vLoad_1 (pt_get H3) (v := .int .i64 g) rfl]
  refine newhouse_ok c1 c2 g1 g2 H3 (mono_sep _ _) fun hh e G4 H4 => ?_
  simp only [AEnd.elim, vExt_20, vExt_21]
  rw [l4 (pt_get H4)]
  refine ⟨_, fill_rep f c g p id fn b l hh, ?_⟩
  obtain ⟨z1, z2, z3, z4⟩ := rep_facts f c g p id fn b l hh
  refine rep_end H4 z1 z2 z3 z4 fun r G cs HG q1 q2 q3 => ?_
  refine hR _ l G ?_
  have e2 : ∀ A B D E F : PH → Prop, A • B • D • E • F = A • D • E • B • F := fun _ _ _ _ _ => by ac_rfl
  rw [e2] at HG
  exact sep_mono HG (fun q hq => ⟨r, cs, rfl, hq, q1, q2, q3⟩) fun q hq => sep_mono hq (fun _ x => x) fun q hq => sep_mono hq (fun _ x => x) fun q hq => sep_r hm hq
variable {l : Addr}
theorem made_ok {r : Value} (H : RepQ r l h) (hR : R (.ret (.bool true)) h) : ACalls Tryz.prog 43 #[r] h R := by
  obtain ⟨blk, cs, rfl, hg, e1, e2, e3⟩ := H
  refine call43 ?_
  unfold sh43
  rw [vBin_pneq Tryz.underlying26]
  simp only [boolOf_b, gq_b, vNil_p, vFA_p, Nat.zero_add, true_imp_iff, ne_eq, not_true, false_imp_iff, and_true]
  rw [vLoad_1 hg e1, vBin_pneq Tryz.underlying78]
  simpa using hR
theorem done_ok {r : Value} (H : RepQ r l h) (hR : R (.ret (.int .i64 0)) h) : ACalls Tryz.prog 10 #[r] h R := by
  refine call10 ?_
  unfold sh10
  refine made_ok H ?_
  obtain ⟨blk, cs, rfl, hg, e1, e2, e3⟩ := H
  simp only [AEnd.elim, vUn_not, Bool.not_true, dIf_b, Bool.false_eq_true, Bool.true_eq_false, reduceCtorEq, false_imp_iff, true_imp_iff, true_and, vNil_p, vFA_p, Nat.zero_add]
  rw [vLoad_1 hg e2]
  exact hR
theorem rlow_ok {r : Value} (hm : Mono C) (H : (LogP (.pointer (some l)) • C) h) (hq : RepQ r l h) (hR : ∀ g, C g → R (.ret (.int .i64 0)) g) : ACalls Tryz.prog 11 #[r] h R := by
  refine call11 ?_
  unfold sh11
  refine made_ok hq ?_
  obtain ⟨blk, cs, rfl, hg, e1, e2, e3⟩ := hq
  simp only [AEnd.elim, vUn_not, Bool.not_true, dIf_b, Bool.false_eq_true, Bool.true_eq_false, reduceCtorEq, false_imp_iff, true_imp_iff, true_and, vNil_p, vFA_p, Nat.zero_add]
  rw [vLoad_1 hg e1]
  exact low_ok H hm fun g hg => hR g hg
theorem rhist_ok {r : Value} (H : RepQ r l h) (hR : ∀ p k, R (.ret (.slice p 0 k)) h) : ACalls Tryz.prog 12 #[r] h R := by
  refine ACalls.drop (call12 ?_)
  unfold sh12
  refine made_ok H ?_
  obtain ⟨blk, cs, rfl, hg, e1, e2, e3⟩ := H
  simp only [AEnd.elim, vUn_not, Bool.not_true, dIf_b, Bool.false_eq_true, Bool.true_eq_false, reduceCtorEq, false_imp_iff, true_imp_iff, true_and, vNil_p, vFA_p, Nat.zero_add]
  refine ⟨by omega, #[], by kernel_rfl, fun b hb => ?_⟩
  simp only
  have hg2 : ins h b (.cells #[] 108) blk = some (.cells cs 97 (0, 0)) := by rw [ins_ne _ _ (ne_fresh hb hg)]; exact hg
  rw [vLoad_1 hg2 e3]
  refine ⟨by omega, by omega, rfl, .inr (.inl ⟨rfl, 0, rfl, .inr (.inl ⟨b, 0, 0, #[], rfl, ins_eq _ _ _, rfl, Nat.le_refl 0, by simp [roomBytes], (fun _ _ _ _ e => by cases e), fun b' cap' rest hb' hc he => ⟨h, fun x o hx => ?_, hR _ _⟩⟩)⟩)⟩
  have hxb : x ≠ b := ne_fresh hb hx
  have hxb' : x ≠ b' := by
    rcases hb' with rfl | hb'
    · exact hxb
    · exact ne_fresh (by rcases Nat.decEq b' b with hn | hn; · rw [ins_ne _ _ hn] at hb'; exact hb'
                         · subst hn; exact hb) hx
  rw [ins_ne _ _ hxb']
  unfold dropB
  have hnb : Nat.beq x b = false := by
    cases hq : Nat.beq x b
    · rfl
    · exact absurd (Nat.eq_of_beq_eq_true hq) hxb
  rw [hnb]
  show ins h b _ x = some o
  rw [ins_ne _ _ hxb]
  exact hx
end
end Go.Pw

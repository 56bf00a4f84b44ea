/- The law CoreNew. -/
import Derived.Test.YtgpcjdmiecnphaaGreatPyE
import Derived.Test.YtgpcjdmiecnphaaGreatPyG
set_option linter.unusedSimpArgs false
set_option linter.unusedVariables false
set_option maxRecDepth 100000
namespace Go.Pw
open Go Go.Proofs Go.Px
section
variable {C : PH → Prop} {h : PH} {R : AEnd → PH → Prop} {f c g p id : Int} {n : Nat}
theorem vBin_bne {P : Program} {K : Value → Prop} {t : TypeId} (hu : P.underlying t = some .bool) (a b : Bool) : vBin P .neq t (.bool a) (.bool b) K ↔ K (.bool (!(a == b))) :=
  vBin_ne (fun _ _ => pureRun_eqGuard (fun _ h => by cases h) (fun h => by cases h)) rfl (by
    show pureRun P (Op.equalIn (9999 + 1) t _ _) = _
    rw [Op.equalIn]
    exact pureRun_seq (pureRun_underlying hu) rfl)
theorem vBin_bne4 {K : Value → Prop} (a b : Bool) : vBin Tryz.prog .neq 4 (.bool a) (.bool b) K ↔ K (.bool (!(a == b))) := vBin_bne Tryz.underlying4 a b
theorem fits_in {t : Nat} {G : PH} {e : TypeId} (hG : G t = some (.cells (cfg f c g p).cells e (0, 0))) {K : Value → PH → Prop} (hk : K (.bool (fitsB f c g p)) G) :
    vFA 0 (.pointer (some ⟨t, 0, none⟩)) fun t24 => vLoad none t24 G fun t25 => vBin Tryz.prog .geq 3 t25 (.int .i64 1) fun t26 => gq (boolOf t26) true (fun K => vFA 0 (.pointer (some ⟨t, 0, none⟩)) fun u => K u G) (fun t28 h_4 => gq (boolOf t26) true (fun K_1 => vLoad none t28 h_4 fun u_1 => K_1 u_1 h_4) (fun t29 h_5 => gq (boolOf t26) true (fun K_2 => vBin Tryz.prog .leq 3 t29 (.int .i64 4) fun u_2 => K_2 u_2 h_5) (fun t30 h_6 => vPick t26 t30 (.bool false) fun t31 => gq (boolOf t31) true (fun K_3 => vFA 1 (.pointer (some ⟨t, 0, none⟩)) fun u_3 => K_3 u_3 h_6) (fun t33 h_7 => gq (boolOf t31) true (fun K_4 => vLoad none t33 h_7 fun u_4 => K_4 u_4 h_7) (fun t34 h_8 => gq (boolOf t31) true (fun K_5 => vBin Tryz.prog .geq 3 t34 (.int .i64 1) fun u_5 => K_5 u_5 h_8) (fun t35 h_9 => vPick t31 t35 (.bool false) fun t36 => gq (boolOf t36) true (fun K_6 => vFA 1 (.pointer (some ⟨t, 0, none⟩)) fun u_6 => K_6 u_6 h_9) (fun t38 h_10 => gq (boolOf t36) true (fun K_7 => vLoad none t38 h_10 fun u_7 => K_7 u_7 h_10) (fun t39 h_11 => gq (boolOf t36) true (fun K_8 => vBin Tryz.prog .leq 3 t39 (.int .i64 16) fun u_8 => K_8 u_8 h_11) (fun t40 h_12 => vPick t36 t40 (.bool false) fun t41 => gq (boolOf t41) true (fun K_9 => vFA 2 (.pointer (some ⟨t, 0, none⟩)) fun u_9 => K_9 u_9 h_12) (fun t43 h_13 => gq (boolOf t41) true (fun K_10 => vLoad none t43 h_13 fun u_10 => K_10 u_10 h_13) (fun t44 h_14 => gq (boolOf t41) true (fun K_11 => vBin Tryz.prog .geq 3 t44 (.int .i64 1) fun u_11 => K_11 u_11 h_14) (fun t45 h_15 => vPick t41 t45 (.bool false) fun t46 => gq (boolOf t46) true (fun K_12 => vFA 2 (.pointer (some ⟨t, 0, none⟩)) fun u_12 => K_12 u_12 h_15) (fun t48 h_16 => gq (boolOf t46) true (fun K_13 => vLoad none t48 h_16 fun u_13 => K_13 u_13 h_16) (fun t49 h_17 => gq (boolOf t46) true (fun K_14 => vBin Tryz.prog .leq 3 t49 (.int .i64 4) fun u_14 => K_14 u_14 h_17) (fun t50 h_18 => vPick t46 t50 (.bool false) fun t51 => gq (boolOf t51) true (fun K_15 => vFA 3 (.pointer (some ⟨t, 0, none⟩)) fun u_15 => K_15 u_15 h_18) (fun t53 h_19 => gq (boolOf t51) true (fun K_16 => vLoad none t53 h_19 fun u_16 => K_16 u_16 h_19) (fun t54 h_20 => gq (boolOf t51) true (fun K_17 => vBin Tryz.prog .geq 3 t54 (.int .i64 1) fun u_17 => K_17 u_17 h_20) (fun t55 h_21 => vPick t51 t55 (.bool false) fun t56 => gq (boolOf t56) true (fun K_18 => vFA 3 (.pointer (some ⟨t, 0, none⟩)) fun u_18 => K_18 u_18 h_21) (fun t58 h_22 => gq (boolOf t56) true (fun K_19 => vLoad none t58 h_22 fun u_19 => K_19 u_19 h_22) (fun t59 h_23 => gq (boolOf t56) true (fun K_20 => vBin Tryz.prog .leq 3 t59 (.int .i64 64) fun u_20 => K_20 u_20 h_23) (fun t60 h_24 => vPick t56 t60 (.bool false) fun t61 => K t61 h_24) h_23) h_22) h_21) h_20) h_19) h_18) h_17) h_16) h_15) h_14) h_13) h_12) h_11) h_10) h_9) h_8) h_7) h_6) h_5) h_4) G := by
  have l0 : ∀ K, vLoad none (.pointer (some ⟨t, 0, none⟩)) G K ↔ K (.int .i64 f) := fun K => vLoad_1 hG rfl
  have l1 : ∀ K, vLoad none (.pointer (some ⟨t, 1, none⟩)) G K ↔ K (.int .i64 c) := fun K => vLoad_1 hG rfl
  have l2 : ∀ K, vLoad none (.pointer (some ⟨t, 2, none⟩)) G K ↔ K (.int .i64 g) := fun K => vLoad_1 hG rfl
  have l3 : ∀ K, vLoad none (.pointer (some ⟨t, 3, none⟩)) G K ↔ K (.int .i64 p) := fun K => vLoad_1 hG rfl
  have fin : ∀ b, fitsB f c g p = b → K (.bool b) G := fun b e => e ▸ hk
  by_cases h1 : 1 ≤ f
  · by_cases h2 : f ≤ 4
    · by_cases h3 : 1 ≤ c
      · by_cases h4 : c ≤ 16
        · by_cases h5 : 1 ≤ g
          · by_cases h6 : g ≤ 4
            · by_cases h7 : 1 ≤ p
              · by_cases h8 : p ≤ 64
                · simp [l0, l1, l2, l3, h1, h2, h3, h4, h5, h6, h7, h8]; exact fin _ (by simp [fitsB, h1, h2, h3, h4, h5, h6, h7, h8])
                · simp [l0, l1, l2, l3, h1, h2, h3, h4, h5, h6, h7, h8]; exact fin _ (by simp [fitsB, h8])
              · simp [l0, l1, l2, l3, h1, h2, h3, h4, h5, h6, h7]; exact fin _ (by simp [fitsB, h7])
            · simp [l0, l1, l2, l3, h1, h2, h3, h4, h5, h6]; exact fin _ (by simp [fitsB, h6])
          · simp [l0, l1, l2, l3, h1, h2, h3, h4, h5]; exact fin _ (by simp [fitsB, h5])
        · simp [l0, l1, l2, l3, h1, h2, h3, h4]; exact fin _ (by simp [fitsB, h4])
      · simp [l0, l1, l2, l3, h1, h2, h3]; exact fin _ (by simp [fitsB, h3])
    · simp [l0, l1, l2, l3, h1, h2]; exact fin _ (by simp [fitsB, h2])
  · simp [l0, l1, l2, l3, h1]; exact fin _ (by simp [fitsB, h1])

/-! ### one that there is not -/
noncomputable def kS : KF := fun r _ => match r with
  | .ret .nilsl => true
  | _ => false
noncomputable def kT : KF := fun r _ => match r with
  | .ret (.tup [.int .i64 (.ofNat 0), .bool false]) => true
  | _ => false
theorem nilI {fn : FuncId} {vs : List CV} {xs : List Value} (hq : xF Tryz.prog lib ot gt 2000 20 fn vs h0 kZ = true) (hv : toVs [] vs = some xs) (hR : ∀ g, Sub h g → R (.ret (.int .i64 0)) g) : ACalls Tryz.prog fn xs.toArray h R :=
  ran hq hv (fun _ _ => rfl) h fun ns v x H' h' hs hx hk => by
    unfold kZ at hk
    split at hk
    · rename_i hu
      cases hu
      simp only [toV, Option.some.injEq] at hx
      subst hx
      exact hR _ hs
    · cases hk
theorem nilE {fn : FuncId} {vs : List CV} {xs : List Value} (hq : xF Tryz.prog lib ot gt 2000 20 fn vs h0 kE = true) (hv : toVs [] vs = some xs) (hR : ∀ g, Sub h g → R (.ret (.string ⟨#[]⟩)) g) : ACalls Tryz.prog fn xs.toArray h R :=
  ran hq hv (fun _ _ => rfl) h fun ns v x H' h' hs hx hk => by
    unfold kE at hk
    split at hk
    · rename_i hu
      cases hu
      simp only [toV, Option.some.injEq] at hx
      subst hx
      exact hR _ hs
    · cases hk
theorem nilS {fn : FuncId} {vs : List CV} {xs : List Value} (hq : xF Tryz.prog lib ot gt 2000 20 fn vs h0 kS = true) (hv : toVs [] vs = some xs) (hR : ∀ g, Sub h g → R (.ret (.slice none 0 0)) g) : ACalls Tryz.prog fn xs.toArray h R :=
  ran hq hv (fun _ _ => rfl) h fun ns v x H' h' hs hx hk => by
    unfold kS at hk
    split at hk
    · rename_i hu
      cases hu
      simp only [toV, Option.some.injEq] at hx
      subst hx
      exact hR _ hs
    · cases hk
theorem nilT {fn : FuncId} {vs : List CV} {xs : List Value} (hq : xF Tryz.prog lib ot gt 2000 20 fn vs h0 kT = true) (hv : toVs [] vs = some xs) (hR : ∀ g, Sub h g → R (.ret (.tuple #[.int .i64 0, .bool false])) g) : ACalls Tryz.prog fn xs.toArray h R :=
  ran hq hv (fun _ _ => rfl) h fun ns v x H' h' hs hx hk => by
    unfold kT at hk
    split at hk
    · rename_i hu
      cases hu
      obtain ⟨y, z, q1, q2, rfl⟩ := toV_tup2 hx
      simp only [toV, Option.some.injEq] at q1 q2
      subst q1 q2
      exact hR _ hs
    · cases hk
def natsOf (s : ByteArray) : List Nat := s.data.toList.map UInt8.toNat
theorem bytes_nats (s : ByteArray) : bytesN (natsOf s) = s := by
  cases s
  simp [bytesN, natsOf, List.map_map, Function.comp_def]
theorem runView : xF Tryz.prog lib ot gt 2000 20 13 [.nilp] h0 kT = true := by kernel_rfl
theorem runRec (l : List Nat) : xF Tryz.prog lib ot gt 2000 20 14 [.nilp, .str l] h0 kS = true := by kernel_rfl
theorem runTick : xF Tryz.prog lib ot gt 2000 20 15 [.nilp] h0 kS = true := by kernel_rfl
theorem runDone : xF Tryz.prog lib ot gt 2000 20 10 [.nilp] h0 kZ = true := by kernel_rfl
theorem runLow : xF Tryz.prog lib ot gt 2000 20 11 [.nilp] h0 kZ = true := by kernel_rfl
theorem runDrops : xF Tryz.prog lib ot gt 2000 20 16 [.nilp] h0 kZ = true := by kernel_rfl
theorem runHist : xF Tryz.prog lib ot gt 2000 20 12 [.nilp] h0 kS = true := by kernel_rfl
theorem runRecs : xF Tryz.prog lib ot gt 2000 20 17 [.nilp] h0 kS = true := by kernel_rfl
theorem runRoot : xF Tryz.prog lib ot gt 2000 20 18 [.nilp] h0 kE = true := by kernel_rfl

theorem cnew_ok {s : ByteArray} (hR : R (.ret (.bool true)) h) : ACalls Tryz.prog 3 #[cfg f c g p, .int .i64 id, .string s] h R := by
  refine ACalls.drop (call3 ?_)
  unfold sh3
  refine vNew_i fun t ht => ?_
  have H1 : (pt t (.cells (cfg f c g p).cells 23 (0, 0)) • (fun g => Sub h g)) (ins h t (.cells (cfg f c g p).cells 23 (0, 0))) := pt_new ht (Sub.refl h)
  revert H1
  generalize ins h t (.cells (cfg f c g p).cells 23 (0, 0)) = G1
  intro H1
  refine newbook_ok H1 fun b G2 H2 => ?_
  simp only [AEnd.elim]
  rw [sep_lc] at H2
  rw [l4 (pt_get H2)]
  by_cases hok : fitsB f c g p = true ∧ 0 ≤ id ∧ id ≤ 3 * f
  rotate_left
  · refine newrep_bad hok ?_
    simp only [AEnd.elim, vExt_20, vExt_21]
    refine fits_in (pt_get H2) ?_
    rw [l4 (pt_get H2)]
    refine fits_ok (f := f) (c := c) (g := g) (p := p) ?_
    have hp := pt_get H2
    have hs : Sub h G2 := sep_r (fun _ _ a b => Sub.trans b a) (sep_r (mono_sep _ _) H2)
    have l0 : ∀ K, vLoad none (.pointer (some ⟨t, 0, none⟩)) G2 K ↔ K (.int .i64 f) := fun K => vLoad_1 hp rfl
    have tl : ∀ K : Value → PH → Prop, (∀ g, Sub h g → K (.bool true) g) → vBin Tryz.prog .eql 26 (.pointer none) (.pointer none) fun t80 => gq (boolOf t80) true (fun K_28 => K_28 (.int .i64 1) G2) (fun t82 h_33 => gq (boolOf t80) true (fun K_29 => vBin Tryz.prog .eql 27 t82 (.int .i64 1) fun u_26 => K_29 u_26 h_33) (fun t83 h_34 => vPick t80 t83 (.bool false) fun t84 => gq (boolOf t84) true (fun K_30 => vCall Tryz.prog 9 #[] h_34 (fun u_27 h_35 => K_30 u_27 h_35) (fun c h => ∃ g, Sub g h ∧ R (.pan c) g)) (fun t86 h_36 => vPick t84 t86 (.bool false) fun t87 => K t87 h_36) h_34) h_33) G2 := fun K hK => by
      rw [vBin_nilp Tryz.underlying26]
      simp
      refine awake11_ok fun g hg => ?_
      simp [AEnd.elim]
      exact hK _ (hs.trans hg)
    have w1 : fitsB f c g p = true → IntKind.i64.wrap (3 * f) = 3 * f := fun e => by obtain ⟨f1, f2, -⟩ := fitsB_iff.1 e; exact w64 (by omega) (by omega)
    have kk : ∀ g, Sub h g → ∃ g', Sub g' g ∧ R (.ret (.bool true)) g' := fun g hg => ⟨h, hg, hR⟩
    by_cases h0 : fitsB f c g p = true
    · by_cases h1 : id < 0
      · simp [AEnd.elim, vBin_bne4, h0, h1]
        exact tl _ kk
      · have h2 : 3 * f < id := by
          have : ¬ id ≤ 3 * f := fun x => hok ⟨h0, by omega, x⟩
          omega
        simp [AEnd.elim, vBin_bne4, h0, h1, l0, w1 h0, h2]
        exact tl _ kk
    · rw [Bool.not_eq_true] at h0
      simp [AEnd.elim, vBin_bne4, h0]
      exact tl _ kk
  obtain ⟨hf, i0, i1⟩ := hok
  rw [sep_lc] at H2
  refine newrep_ok (mono_sep _ _) hf i0 i1 H2 fun r l G3 H3 => ?_
  simp only [AEnd.elim, vExt_20, vExt_21]
  have e1 : RepQ r l • LogP (.pointer (some l)) • BookP 39 (.pointer (some b)) • pt t (.cells (cfg f c g p).cells 23 (0, 0)) • (fun g => Sub h g) = pt t (.cells (cfg f c g p).cells 23 (0, 0)) • LogP (.pointer (some l)) • RepQ r l • BookP 39 (.pointer (some b)) • (fun g : PH => Sub h g) := by ac_rfl
  rw [e1] at H3
  have hp := pt_get H3
  refine fits_in hp ?_
  rw [l4 hp]
  refine fits_ok (f := f) (c := c) (g := g) (p := p) ?_
  obtain ⟨f1, f2, -⟩ := fitsB_iff.1 hf
  have w1 : IntKind.i64.wrap (3 * f) = 3 * f := w64 (by omega) (by omega)
  have l0 : ∀ K, vLoad none (.pointer (some ⟨t, 0, none⟩)) G3 K ↔ K (.int .i64 f) := fun K => vLoad_1 hp rfl
  have n0 : ¬ id < 0 := by omega
  have n1 : ¬ 3 * f < id := by omega
  have hrq : RepQ r l G3 := sep_l (RepQ.mono r l) (sep_r (mono_sep _ _) (sep_r (mono_sep _ _) H3))
  obtain ⟨blk, cs, er, q1, q2, q3, q4⟩ := hrq
  have hrq : RepQ r l G3 := ⟨blk, cs, er, q1, q2, q3, q4⟩
  simp [AEnd.elim, vBin_bne4, hf, n0, n1, l0, w1]
  rw [er, vBin_pnil Tryz.underlying26, ← er]
  simp
  refine done_ok hrq ?_
  simp [AEnd.elim]
  rw [sep_lc] at H3
  refine rlow_ok (mono_sep _ _) H3 hrq fun G4 H4 => ?_
  simp [AEnd.elim]
  have hrq4 : RepQ r l G4 := sep_l (RepQ.mono r l) (sep_r (mono_sep _ _) H4)
  refine rhist_ok hrq4 fun a k => ?_
  simp [AEnd.elim]
  rw [l4 (pt_get H4)]
  refine newrep_nil hf i0 i1 ?_
  simp [AEnd.elim]
  have s4 : Sub h G4 := sep_r (fun _ _ a b => Sub.trans b a) (sep_r (mono_sep _ _) (sep_r (mono_sep _ _) H4))
  refine nilT runView rfl fun G5 s5 => ?_
  simp [AEnd.elim]
  rw [vBin_nilp Tryz.underlying26]
  simp
  refine nilS (vs := [.nilp, .str (natsOf s)]) (xs := [.pointer none, .string s]) (runRec _) (by simp only [toVs, toV, bytes_nats]) fun G6 s6 => ?_
  simp [AEnd.elim]
  refine nilS runTick rfl fun G7 s7 => ?_
  simp [AEnd.elim]
  refine nilI runDone rfl fun G8 s8 => ?_
  simp [AEnd.elim]
  refine nilI runLow rfl fun G9 s9 => ?_
  simp [AEnd.elim]
  refine nilI runDrops rfl fun G10 s10 => ?_
  simp [AEnd.elim]
  refine nilS runHist rfl fun G11 s11 => ?_
  simp [AEnd.elim]
  refine nilS runRecs rfl fun G12 s12 => ?_
  simp [AEnd.elim]
  refine nilE runRoot rfl fun G13 s13 => ?_
  simp [AEnd.elim]
  refine awake11_ok fun G14 s14 => ?_
  simp [AEnd.elim]
  exact ⟨h, s4.trans (s5.trans (s6.trans (s7.trans (s8.trans (s9.trans (s10.trans (s11.trans (s12.trans (s13.trans s14))))))))), hR⟩
end
end Go.Pw

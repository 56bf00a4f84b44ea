/- Regions: the executor tells the truth. -/
import Derived.Test.YtgpcjdmiecnphaaGreatPxP
set_option linter.unusedSimpArgs false
set_option linter.unusedVariables false
namespace Go.Px
open Go Go.Pw
section
variable {P : Program} {ns : List Nm} {E : CE} {ρ : Env} {H : CH} {h : PH} {Kp : List PanicEntry → PH → Prop} {call : CALL} {lib : FuncId → List CV → Option CV}

theorem KOK.ext {k : KV} {K : Value → PH → Prop} {ns' : List Nm} (he : Ext ns ns') (hk : KOK P ns k K) : KOK P ns' k K := fun n v x H h a => hk n v x H h (he.trans a)
theorem PKOK.ext {kp : KP} {ns' : List Nm} (he : Ext ns ns') (hk : PKOK P ns kp Kp) : PKOK P ns' kp Kp := fun n v x H h a => hk n v x H h (he.trans a)
theorem oQ_ok (hE : RelE ns E ρ) (hH : RelH P ns H h) {k : KV} {kp : KP} {K : Value → PH → Prop} {o : Oper} (hq : (oQ (cQ P o)).1 call E H k kp = true) (hk : KOK P ns k K) : denQ P o ρ h (fun v => K v h) := by
  simp only [oQ] at hq
  cases hv : (cQ P o).1 E H with
  | none => rw [hv, ob_none] at hq; cases hq
  | some v =>
    rw [hv, ob_some] at hq
    obtain ⟨y, y1, y2⟩ := cQ_ok hE hH hv
    exact y2 _ (hk _ _ _ _ _ (Ext.refl ns) y1 hH hq)
theorem cOp_ok (hE : RelE ns E ρ) (hH : RelH P ns H h) (hlib : LibOK P lib) (hc : CallOK P call) {k : KV} {kp : KP} {K : Value → PH → Prop} {o : Oper} (hq : (cOp P lib o).1 call E H k kp = true) (hk : KOK P ns k K) (hkp : PKOK P ns kp Kp) : denOp P qx o ρ h K Kp := by
  unfold cOp at hq
  unfold denOp
  cases hcl : clsOf P qx o <;> rw [hcl] at hq <;> simp only at hq ⊢
  · exact oQ_ok hE hH hq hk
  · exact oQ_ok hE hH hq hk
  · exact cL_ok hE hH hlib hc hq hk hkp
  · exact cA_ok hE hH hq hk
theorem yield_ok (hE : RelE ns E ρ) {l : List Oper} {j : Nat} {y : Option Bool} (hq : (xYield l j).1 E = some y) : yieldedL l ρ j = y := by
  unfold xYield at hq
  unfold yieldedL
  split at hq
  · rename_i t ht
    rw [ht]
    simp only at hq ⊢
    split at hq
    · rename_i b hg
      cases hq
      have := hE t _ hg
      simp only [toV, Option.some.injEq] at this
      rw [← this]; rfl
    · rename_i hg
      cases hq
      have := hE t _ hg
      simp only [toV, Option.some.injEq] at this
      rw [← this]; rfl
    · cases hq
  · rename_i ht
    rw [ht]
    cases hq
    rfl
theorem yb_ok {y : Option Bool} {w : Bool} : yb y w = true ↔ y = some w := by
  unfold yb
  cases y with
  | none => simp
  | some b => simp
theorem kb_iff (j k : IntKind) : (kb j k = true) = (j = k) := by
  unfold kb
  split <;> rename_i h <;> simp_all
mutual
theorem eqCV_ok : ∀ {a b : CV}, eqCV a b = true → toV ns a = toV ns b
  | .bool a, b, hq | .int j a, b, hq | .str l, b, hq | .ptr _ _, b, hq | .nilp, b, hq | .sl _ _ _ _, b, hq | .nilsl, b, hq | .mp _, b, hq | .nilmp, b, hq | .nilif, b, hq => by
    cases b <;> simp [eqCV, kb_iff] at hq ⊢ <;> simp_all
  | .flt _ _, b, hq | .slk _ _ _ _, b, hq | .sle _ _ _ _, b, hq | .fn _ _ _, b, hq | .nilfn, b, hq | .und, b, hq => by cases b <;> simp [eqCV] at hq
  | .iface t v, b, hq => by
    cases b <;> simp [eqCV] at hq
    obtain ⟨rfl, h2⟩ := hq
    simp only [toV, eqCV_ok h2]
  | .agg l, b, hq => by
    cases b <;> simp [eqCV] at hq
    simp only [toV, eqCVs_ok hq]
  | .tup l, b, hq => by
    cases b <;> simp [eqCV] at hq
    simp only [toV, eqCVs_ok hq]
theorem eqCVs_ok : ∀ {a b : List CV}, eqCVs a b = true → toVs ns a = toVs ns b
  | [], b, hq => by cases b <;> simp [eqCVs] at hq ⊢
  | x :: l, b, hq => by
    cases b <;> simp [eqCVs] at hq
    simp only [toVs, eqCV_ok hq.1, eqCVs_ok hq.2]
end

/-! ### a region -/
theorem re1_ok (hE : RelE ns E ρ) (hH : RelH P ns H h) {o : Oper} (hq : xRe1 P o E H = true) : denQ P o ρ h (fun v => match o.dst with | some d => ρ d = v | none => True) := by
  unfold xRe1 at hq
  split at hq
  · rename_i hd
    split at hq
    · rename_i v hv
      obtain ⟨y, y1, y2⟩ := cQ_ok hE hH hv
      refine y2 _ ?_
      rw [hd]; trivial
    · cases hq
  · rename_i d hd
    split at hq
    · rename_i v u hv hu
      obtain ⟨y, y1, y2⟩ := cQ_ok hE hH hv
      refine y2 _ ?_
      rw [hd]
      have h1 := hE d u hu
      rw [← eqCV_ok hq, y1] at h1
      exact (Option.some.inj h1).symm
    · cases hq
theorem re_ok (hE : RelE ns E ρ) (hH : RelH P ns H h) {l : List Oper} {X : Prop} (hx : X) : ∀ {qs : List Nat}, xRe P l E H qs = true → reYs P l ρ h qs X
  | [], _ => hx
  | q :: qs, hq => by
    simp only [xRe] at hq
    simp only [reYs]
    cases ho : l[q]? with
    | none => rw [ho] at hq; exact re_ok hE hH hx hq
    | some o =>
      rw [ho] at hq
      simp only at hq ⊢
      cases hb : isB o with
      | true => rw [hb] at hq; exact re_ok hE hH hx hq
      | false =>
        rw [hb] at hq
        simp only [Bool.and_eq_true] at hq ⊢
        refine ⟨?_, re_ok hE hH hx hq.2⟩
        have h1 := hq.1
        cases hg : o.guard with
        | none => rw [hg] at h1; exact re1_ok hE hH h1
        | some jw =>
          obtain ⟨j, w⟩ := jw
          rw [hg] at h1
          simp only at h1 ⊢
          intro hy
          cases hyy : (xYield l j).1 E with
          | none => rw [hyy] at h1; cases h1
          | some y =>
            rw [hyy] at h1
            have := yield_ok hE hyy
            rw [hy] at this
            simp only at h1
            rw [yb_ok.2 this.symm] at h1
            exact re1_ok hE hH h1
theorem pre1_ok (hE : RelE ns E ρ) {o : Oper} (hq : xPre1 P o E = true) : denA P o ρ (fun _ => none) (fun _ _ => True) := by
  unfold xPre1 at hq
  split at hq
  · rename_i t len ps ho
    split at hq
    · rename_i r hr
      obtain ⟨n, zs, cs, b1, b2, b3, b4, b5, b6, b7⟩ := BS_ok hE hr
      unfold denA
      rw [ho]
      simp only [b1, b2, b3]
      exact ⟨b4, cs, b5, fun _ _ => trivial⟩
    · cases hq
  · cases hq
theorem pre_ok (hE : RelE ns E ρ) {l : List Oper} {X : Prop} (hx : X) : ∀ {qs : List Nat}, xPre P l E qs = true → preF P l ρ qs X
  | [], _ => hx
  | q :: qs, hq => by
    simp only [xPre] at hq
    simp only [preF]
    cases ho : l[q]? with
    | none => rw [ho] at hq; exact pre_ok hE hx hq
    | some o =>
      rw [ho] at hq
      simp only at hq ⊢
      cases hb : isB o with
      | false => rw [hb] at hq; exact pre_ok hE hx hq
      | true =>
        rw [hb] at hq
        simp only [Bool.and_eq_true] at hq ⊢
        refine ⟨?_, pre_ok hE hx hq.2⟩
        have h1 := hq.1
        cases hg : o.guard with
        | none => rw [hg] at h1; exact pre1_ok hE h1
        | some jw =>
          obtain ⟨j, w⟩ := jw
          rw [hg] at h1
          simp only at h1 ⊢
          intro hy
          cases hyy : (xYield l j).1 E with
          | none => rw [hyy] at h1; cases h1
          | some y =>
            rw [hyy] at h1
            have := yield_ok hE hyy
            rw [hy] at this
            simp only at h1
            rw [yb_ok.2 this.symm] at h1
            exact pre1_ok hE h1
/-- What follows where all is told. -/
def KNOK (P : Program) (ns : List Nm) (k : KN) (Q : Env → PH → Prop) : Prop := ∀ ns' E ρ H h, Ext ns ns' → RelE ns' E ρ → RelH P ns' H h → k E H = true → Q ρ h
theorem KNOK.ext {k : KN} {Q : Env → PH → Prop} {ns' : List Nm} (he : Ext ns ns') (hk : KNOK P ns k Q) : KNOK P ns' k Q := fun n E ρ H h a => hk n E ρ H h (he.trans a)
/-- What a region's rest tells. -/
def RFOK (P : Program) (call : CALL) (R : RF) (D : (Env → PH → Prop) → (List PanicEntry → PH → Prop) → Env → PH → Prop) : Prop :=
  ∀ {ns : List Nm} {E : CE} {ρ : Env} {H : CH} {h : PH} {k : KN} {kp : KP} {Q : Env → PH → Prop} {Kp : List PanicEntry → PH → Prop}, RelE ns E ρ → RelH P ns H h → R.1 call k kp E H = true → KNOK P ns k Q → PKOK P ns kp Kp → D Q Kp ρ h
theorem cReg_ok (hlib : LibOK P lib) (hc : CallOK P call) {l : List Oper} : ∀ {order : List (Nat × List Nat)}, RFOK P call (cReg P lib l order) (fun Q Kp ρ h => denC P qx l Q Kp order ρ h)
  | [], ns, E, ρ, H, h, k, kp, Q, Kp, hE, hH, hq, hk, hkp => hk ns E ρ H h (Ext.refl ns) hE hH hq
  | (i, qs) :: rest, ns, E, ρ, H, h, k, kp, Q, Kp, hE, hH, hq, hk, hkp => by
    have ih : RFOK P call (cReg P lib l rest) (fun Q Kp ρ h => denC P qx l Q Kp rest ρ h) := fun a b c d e => cReg_ok hlib hc (l := l) (order := rest) a b c d e
    simp only [cReg] at hq
    simp only [denC]
    cases ho : l[i]? with
    | none => rw [ho] at hq; cases hq
    | some o =>
      rw [ho] at hq
      simp only at hq ⊢
      -- the operation carried out
      have go : ∀ {k1 : KV}, (cOp P lib o).1 call E H k1 kp = true → (∀ v H', k1 v H' = true → xRe P l E H' qs = true ∧ (cReg P lib l rest).1 call k kp ((eUpd o.dst).1 v E) H' = true) →
          denOp P qx o ρ h (fun v h' => reYs P l ρ h' qs (denC P qx l Q Kp rest (upd ρ o.dst v) h')) Kp := fun {k1} h1 h2 => by
        refine cOp_ok hE hH hlib hc h1 (fun ns' v x H' h' he hv hH' hk1 => ?_) hkp
        obtain ⟨a, b⟩ := h2 v H' hk1
        have hE' := hE.ext he
        exact re_ok hE' hH' (ih (hE'.upd o.dst hv) hH' b (hk.ext he) (hkp.ext he)) a
      -- passed over
      have skip : xRe P l E H qs = true → (cReg P lib l rest).1 call k kp ((eUpd o.dst).1 .und E) H = true → reYs P l ρ h qs (denC P qx l Q Kp rest (upd ρ o.dst undef) h) := fun h1 h2 =>
        re_ok hE hH (ih (hE.upd o.dst (show toV ns .und = some undef from rfl)) hH h2 hk hkp) h1
      cases hg : o.guard with
      | none =>
        rw [hg] at hq
        cases qs with
        | nil =>
          simp only [rOne] at hq
          exact pre_ok hE (go hq fun v H' hh => ⟨rfl, hh⟩) rfl
        | cons q qs =>
          simp only [rQs] at hq
          split at hq
          · cases hq
          · rename_i hp
            refine pre_ok hE (go hq fun v H' hh => ?_) hp
            split at hh
            · rename_i hre; exact ⟨hre, hh⟩
            · cases hh
      | some jw =>
        obtain ⟨j, w⟩ := jw
        rw [hg] at hq
        cases qs with
        | nil =>
          simp only [rG] at hq
          split at hq
          · cases hq
          · rename_i y hy
            have hyy := yield_ok hE hy
            refine pre_ok hE ?_ rfl
            simp only
            rw [hyy]
            split at hq
            · rename_i hb
              simp only [rOne] at hq
              exact ⟨fun _ => go hq fun v H' hh => ⟨rfl, hh⟩, fun hne => absurd (yb_ok.1 hb) hne⟩
            · rename_i hb
              refine ⟨fun hy2 => ?_, fun _ => skip rfl hq⟩
              rw [yb_ok.2 hy2] at hb; cases hb
        | cons q qs =>
          simp only [rGq] at hq
          split at hq
          · cases hq
          · rename_i y hy
            have hyy := yield_ok hE hy
            simp only
            rw [hyy]
            split at hq
            · rename_i hb
              simp only [rQs] at hq
              split at hq
              · cases hq
              · rename_i hp
                refine pre_ok hE ⟨fun _ => go hq fun v H' hh => ?_, fun hne => absurd (yb_ok.1 hb) hne⟩ hp
                split at hh
                · rename_i hre; exact ⟨hre, hh⟩
                · cases hh
            · rename_i hb
              split at hq
              · rename_i hp hr
                refine pre_ok hE ⟨fun hy2 => ?_, fun _ => skip hr hq⟩ hp
                rw [yb_ok.2 hy2] at hb; cases hb
              · cases hq
end
end Go.Px

/- Two ledgers have the same records just if all that is told of them is the same. -/
import Derived.Test.YtbidgpchoamdfaaLgQ
set_option linter.unusedSimpArgs false
set_option linter.unusedVariables false
namespace Go.Pw
open Go Go.Proofs

theorem vBin_beq {P : Program} {K : Value → Prop} {t : TypeId} (hu : P.underlying t = some .bool) (a b : Bool) : vBin P .eql t (.bool a) (.bool b) K ↔ K (.bool (a == b)) :=
  vBin_eq (fun _ _ => pureRun_eqGuard (fun _ h => by cases h) (fun h => by cases h)) rfl (by
    show pureRun P (Op.equalIn (9999 + 1) t _ _) = _
    rw [Op.equalIn]
    exact pureRun_seq (pureRun_underlying hu) rfl)
theorem vSl_60 {K : Value → Prop} {b off len cap : Nat} (h60 : 60 < len) (hc : len ≤ cap) (hk : K (.slice (some ⟨b, off, none⟩) 60 cap)) : vSl 6 none (some (.int .i64 60)) (.slice (some ⟨b, off, none⟩) len cap) K := by
  refine ⟨_, _, _, rfl, .i64, 60, rfl, by omega, by omega, ?_⟩
  have e : ¬ cap = 0 := by omega
  simp only [intBetween, if_neg e, Nat.zero_mul, Nat.sub_zero, Option.map_some]
  exact hk

/-- What the law does with the scripts, cut down to 60 calls. -/
def sameTail (v1 v2 : Value) (h : PH) (R : AEnd → PH → Prop) : Prop :=
  vCall Try.prog 9 #[v1] h (fun t28 h_1 =>
  vCall Try.prog 9 #[v2] h_1 (fun t30 h_2 =>
  vBin Try.prog .eql 25 t28 (.pointer none) fun t32 =>
  gq (boolOf t32) false (fun K =>
  K t30 h_2)
  (fun t34 h_3 =>
  gq (boolOf t32) false (fun K_1 =>
  vBin Try.prog .eql 25 t34 (.pointer none) fun u =>
  K_1 u h_3)
  (fun t35 h_4 =>
  vPick t32 (.bool true) t35 fun t36 =>
  dIf t36 (R (.ret (.bool false)) h_4)
  (lf (b6_10 (fun c h => R (.pan c) h) (fun v h => exq (fun ρ => (ρ 5, ρ 6, ρ 7)) v (fun r h_5 =>
  vCall Try.prog 10 #[(r 5)] h_5 (fun t82 h_6 =>
  vCall Try.prog 10 #[(r 6)] h_6 (fun t84 h_7 =>
  vCall Try.prog 13 #[t82, t84] h_7 (fun t85 h_8 =>
  vBin Try.prog .eql 4 t85 (r 7) fun t87 =>
  gq (boolOf t87) true (fun K_2 =>
  vCall Try.prog 12 #[] h_8 (fun u_1 h_9 =>
  K_2 u_1 h_9)
  (fun c h => R (.pan c) h))
  (fun t89 h_10 =>
  vPick t87 t89 (.bool false) fun t90 =>
  R (.ret t90) h_10) h_8)
  (fun c h => R (.pan c) h))
  (fun c h => R (.pan c) h))
  (fun c h => R (.pan c) h)) h)) (t28, t30) ((.bool true), (.int .i64 0)) h_4)) h_3) h_2)
  (fun c h => R (.pan c) h))
  (fun c h => R (.pan c) h)

section
variable {h : PH} {R : AEnd → PH → Prop}
theorem accB_told {L M : Led} {i : Nat} : (accB L M i && (decide (L.f i 10 = M.f i 10) && decide (L.r i = M.r i))) = true ↔ told L M i := by
  unfold accB told
  simp only [Bool.and_eq_true, decide_eq_true_eq]
  constructor
  · rintro ⟨⟨a0, a1, ⟨a2, a3, a4, a5⟩, a6, a7, a8, a9⟩, h2, h3⟩
    refine ⟨fun j hj => ?_, h2, h3⟩
    match j, hj with
    | 0, _ => exact a0
    | 1, _ => exact a1
    | 2, _ => exact a2
    | 3, _ => exact a3
    | 4, _ => exact a4
    | 5, _ => exact a5
    | 6, _ => exact a6
    | 7, _ => exact a7
    | 8, _ => exact a8
    | 9, _ => exact a9
  · rintro ⟨h1, h2, h3⟩
    exact ⟨⟨h1 0 (by omega), h1 1 (by omega), ⟨h1 2 (by omega), h1 3 (by omega), h1 4 (by omega), h1 5 (by omega)⟩, h1 6 (by omega), h1 7 (by omega), h1 8 (by omega), h1 9 (by omega)⟩, h2, h3⟩

theorem same_round {L M : Led} {x b y c i : Nat} {same : Bool} (hL : LedAt h x b L) (hM : LedAt h y c M) (i1 : i < L.n) (i2 : i < M.n) (h3 : i < 3)
    (kn : (Value × Value) → (Value × Value) → PH → Prop) (Kp : List PanicEntry → PH → Prop) (x0 : (Value × Value × Value) → PH → Prop)
    (hk : ∀ g, Sub h g → kn (ptr x, ptr y) (.bool (same && (accB L M i && (decide (L.f i 10 = M.f i 10) && decide (L.r i = M.r i)))), .int .i64 ((i : Int) + 1)) g) :
    b6_10 Kp x0 (ptr x, ptr y) kn (.bool same, .int .i64 i) h := by
  unfold b6_10
  have h3' : (i : Int) < 3 := by omega
  simp only [vBin_lss, h3', decide_true, dIf_b]
  refine ⟨fun _ => ?_, fun e => absurd e (by simp)⟩
  refine acct_ok hL i1 ?_
  simp only [AEnd.elim, vExt_20, vExt_21]
  refine vNew_i fun p hp => ?_
  refine vStore_to (cs := acctCells L i) (ins_eq _ _ _) (by rfl) (by rfl) (by rfl) ?_
  rw [ins_ins]
  refine acct_ok (hM.sub (sub_ins _ hp)) i2 ?_
  simp only [AEnd.elim, vExt_20, vExt_21]
  refine vNew_i fun q hq => ?_
  obtain ⟨hq1, hqp⟩ := fresh_of hq
  refine vStore_to (cs := acctCells M i) (ins_eq _ _ _) (by rfl) (by rfl) (by rfl) ?_
  rw [ins_ins]
  have hcp : (ins (ins h p (.cells (acctCells L i) 43 (0, 0))) q (.cells (acctCells M i) 43 (0, 0))) p = some (.cells (acctCells L i) 43 (0, 0)) := by
    rw [ins_ne _ _ (fun e => hqp e.symm)]; exact ins_eq _ _ _
  have hcq : (ins (ins h p (.cells (acctCells L i) 43 (0, 0))) q (.cells (acctCells M i) 43 (0, 0))) q = some (.cells (acctCells M i) 43 (0, 0)) := ins_eq _ _ _
  have hsb : Sub h (ins (ins h p (.cells (acctCells L i) 43 (0, 0))) q (.cells (acctCells M i) 43 (0, 0))) := Sub.put (Sub.put (Sub.refl h) hp) hq1
  revert hcp hcq hsb
  generalize (ins (ins h p (.cells (acctCells L i) 43 (0, 0))) q (.cells (acctCells M i) 43 (0, 0))) = G
  intro hcp hcq hsb
  refine last_ok (hL.sub hsb) i1 ?_
  simp only [AEnd.elim, vExt_20, vExt_21]
  refine last_ok (hM.sub hsb) i2 ?_
  simp only [AEnd.elim, vExt_20, vExt_21]
  have lp : ∀ {K : Value → Prop}, vLoad (some 10) (.pointer (some ⟨p, 0, none⟩)) G K ↔ K (.agg (acctCells L i)) := fun {K} => by rw [vLoad_n hcp (by show 0 + 10 ≤ 10; omega)]; rfl
  have lq : ∀ {K : Value → Prop}, vLoad (some 10) (.pointer (some ⟨q, 0, none⟩)) G K ↔ K (.agg (acctCells M i)) := fun {K} => by rw [vLoad_n hcq (by show 0 + 10 ≤ 10; omega)]; rfl
  have n10 : ∀ {K : Value → Prop}, vBin Try.prog .eql 3 (.int .i64 (L.f i 10)) (.int .i64 (M.f i 10)) K ↔ K (.bool (decide (L.f i 10 = M.f i 10))) := fun {K} => vBin_eql _ _ _ _
  have nr : ∀ {K : Value → Prop}, vBin Try.prog .eql 9 (.string (L.r i)) (.string (M.r i)) K ↔ K (.bool (decide (L.r i = M.r i))) := fun {K} => vBin_seq _ _ _
  have na : ∀ {K : Value → Prop}, vBin Try.prog .eql 43 (.agg (acctCells L i)) (.agg (acctCells M i)) K ↔ K (.bool (accB L M i)) := fun {K} => acct_eql L M i
  have hw : IntKind.i64.wrap ((i : Int) + 1) = (i : Int) + 1 := w64 (by omega) (by omega)
  have hk' := hk G hsb
  clear hk
  revert n10 nr na hk'
  generalize decide (L.f i 10 = M.f i 10) = r2
  generalize decide (L.r i = M.r i) = r3
  generalize accB L M i = r1
  intro n10 nr na hk'
  cases same <;> cases r1 <;> cases r2 <;> cases r3 <;> simp [-vBin_eql, -vBin_seq, lp, lq, n10, nr, na, hw] <;> exact hk'

theorem sameTail_ok {v1 v2 : Value} {l1 l2 : List ActV} (hv1 : ActsAt h v1 l1) (hv2 : ActsAt h v2 l2) (hR : R (.ret (.bool true)) h) : sameTail v1 v2 h fun e h' => ∃ g, Sub g h' ∧ R e g := by
  unfold sameTail
  refine begun_ok hv1 fun g x b L hsub hL hinv hn hx hb hz hg2 => ?_
  simp only [AEnd.elim]
  refine begun_ok (hv2.sub hsub) fun g1 y c M hsub1 hM hinvM hnM hy hc hzM hgM => ?_
  have hL1 : LedAt g1 x b L := hL.sub hsub1
  have hsubs : Sub h g1 := hsub.trans hsub1
  simp [AEnd.elim, vBin_pnil Try.underlying25]
  refine lf_intro (fun m s' g' => ∃ (i : Nat) (same : Bool), s' = (.bool same, .int .i64 i) ∧ m = 3 - i ∧ i ≤ 3 ∧ (same = true ↔ ∀ j, j < i → told L M j) ∧ Sub g1 g') 3 ⟨0, true, rfl, rfl, by omega, ⟨fun _ j hj => absurd hj (by omega), fun _ => rfl⟩, Sub.refl _⟩ ?_
  rintro m s' g' ⟨i, same, rfl, rfl, hi, hsm, hsg⟩
  by_cases h3 : i < 3
  · refine same_round (hL1.sub hsg) (hM.sub hsg) (by omega) (by omega) h3 _ _ _ fun g2 hs2 => ?_
    refine ⟨rfl, 3 - (i + 1), by omega, i + 1, _, rfl, rfl, by omega, ?_, hsg.trans hs2⟩
    rw [Bool.and_eq_true, accB_told, hsm]
    constructor
    · rintro ⟨a1, a2⟩ j hj
      by_cases e : j = i
      · subst e; exact a2
      · exact a1 j (by omega)
    · intro a
      exact ⟨fun j hj => a j (by omega), a i (by omega)⟩
  · have e3 : i = 3 := by omega
    subst e3
    unfold b6_10
    simp
    intro r hr
    simp only [Prod.mk.injEq] at hr
    obtain ⟨r5, r6, r7⟩ := hr
    rw [r5, r6, r7]
    refine records_ok (hL1.sub hsg) hinv fun g4 s2 ob2 => ?_
    simp only [AEnd.elim]
    refine records_ok ((hM.sub hsg).sub ob2.sub) hinvM fun g5 s3 ob3 => ?_
    simp only [AEnd.elim]
    rw [hn] at ob2
    rw [hnM] at ob3
    have hall : (∀ i, i < 3 → payB L i = payB M i) ↔ same = true := by
      rw [hsm]
      exact ⟨fun a j hj => (pay_told hinv hinvM hz hzM hg2 hgM (by omega) (by omega)).1 (a j hj), fun a j hj => (pay_told hinv hinvM hz hzM hg2 hgM (by omega) (by omega)).2 (a j hj)⟩
    have hsub5 : Sub h g5 := ((hsubs.trans hsg).trans ob2.sub).trans ob3.sub
    refine same_ok (by omega) (by omega) (ob2.up ob3.sub) ob3 (fun a => ?_) (fun a => ?_)
    · have e := hall.1 a
      subst e
      simp [AEnd.elim, vBin_beq Try.underlying4]
      refine awake_ok ?_
      simp [AEnd.elim]
      exact ⟨h, hsub5, hR⟩
    · have e : same = false := by
        cases same
        · rfl
        · exact absurd (hall.2 rfl) a
      subst e
      simp [AEnd.elim, vBin_beq Try.underlying4]
      refine awake_ok ?_
      simp [AEnd.elim]
      exact ⟨h, hsub5, hR⟩

theorem acts_60 {v : Value} {l : List ActV} (hv : ActsAt h v l) (h60 : 60 < l.length) {K : Value → Prop} (hk : ∀ v', ActsAt h v' (l.take 60) → K v') : vSl 6 none (some (.int .i64 60)) v K := by
  obtain ⟨p, cap, rfl, hc, hel⟩ := hv
  obtain ⟨b, off, c, e, fr, rfl, _⟩ := hel 0 _ (List.getElem?_eq_getElem (by omega))
  refine vSl_60 h60 hc (hk _ ⟨some ⟨b, off, none⟩, cap, ?_, by rw [List.length_take]; omega, fun i a ha => ?_⟩)
  · rw [List.length_take, Nat.min_eq_left (by omega)]
  · rw [List.getElem?_take] at ha
    split at ha
    · exact hel i a ha
    · cases ha

theorem lsame_ok {v1 v2 : Value} {l1 l2 : List ActV} (hv1 : ActsAt h v1 l1) (hv2 : ActsAt h v2 l2) (hR : R (.ret (.bool true)) h) : ACalls Try.prog 6 #[v1, v2] h R := by
  refine ACalls.drop (call6 ?_)
  unfold sh6
  have len : ∀ {v : Value} {l : List ActV}, ActsAt h v l → ∀ {K : Value → Prop}, vLenS v K ↔ K (.int .i64 l.length) := fun {v l} hv {K} => by
    obtain ⟨p, cap, rfl, _⟩ := hv; exact vLenS_s _ _ _
  rw [len hv1]
  simp only [vBin_gtr, dIf_b, decide_eq_true_eq, decide_eq_false_iff_not, len hv2]
  refine ⟨fun a1 => ?_, fun a1 => ?_⟩
  · refine acts_60 hv1 (by omega) fun v1' hv1' => ?_
    refine ⟨fun a2 => ?_, fun a2 => ?_⟩
    · refine acts_60 hv2 (by omega) fun v2' hv2' => ?_
      exact sameTail_ok hv1' hv2' hR
    · exact sameTail_ok hv1' hv2 hR
  · refine ⟨fun a2 => ?_, fun a2 => ?_⟩
    · refine acts_60 hv2 (by omega) fun v2' hv2' => ?_
      exact sameTail_ok hv1 hv2' hR
    · exact sameTail_ok hv1 hv2 hR
end
end Go.Pw

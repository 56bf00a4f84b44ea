/- The law ClusterNew. -/
import Derived.Test.YtgpcjdmiecnphaaGreatPyI
import Derived.Test.YtgpcjdmiecnphaaGreatPyB
import Derived.Test.YtgpcjdmiecnphaaGreatPyF
set_option linter.unusedSimpArgs false
set_option linter.unusedVariables false
set_option maxRecDepth 100000
namespace Go.Pw
open Go Go.Proofs Go.Px
section
variable {C : PH → Prop} {h : PH} {R : AEnd → PH → Prop} {f c g p id : Int} {n : Nat}
noncomputable def kF : KF := fun r _ => match r with
  | .ret (.bool false) => true
  | _ => false
noncomputable def kA : KF := fun r _ => match r with
  | .ret _ => true
  | _ => false
noncomputable def kNil : KF := fun r _ => match r with
  | .ret .nilp => true
  | _ => false
noncomputable def kLi : KF := fun r _ => match r with
  | .ret (.tup [.nilsl, .int .i64 (.ofNat 0)]) => true
  | _ => false
theorem nilF {fn : FuncId} {vs : List CV} {xs : List Value} (hq : xF Tryz.prog lib ot gt 2000 20 fn vs h0 kF = true) (hv : toVs [] vs = some xs) (hR : ∀ g, Sub h g → R (.ret (.bool false)) g) : ACalls Tryz.prog fn xs.toArray h R :=
  ran hq hv (fun _ _ => rfl) h fun ns v x H' h' hs hx hk => by
    unfold kF at hk
    split at hk
    · rename_i hu
      cases hu
      simp only [toV, Option.some.injEq] at hx
      subst hx
      exact hR _ hs
    · cases hk
theorem nilA {fn : FuncId} {vs : List CV} {xs : List Value} (hq : xF Tryz.prog lib ot gt 2000 20 fn vs h0 kA = true) (hv : toVs [] vs = some xs) (hR : ∀ v g, Sub h g → R (.ret v) g) : ACalls Tryz.prog fn xs.toArray h R :=
  ran hq hv (fun _ _ => rfl) h fun ns v x H' h' hs hx hk => hR _ _ hs
theorem nilP {fn : FuncId} {vs : List CV} {xs : List Value} (hq : xF Tryz.prog lib ot gt 2000 20 fn vs h0 kNil = true) (hv : toVs [] vs = some xs) (hR : ∀ g, Sub h g → R (.ret (.pointer none)) g) : ACalls Tryz.prog fn xs.toArray h R :=
  ran hq hv (fun _ _ => rfl) h fun ns v x H' h' hs hx hk => by
    unfold kNil at hk
    split at hk
    · rename_i hu
      cases hu
      simp only [toV, Option.some.injEq] at hx
      subst hx
      exact hR _ hs
    · cases hk
theorem nilL {fn : FuncId} {vs : List CV} {xs : List Value} (hq : xF Tryz.prog lib ot gt 2000 20 fn vs h0 kLi = true) (hv : toVs [] vs = some xs) (hR : ∀ g, Sub h g → R (.ret (.tuple #[.slice none 0 0, .int .i64 0])) g) : ACalls Tryz.prog fn xs.toArray h R :=
  ran hq hv (fun _ _ => rfl) h fun ns v x H' h' hs hx hk => by
    unfold kLi at hk
    split at hk
    · rename_i hu
      cases hu
      obtain ⟨y, z, q1, q2, rfl⟩ := toV_tup2 hx
      simp only [toV, Option.some.injEq] at q1 q2
      subst q1 q2
      exact hR _ hs
    · cases hk
theorem cTick : xF Tryz.prog lib ot gt 2000 20 23 [.nilp] h0 kA = true := by kernel_rfl
theorem cRound : xF Tryz.prog lib ot gt 2000 20 24 [.nilp, .int .i64 (.ofNat 2)] h0 kA = true := by kernel_rfl
theorem cView : xF Tryz.prog lib ot gt 2000 20 25 [.nilp, .int .i64 (.ofNat 0)] h0 kT = true := by kernel_rfl
theorem cLights : xF Tryz.prog lib ot gt 2000 20 26 [.nilp] h0 kLi = true := by kernel_rfl
theorem cMade : xF Tryz.prog lib ot gt 2000 20 60 [.nilp] h0 kF = true := by kernel_rfl
theorem cBook : xF Tryz.prog lib ot gt 2000 20 28 [.nilp] h0 kNil = true := by kernel_rfl
theorem cHonest : xF Tryz.prog lib ot gt 2000 20 29 [.nilp, .int .i64 (.ofNat 0)] h0 kF = true := by kernel_rfl
theorem cHist : xF Tryz.prog lib ot gt 2000 20 30 [.nilp, .int .i64 (.ofNat 0)] h0 kS = true := by kernel_rfl
theorem cRecs : xF Tryz.prog lib ot gt 2000 20 31 [.nilp, .int .i64 (.ofNat 0)] h0 kS = true := by kernel_rfl
theorem cDrops : xF Tryz.prog lib ot gt 2000 20 32 [.nilp, .int .i64 (.ofNat 0)] h0 kZ = true := by kernel_rfl
theorem cAns : xF Tryz.prog lib ot gt 2000 20 33 [.nilp, .int .i64 (.ofNat 0)] h0 kS = true := by kernel_rfl
theorem cWaits : xF Tryz.prog lib ot gt 2000 20 34 [.nilp, .int .i64 (.ofNat 0)] h0 kF = true := by kernel_rfl
theorem cFlight : xF Tryz.prog lib ot gt 2000 20 35 [.nilp] h0 kZ = true := by kernel_rfl
theorem cTime : xF Tryz.prog lib ot gt 2000 20 36 [.nilp] h0 kZ = true := by kernel_rfl
theorem do_nil {o : Value} (hR : ∀ G, Sub h G → R (.ret (.bool false)) G) : ACalls Tryz.prog 27 #[.pointer none, o] h R := by
  refine call27 ?_
  unfold sh27
  refine vNew_gen fun t G ht s1 hG => ?_
  refine nilF cMade rfl fun G2 s2 => ?_
  simp only [AEnd.elim, vUn_not, Bool.not_false, dIf_b, true_imp_iff, Bool.true_eq_false, false_imp_iff, and_true]
  exact hR _ (s1.trans s2)

/-! ### the law's own reckoning -/
theorem bnd_pos : (0 : Int) < bnd f c g p 0 ↔ fitsB f c g p = true := by
  unfold bnd
  by_cases hf : fitsB f c g p = true
  · obtain ⟨f1, f2, -, -, -, -, p1, p2⟩ := fitsB_iff.1 hf
    rw [if_pos ⟨hf, by omega, by omega⟩]
    have : ∀ k : Nat, 40 ≤ sumB p 0 k := fun k => by
      induction k with
      | zero => simp [sumB]
      | succ k ih => have := pp_le p1 p2 (m16_le 0 k); simp only [sumB]; omega
    have := this (f.toNat + 3)
    exact ⟨fun _ => hf, fun _ => by omega⟩
  · rw [if_neg (fun x => hf x.1)]
    exact ⟨fun h => absurd h (by omega), fun h => absurd h hf⟩
/-- a is none of the first k -/
def newB (a : Int) (l : List Int) (k : Nat) : Bool := !decide (a ∈ l.take k)
theorem newB_succ {a b : Int} {l : List Int} {k : Nat} (h : l[k]? = some b) : newB a l (k + 1) = (newB a l k && !decide (a = b)) := by
  unfold newB
  rw [List.take_add_one, h]
  simp [Bool.not_or]
theorem step_b {P : Program} {t : TypeId} {K : Value → Prop} {a b : Int} : vBin P .neq t (.int .i64 a) (.int .i64 b) K ↔ K (.bool (!decide (a = b))) := vBin_neq _ _ _ _
theorem inner_new {lv q : Value} {l : List Int} {i k : Nat} {a b : Int} {B : Bool} {G : PH} {Kp : List PanicEntry → PH → Prop} {x2 : (Value × Value × Value × Value × Value) → PH → Prop} {kn : (Value × Value × Value × Value) → (Value × Value) → PH → Prop} {w : Value} (hl : IntsAt lv l h) (hs : Sub h G) (ha : l[i]? = some a) (hb : l[k]? = some b) (hk : k < i) (hi : (i : Int) < 9223372036854775807)
    (hK : kn (lv, q, w, .int .i64 i) (.bool (B && !decide (a = b)), .int .i64 ((k : Int) + 1)) G) :
    b5_7 Kp x2 (lv, q, w, .int .i64 i) kn (.bool B, .int .i64 k) G := by
  unfold b5_7
  rw [vBin_lss, dIf_b]
  refine ⟨fun _ => ?_, fun e => absurd (of_decide_eq_false e) (by omega)⟩
  have w1 : IntKind.i64.wrap ((k : Int) + 1) = (k : Int) + 1 := w64 (by omega) (by omega)
  cases B with
  | false =>
    simp [w1]
    simpa using hK
  | true =>
    simp only [boolOf_b, gq_b, true_imp_iff, ne_eq, not_true, false_imp_iff, and_true]
    rw [IntsAt.get hl hs ha, IntsAt.get hl hs hb]
    simp only [vBin_neq, vPick_b, cond_true, vBin_add, w1]
    simpa using hK
theorem inner_end {lv q : Value} {i : Nat} {B : Bool} {G : PH} {Kp : List PanicEntry → PH → Prop} {x2 : (Value × Value × Value × Value × Value) → PH → Prop} {kn : (Value × Value × Value × Value) → (Value × Value) → PH → Prop} {w : Value}
    (hK : x2 (lv, q, w, .bool B, .int .i64 i) G) : b5_7 Kp x2 (lv, q, w, .int .i64 i) kn (.bool B, .int .i64 i) G := by
  unfold b5_7
  rw [vBin_lss, dIf_b]
  exact ⟨fun e => absurd (of_decide_eq_true e) (by simp), fun _ => hK⟩
/-- What the law has reckoned behind i rounds. -/
def okB (f c g p : Int) (l : List Int) (i : Nat) : Bool := fitsB f c g p && decide ((l.length : Int) ≤ f) && goodB f l i
theorem outer {t : Nat} {lv q : Value} {l : List Int} {i : Nat} {G : PH} {Kp : List PanicEntry → PH → Prop} {x0 : (Value × Value × Value × Value) → PH → Prop} {kn : (Value × Value × Value) → (Value × Value) → PH → Prop} (hl : IntsAt lv l h) (hs : Sub h G) (ht : G t = some (cfO f c g p)) (hi : i < l.length) (hlen : (l.length : Int) ≤ 9223372036854775807)
    (hK : kn (lv, .pointer (some ⟨t, 0, none⟩), q) (.bool (okB f c g p l (i + 1)), .int .i64 ((i : Int) + 1)) G) :
    b5_3 Kp x0 (lv, .pointer (some ⟨t, 0, none⟩), q) kn (.bool (okB f c g p l i), .int .i64 i) G := by
  obtain ⟨pa, cap, elv⟩ := hl.len
  have lenK : ∀ K, vLenS lv K ↔ K (.int .i64 l.length) := fun K => by rw [elv]; exact vLenS_s _ _ _
  obtain ⟨a, ha⟩ : ∃ a, l[i]? = some a := ⟨l[i], List.getElem?_eq_getElem hi⟩
  have l0 : ∀ K, vLoad none (.pointer (some ⟨t, 0, none⟩)) G K ↔ K (.int .i64 f) := fun K => vLoad_1 ht rfl
  unfold b5_3
  simp only
  rw [lenK, vBin_lss, dIf_b]
  refine ⟨fun _ => ?_, fun e => absurd (of_decide_eq_false e) (by omega)⟩
  have e1 : okB f c g p l (i + 1) = (okB f c g p l i && decide (0 ≤ a) && decide (a ≤ 3 * f) && newB a l i) := by
    simp only [okB, goodB, ha, newB, Bool.and_assoc]
  -- the inner loop, from a truth B on
  have inn : ∀ B : Bool, (B && newB a l i) = okB f c g p l (i + 1) →
      lf (b5_7 Kp (fun v h => exq (fun ρ => (ρ 1, ρ 3, ρ 5, ρ 7, ρ 8)) v (fun r h_14 => vBin Tryz.prog .add 3 (r 8) (.int .i64 1) fun t32 => kn ((r 1), (r 3), (r 5)) ((r 7), t32) h_14) h)) (lv, .pointer (some ⟨t, 0, none⟩), q, .int .i64 i) (.bool B, .int .i64 0) G := fun B hB => by
    refine lf_intro (fun m s G' => G = G' ∧ ∃ k : Nat, m = i - k ∧ k ≤ i ∧ s = (.bool (B && newB a l k), .int .i64 k)) i ⟨rfl, 0, rfl, by omega, by simp [newB]⟩ ?_
    rintro m s G' ⟨rfl, k, em, hk, rfl⟩
    by_cases hin : k < i
    · obtain ⟨b, hb⟩ : ∃ b, l[k]? = some b := ⟨l[k], List.getElem?_eq_getElem (by omega)⟩
      refine inner_new hl hs ha hb hin (by omega) ⟨rfl, i - (k + 1), by omega, rfl, k + 1, rfl, by omega, ?_⟩
      rw [newB_succ hb, Bool.and_assoc]; rfl
    · have ek : k = i := by omega
      subst ek
      refine inner_end ?_
      intro r hr
      simp only [Prod.mk.injEq] at hr
      obtain ⟨r1, r3, r5, r7, r8⟩ := hr
      rw [r1, r3, r5, r7, r8, hB, vBin_add, w64 (by omega) (by omega)]
      exact hK
  by_cases hok : okB f c g p l i = true
  rotate_left
  · rw [Bool.not_eq_true] at hok
    simp only [hok, boolOf_b, gq_b, Bool.false_eq_true, false_imp_iff, true_and, ne_eq, not_false_iff, true_imp_iff, vPick_b, cond_false]
    exact inn false (by rw [e1, hok]; rfl)
  have hf : fitsB f c g p = true := by
    simp only [okB, Bool.and_eq_true] at hok; exact hok.1.1
  obtain ⟨f1, f2, -⟩ := fitsB_iff.1 hf
  have w1 : IntKind.i64.wrap (3 * f) = 3 * f := w64 (by omega) (by omega)
  simp only [hok, boolOf_b, gq_b, true_imp_iff, ne_eq, not_true, false_imp_iff, and_true]
  rw [IntsAt.get hl hs ha]
  by_cases h1 : 0 ≤ a
  rotate_left
  · simp only [h1, vBin_geq, decide_false, vPick_b, cond_true, boolOf_b, gq_b, Bool.false_eq_true, false_imp_iff, true_and, ne_eq, not_false_iff, true_imp_iff, cond_false]
    exact inn false (by rw [e1]; simp [h1])
  simp only [h1, vBin_geq, decide_true, vPick_b, cond_true, boolOf_b, gq_b, true_imp_iff, ne_eq, not_true, false_imp_iff, and_true]
  rw [IntsAt.get hl hs ha]
  simp only [vFA_p, Nat.zero_add, l0, vBin_mul, w1, vBin_leq, vPick_b, cond_true]
  exact inn (decide (a ≤ 3 * f)) (by rw [e1, hok]; simp [h1])
theorem IntsAt.mono {lv : Value} {l : List Int} {G : PH} (H : IntsAt lv l h) (hs : Sub h G) : IntsAt lv l G := by
  rcases H with H | ⟨b, off, cap, c, e, fr, a, hb, r⟩
  · exact .inl H
  · exact .inr ⟨b, off, cap, c, e, fr, a, hs _ _ hb, r⟩
theorem outer_loop {t : Nat} {lv q : Value} {l : List Int} {G : PH} {Kp : List PanicEntry → PH → Prop} {x0 : (Value × Value × Value × Value) → PH → Prop} (hl : IntsAt lv l h) (hs : Sub h G) (ht : G t = some (cfO f c g p)) (hlen : (l.length : Int) ≤ 9223372036854775807)
    (hX : x0 (lv, .pointer (some ⟨t, 0, none⟩), q, .bool (okB f c g p l l.length)) G) : lf (b5_3 Kp x0) (lv, .pointer (some ⟨t, 0, none⟩), q) (.bool (okB f c g p l 0), .int .i64 0) G := by
  refine lf_intro (fun m s G' => G = G' ∧ ∃ i : Nat, m = l.length - i ∧ i ≤ l.length ∧ s = (.bool (okB f c g p l i), .int .i64 i)) l.length ⟨rfl, 0, rfl, by omega, rfl⟩ ?_
  rintro m s G' ⟨rfl, i, em, hi, rfl⟩
  by_cases hin : i < l.length
  · exact outer hl hs ht hin hlen ⟨rfl, l.length - (i + 1), by omega, rfl, i + 1, rfl, by omega, rfl⟩
  · have ei : i = l.length := by omega
    subst ei
    obtain ⟨pa, cap, elv⟩ := hl.len
    have lenK : ∀ K, vLenS lv K ↔ K (.int .i64 l.length) := fun K => by rw [elv]; exact vLenS_s _ _ _
    unfold b5_3
    simp only
    rw [lenK, vBin_lss, dIf_b]
    exact ⟨fun e => absurd (of_decide_eq_true e) (by simp), fun _ => hX⟩
theorem front {t : Nat} {lv : Value} {l : List Int} {G : PH} {K : Value → PH → Prop} (hl : IntsAt lv l h) (ht : G t = some (cfO f c g p)) (hK : K (.bool (okB f c g p l 0)) G) :
    gq (boolOf (.bool (fitsB f c g p))) true (fun K => K lv G) (fun t21 h_4 => gq (boolOf (.bool (fitsB f c g p))) true (fun K_1 => vLenS t21 fun u => K_1 u h_4) (fun t22 h_5 => gq (boolOf (.bool (fitsB f c g p))) true (fun K_2 => vFA 0 (.pointer (some ⟨t, 0, none⟩)) fun u_1 => K_2 u_1 h_5) (fun t23 h_6 => gq (boolOf (.bool (fitsB f c g p))) true (fun K_3 => vLoad none t23 h_6 fun u_2 => K_3 u_2 h_6) (fun t24 h_7 => gq (boolOf (.bool (fitsB f c g p))) true (fun K_4 => vBin Tryz.prog .leq 3 t22 t24 fun u_3 => K_4 u_3 h_7) (fun t25 h_8 => vPick (.bool (fitsB f c g p)) t25 (.bool false) fun t26 => K t26 h_8) h_7) h_6) h_5) h_4) G := by
  obtain ⟨pa, cap, elv⟩ := hl.len
  have lenK : ∀ K, vLenS lv K ↔ K (.int .i64 l.length) := fun K => by rw [elv]; exact vLenS_s _ _ _
  have l0 : ∀ K, vLoad none (.pointer (some ⟨t, 0, none⟩)) G K ↔ K (.int .i64 f) := fun K => vLoad_1 ht rfl
  cases hf : fitsB f c g p with
  | false =>
    simp
    simpa [okB, hf] using hK
  | true =>
    simp [lenK, l0]
    simpa [okB, hf, goodB] using hK
theorem nil_tail {u : Nat} {os : Array Value} {e : TypeId} {G2 : PH} (hu : G2 u = some (.cells (Value.agg os).cells e (0, 0))) (ho : os.size = 14) (hR : ∀ G, Sub G2 G → ∃ q, Sub q G ∧ R (.ret (.bool true)) q) :
    vCall Tryz.prog 23 #[(.pointer none)] G2 (fun t93 h_21 => vCall Tryz.prog 24 #[(.pointer none), (.int .i64 2)] h_21 (fun t95 h_22 => vCall Tryz.prog 25 #[(.pointer none), (.int .i64 0)] h_22 (fun t98 h_23 => vExt t98 0 fun t99 => vExt t98 1 fun t100 => vCall Tryz.prog 26 #[(.pointer none)] h_23 (fun t103 h_24 => vExt t103 0 fun t104 => vExt t103 1 fun t105 => vLoad (some 14) (.pointer (some ⟨u, 0, none⟩)) h_24 fun t107 => vCall Tryz.prog 27 #[(.pointer none), t107] h_24 (fun t108 h_25 => vUn Tryz.prog .not t108 fun t109 => gq (boolOf t109) true (fun K_15 => K_15 (.pointer none) h_25) (fun t111 h_26 => gq (boolOf t109) true (fun K_16 => vCall Tryz.prog 28 #[t111] h_26 (fun u_9 h_27 => K_16 u_9 h_27) (fun c h => ∃ q, Sub q h ∧ R (.pan c) q)) (fun t112 h_28 => gq (boolOf t109) true (fun K_17 => vBin Tryz.prog .eql 24 t112 (.pointer none) fun u_10 => K_17 u_10 h_28) (fun t113 h_29 => vPick t109 t113 (.bool false) fun t114 => gq (boolOf t114) true (fun K_18 => K_18 (.pointer none) h_29) (fun t116 h_30 => gq (boolOf t114) true (fun K_19 => vCall Tryz.prog 29 #[t116, (.int .i64 0)] h_30 (fun u_11 h_31 => K_19 u_11 h_31) (fun c h => ∃ q, Sub q h ∧ R (.pan c) q)) (fun t117 h_32 => gq (boolOf t114) true (fun K_20 => vUn Tryz.prog .not t117 fun u_12 => K_20 u_12 h_32) (fun t118 h_33 => vPick t114 t118 (.bool false) fun t119 => gq (boolOf t119) true (fun K_21 => K_21 (.pointer none) h_33) (fun t121 h_34 => gq (boolOf t119) true (fun K_22 => vCall Tryz.prog 30 #[t121, (.int .i64 0)] h_34 (fun u_13 h_35 => K_22 u_13 h_35) (fun c h => ∃ q, Sub q h ∧ R (.pan c) q)) (fun t122 h_36 => gq (boolOf t119) true (fun K_23 => vLenS t122 fun u_14 => K_23 u_14 h_36) (fun t123 h_37 => gq (boolOf t119) true (fun K_24 => vBin Tryz.prog .eql 3 t123 (.int .i64 0) fun u_15 => K_24 u_15 h_37) (fun t124 h_38 => vPick t119 t124 (.bool false) fun t125 => gq (boolOf t125) true (fun K_25 => K_25 (.pointer none) h_38) (fun t127 h_39 => gq (boolOf t125) true (fun K_26 => vCall Tryz.prog 31 #[t127, (.int .i64 0)] h_39 (fun u_16 h_40 => K_26 u_16 h_40) (fun c h => ∃ q, Sub q h ∧ R (.pan c) q)) (fun t128 h_41 => gq (boolOf t125) true (fun K_27 => vLenS t128 fun u_17 => K_27 u_17 h_41) (fun t129 h_42 => gq (boolOf t125) true (fun K_28 => vBin Tryz.prog .eql 3 t129 (.int .i64 0) fun u_18 => K_28 u_18 h_42) (fun t130 h_43 => vPick t125 t130 (.bool false) fun t131 => gq (boolOf t131) true (fun K_29 => K_29 t99 h_43) (fun t133 h_44 => gq (boolOf t131) true (fun K_30 => vBin Tryz.prog .eql 3 t133 (.int .i64 0) fun u_19 => K_30 u_19 h_44) (fun t134 h_45 => vPick t131 t134 (.bool false) fun t135 => gq (boolOf t135) true (fun K_31 => K_31 t100 h_45) (fun t137 h_46 => gq (boolOf t135) true (fun K_32 => vUn Tryz.prog .not t137 fun u_20 => K_32 u_20 h_46) (fun t138 h_47 => vPick t135 t138 (.bool false) fun t139 => gq (boolOf t139) true (fun K_33 => K_33 (.pointer none) h_47) (fun t141 h_48 => gq (boolOf t139) true (fun K_34 => vCall Tryz.prog 32 #[t141, (.int .i64 0)] h_48 (fun u_21 h_49 => K_34 u_21 h_49) (fun c h => ∃ q, Sub q h ∧ R (.pan c) q)) (fun t142 h_50 => gq (boolOf t139) true (fun K_35 => vBin Tryz.prog .eql 3 t142 (.int .i64 0) fun u_22 => K_35 u_22 h_50) (fun t143 h_51 => vPick t139 t143 (.bool false) fun t144 => gq (boolOf t144) true (fun K_36 => K_36 (.pointer none) h_51) (fun t146 h_52 => gq (boolOf t144) true (fun K_37 => vCall Tryz.prog 33 #[t146, (.int .i64 0)] h_52 (fun u_23 h_53 => K_37 u_23 h_53) (fun c h => ∃ q, Sub q h ∧ R (.pan c) q)) (fun t147 h_54 => gq (boolOf t144) true (fun K_38 => vLenS t147 fun u_24 => K_38 u_24 h_54) (fun t148 h_55 => gq (boolOf t144) true (fun K_39 => vBin Tryz.prog .eql 3 t148 (.int .i64 0) fun u_25 => K_39 u_25 h_55) (fun t149 h_56 => vPick t144 t149 (.bool false) fun t150 => gq (boolOf t150) true (fun K_40 => K_40 (.pointer none) h_56) (fun t152 h_57 => gq (boolOf t150) true (fun K_41 => vCall Tryz.prog 34 #[t152, (.int .i64 0)] h_57 (fun u_26 h_58 => K_41 u_26 h_58) (fun c h => ∃ q, Sub q h ∧ R (.pan c) q)) (fun t153 h_59 => gq (boolOf t150) true (fun K_42 => vUn Tryz.prog .not t153 fun u_27 => K_42 u_27 h_59) (fun t154 h_60 => vPick t150 t154 (.bool false) fun t155 => gq (boolOf t155) true (fun K_43 => K_43 t104 h_60) (fun t157 h_61 => gq (boolOf t155) true (fun K_44 => vLenS t157 fun u_28 => K_44 u_28 h_61) (fun t158 h_62 => gq (boolOf t155) true (fun K_45 => vBin Tryz.prog .eql 3 t158 (.int .i64 0) fun u_29 => K_45 u_29 h_62) (fun t159 h_63 => vPick t155 t159 (.bool false) fun t160 => gq (boolOf t160) true (fun K_46 => K_46 t105 h_63) (fun t162 h_64 => gq (boolOf t160) true (fun K_47 => vBin Tryz.prog .eql 3 t162 (.int .i64 0) fun u_30 => K_47 u_30 h_64) (fun t163 h_65 => vPick t160 t163 (.bool false) fun t164 => gq (boolOf t164) true (fun K_48 => K_48 (.pointer none) h_65) (fun t166 h_66 => gq (boolOf t164) true (fun K_49 => vCall Tryz.prog 35 #[t166] h_66 (fun u_31 h_67 => K_49 u_31 h_67) (fun c h => ∃ q, Sub q h ∧ R (.pan c) q)) (fun t167 h_68 => gq (boolOf t164) true (fun K_50 => vBin Tryz.prog .eql 3 t167 (.int .i64 0) fun u_32 => K_50 u_32 h_68) (fun t168 h_69 => vPick t164 t168 (.bool false) fun t169 => gq (boolOf t169) true (fun K_51 => K_51 (.pointer none) h_69) (fun t171 h_70 => gq (boolOf t169) true (fun K_52 => vCall Tryz.prog 36 #[t171] h_70 (fun u_33 h_71 => K_52 u_33 h_71) (fun c h => ∃ q, Sub q h ∧ R (.pan c) q)) (fun t172 h_72 => gq (boolOf t169) true (fun K_53 => vBin Tryz.prog .eql 3 t172 (.int .i64 0) fun u_34 => K_53 u_34 h_72) (fun t173 h_73 => vPick t169 t173 (.bool false) fun t174 => gq (boolOf t174) true (fun K_54 => vCall Tryz.prog 21 #[] h_73 (fun u_35 h_74 => K_54 u_35 h_74) (fun c h => ∃ q, Sub q h ∧ R (.pan c) q)) (fun t176 h_75 => vPick t174 t176 (.bool false) fun t177 => ∃ q, Sub q h_75 ∧ R (.ret t177) q) h_73) h_72) h_70) h_69) h_68) h_66) h_65) h_64) h_63) h_62) h_61) h_60) h_59) h_57) h_56) h_55) h_54) h_52) h_51) h_50) h_48) h_47) h_46) h_45) h_44) h_43) h_42) h_41) h_39) h_38) h_37) h_36) h_34) h_33) h_32) h_30) h_29) h_28) h_26) h_25) (fun c h => ∃ q, Sub q h ∧ R (.pan c) q)) (fun c h => ∃ q, Sub q h ∧ R (.pan c) q)) (fun c h => ∃ q, Sub q h ∧ R (.pan c) q)) (fun c h => ∃ q, Sub q h ∧ R (.pan c) q)) (fun c h => ∃ q, Sub q h ∧ R (.pan c) q) := by
  refine nilA cTick rfl fun _ G3 s3 => ?_
  simp only [AEnd.elim]
  refine nilA cRound rfl fun _ G4 s4 => ?_
  simp only [AEnd.elim]
  refine nilT cView rfl fun G5 s5 => ?_
  simp only [AEnd.elim, vExt_20, vExt_21]
  refine nilL cLights rfl fun G6 s6 => ?_
  simp only [AEnd.elim, vExt_20, vExt_21]
  have s26 : Sub G2 G6 := s3.trans (s4.trans (s5.trans s6))
  rw [vLoad_n (s26 _ _ hu) (by show 0 + 14 ≤ os.size; omega)]
  refine do_nil fun G7 s7 => ?_
  simp [AEnd.elim]
  refine nilP cBook rfl fun G8 s8 => ?_
  simp [AEnd.elim]
  rw [vBin_nilp Tryz.underlying24]
  simp
  refine nilF cHonest rfl fun G9 s9 => ?_
  simp [AEnd.elim]
  refine nilS cHist rfl fun G10 s10 => ?_
  simp [AEnd.elim]
  refine nilS cRecs rfl fun G11 s11 => ?_
  simp [AEnd.elim]
  refine nilI cDrops rfl fun G12 s12 => ?_
  simp [AEnd.elim]
  refine nilS cAns rfl fun G13 s13 => ?_
  simp [AEnd.elim]
  refine nilF cWaits rfl fun G14 s14 => ?_
  simp [AEnd.elim]
  refine nilI cFlight rfl fun G15 s15 => ?_
  simp [AEnd.elim]
  refine nilI cTime rfl fun G16 s16 => ?_
  simp [AEnd.elim]
  refine awake13_ok fun G17 s17 => ?_
  simp [AEnd.elim]
  exact hR _ (s26.trans (s7.trans (s8.trans (s9.trans (s10.trans (s11.trans (s12.trans (s13.trans (s14.trans (s15.trans (s16.trans s17)))))))))))
theorem clnew_ok {lv : Value} {l : List Int} {os : Array Value} (hl : IntsAt lv l h) (hlen : (l.length : Int) ≤ 9223372036854775807) (ho : os.size = 14) (hR : R (.ret (.bool true)) h) : ACalls Tryz.prog 5 #[cfg f c g p, lv, .agg os] h R := by
  refine ACalls.drop (call5 ?_)
  unfold sh5
  refine vNew_gen fun t G0 ht0 s0 hG0 => vNew_gen fun u G ht s1 hu => ?_
  have ht1 : G t = some (cfO f c g p) := s1 _ _ hG0
  have hs : Sub h G := s0.trans s1
  obtain ⟨pa, cap, elv⟩ := hl.len
  have lenK : ∀ K, vLenS lv K ↔ K (.int .i64 l.length) := fun K => by rw [elv]; exact vLenS_s _ _ _
  have l0 : ∀ K, vLoad none (.pointer (some ⟨t, 0, none⟩)) G K ↔ K (.int .i64 f) := fun K => vLoad_1 ht1 rfl
  rw [l4 ht1]
  refine rbound_ok (f := f) (c := c) (g := g) (p := p) ?_
  simp only [AEnd.elim, vBin_gtr]
  have e0 : decide ((0 : Int) < bnd f c g p 0) = fitsB f c g p := by
    cases hf : fitsB f c g p with
    | true => exact decide_eq_true (bnd_pos.2 hf)
    | false => exact decide_eq_false (fun x => by rw [bnd_pos.1 x] at hf; cases hf)
  rw [e0]
  refine front hl ht1 ?_
  refine outer_loop hl hs ht1 hlen ?_
  intro r hr
  simp only [Prod.mk.injEq] at hr
  obtain ⟨r1, r3, r5, r7⟩ := hr
  simp only [r1, r3, r5, r7]
  rw [l4 ht1]
  have ha : okB f c g p l l.length = true ↔ (fitsB f c g p = true ∧ (l.length : Int) ≤ f ∧ goodB f l l.length = true) := by
    simp only [okB, Bool.and_eq_true, decide_eq_true_eq, and_assoc]
  have fin : ∀ G2, Sub G G2 → ∀ G, Sub G2 G → ∃ q, Sub q G ∧ R (.ret (.bool true)) q := fun G2 a G3 b => ⟨h, hs.trans (a.trans b), hR⟩
  refine newcl_ok (hl.mono hs) (fun hx a G2 s2 => ?_) fun hx G2 s2 => ?_
  · have ok1 := ha.2 hx
    simp [AEnd.elim, ok1, vBin_bne4]
    rw [vBin_pneq Tryz.underlying52]
    simp [vBin_bne4]
    exact nil_tail (s2 _ _ hu) ho (fin G2 s2)
  · have ok1 : okB f c g p l l.length = false := by
      cases hq : okB f c g p l l.length with
      | true => exact absurd (ha.1 hq) hx
      | false => rfl
    simp [AEnd.elim, ok1, vBin_bne4]
    rw [vBin_nilneq Tryz.underlying52]
    simp [vBin_bne4]
    exact nil_tail (s2 _ _ hu) ho (fin G2 s2)
end
end Go.Pw

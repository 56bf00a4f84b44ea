/- All that leaves memory as it is: the executor tells the truth. -/
import Derived.Test.YtgpcjdmiecnphaaGreatPxI
set_option linter.unusedSimpArgs false
set_option linter.unusedVariables false
namespace Go.Px
open Go Go.Pw
section
variable {P : Program} {ns : List Nm} {E : CE} {ρ : Env} {H : CH} {h : PH}

theorem build_ok (hE : RelE ns E ρ) {place : Nat → Option (Nat × Nat)} {z : List CV} {zs : Array Value} {ps : Array (Nat × Operand)} {v : CV} (hz : toVs ns z = some zs.toList) (hq : (hBuild place z ps.toList).1 E H = some v) : ∃ cs, Instr.fill place zs (partsOf ρ ps) = some cs ∧ toV ns v = some (.agg cs) := by
  simp only [hBuild] at hq
  cases hp : (nBx ps.toList).1 E with
  | none => rw [hp] at hq; cases hq
  | some vs =>
    rw [hp] at hq
    simp only at hq
    cases hf : xFill place z vs with
    | none => rw [hf] at hq; cases hq
    | some r =>
      rw [hf] at hq
      cases hq
      obtain ⟨q1, q2⟩ := xPs_ok hE hp
      obtain ⟨y, y1, y2⟩ := xFill_ok (x := zs) (qs := partsOf ρ ps) hz (by simp [partsOf, q1]) (fun j i v hj => q2 j i v hj) hf
      exact ⟨y, y1, by rw [mk_agg y2]⟩
theorem zs_ok {e : TypeId} {z : List CV} (hz : zsOf P e = some z) : ∃ zs, zeroOf P e = some zs ∧ toVs ns z = some zs.toList := by
  unfold zsOf at hz
  cases h0 : zeroOf P e with
  | none => rw [h0] at hz; cases hz
  | some zs => rw [h0] at hz; exact ⟨zs, rfl, ofVs_ok hz⟩
theorem cQ_ok (hE : RelE ns E ρ) (hH : RelH P ns H h) {o : Oper} {v : CV} (hq : (cQ P o).1 E H = some v) : Does ns v (denQ P o ρ h) := by
  obtain ⟨dst, op, type, pos, after, guard⟩ := o
  cases op <;> simp only [cQ] at hq
  case move x => exact ⟨_, o_ok hE hq, fun K hk => hk⟩
  case assign x => exact ⟨_, o_ok hE hq, fun K hk => hk⟩
  case pick c a b =>
    simp only [hPick] at hq
    cases hc : (oBx c).1 E with
    | none => rw [hc] at hq; cases hq
    | some u =>
      rw [hc] at hq
      simp only at hq
      cases hb : asB u with
      | none => rw [hb] at hq; cases hq
      | some t =>
        rw [hb] at hq
        have hv := o_ok hE hc
        rw [asB_ok hb] at hv
        have hv := toV_bool hv
        cases t with
        | true => exact ⟨_, o_ok hE hq, fun K hk => ⟨true, hv, hk⟩⟩
        | false => exact ⟨_, o_ok hE hq, fun K hk => ⟨false, hv, hk⟩⟩
  case binOp op t x y yt =>
    obtain ⟨a, b, ha, hb, hf⟩ := h2_ok hE hq
    obtain ⟨y, y1, y2⟩ := cBin_ok ha hb hf
    exact ⟨y, y1, y2⟩
  case unOp op t x =>
    obtain ⟨a, ha, hf⟩ := h1_ok hE hq
    exact un_ok ha hf
  case extract x i =>
    obtain ⟨a, ha, hf⟩ := h1_ok hE hq
    exact ext_ok ha hf
  case field t x i =>
    split at hq
    · rename_i fs hu
      split at hq
      · rename_i f hf
        split at hq
        · rename_i sz hs
          obtain ⟨a, ha, hfa⟩ := h1_ok hE hq
          obtain ⟨y, y1, y2⟩ := fld_ok ha hfa
          exact ⟨y, y1, fun K hk => by simp only [denQ, hu, hf, hs]; exact y2 K hk⟩
        · exact (hN_no hq).elim
      · exact (hN_no hq).elim
    · exact (hN_no hq).elim
  case fieldAddr t x i =>
    split at hq
    · rename_i fs hu
      split at hq
      · rename_i f hf
        split at hq
        · rename_i n hs
          obtain ⟨a, ha, hfa⟩ := h1_ok hE hq
          obtain ⟨y, y1, y2⟩ := fa_ok ha hfa
          exact ⟨y, y1, fun K hk => by simp only [denQ, hu, hf, hs]; exact y2 K hk⟩
        · exact (hN_no hq).elim
      · exact (hN_no hq).elim
    · exact (hN_no hq).elim
  case indexAddr t x ix =>
    split at hq
    · rename_i len e hu
      split at hq
      · rename_i n hs
        obtain ⟨a, b, ha, hb, hf⟩ := h2_ok hE hq
        obtain ⟨y, y1, y2⟩ := ixA_ok ha hb hf
        exact ⟨y, y1, fun K hk => by simp only [denQ, hu, hs]; exact y2 K hk⟩
      · exact (hN_no hq).elim
    · rename_i e hu
      split at hq
      · rename_i n hs
        obtain ⟨a, b, ha, hb, hf⟩ := h2_ok hE hq
        obtain ⟨y, y1, y2⟩ := ixS_ok ha hb hf
        exact ⟨y, y1, fun K hk => by simp only [denQ, hu, hs]; exact y2 K hk⟩
      · exact (hN_no hq).elim
    · exact (hN_no hq).elim
  case index t x ix =>
    split at hq
    · rename_i hu
      obtain ⟨a, b, ha, hb, hf⟩ := h2_ok hE hq
      obtain ⟨y, y1, y2⟩ := ixStr_ok ha hb hf
      exact ⟨y, y1, fun K hk => by simp only [denQ, hu]; exact y2 K hk⟩
    · rename_i len e hu
      split at hq
      · rename_i n sz hs hz
        obtain ⟨a, b, ha, hb, hf⟩ := h2_ok hE hq
        obtain ⟨y, y1, y2⟩ := ixAg_ok ha hb hf
        exact ⟨y, y1, fun K hk => by simp only [denQ, hu, hs, hz]; exact y2 K hk⟩
      · exact (hN_no hq).elim
    · exact (hN_no hq).elim
  case nilCheck x =>
    obtain ⟨a, ha, hf⟩ := h1_ok hE hq
    exact nil_ok ha hf
  case slice t x lo hi mx =>
    cases mx with
    | some mx => exact (hN_no hq).elim
    | none =>
      simp only at hq
      split at hq
      · rename_i hu
        obtain ⟨a, ha, hf⟩ := sl_ok hE hq
        obtain ⟨y, y1, y2⟩ := slStr_ok hE ha hf
        exact ⟨y, y1, fun K hk => by simp only [denQ, hu]; exact y2 K hk⟩
      · rename_i e hu
        split at hq
        · rename_i n hs
          obtain ⟨a, ha, hf⟩ := sl_ok hE hq
          obtain ⟨y, y1, y2⟩ := slS_ok hE ha hf
          exact ⟨y, y1, fun K hk => by simp only [denQ, hu, hs]; exact y2 K hk⟩
        · exact (hN_no hq).elim
      · exact (hN_no hq).elim
  case lookup t x ix ok =>
    split at hq
    · rename_i kt e hu
      split at hq
      · rename_i z hz
        obtain ⟨y, y1, y2⟩ := look_ok hE hH hu hz hq
        exact ⟨y, y1, fun K hk => ⟨y, y2, hk⟩⟩
      · exact (hN_no hq).elim
    · exact (hN_no hq).elim
  case load t x =>
    split at hq
    · rename_i sz hs
      obtain ⟨y, y1, y2⟩ := load_ok hE hH hq
      exact ⟨y, y1, fun K hk => by simp only [denQ, hs]; exact y2 K hk⟩
    · exact (hN_no hq).elim
  case build t ps =>
    split at hq
    · rename_i fs z hu hz
      split at hq
      · rename_i pl hp
        obtain ⟨zs, z1, z2⟩ := zs_ok (ns := ns) hz
        obtain ⟨cs, c1, c2⟩ := build_ok hE z2 hq
        exact ⟨_, c2, fun K hk => by simp only [denQ, hu, z1, hp]; exact ⟨cs, c1, hk⟩⟩
      · exact (hN_no hq).elim
    · rename_i len e z hu hz
      split at hq
      · rename_i n hs
        obtain ⟨zs, z1, z2⟩ := zs_ok (ns := ns) hz
        obtain ⟨cs, c1, c2⟩ := build_ok hE z2 hq
        exact ⟨_, c2, fun K hk => by simp only [denQ, hu, z1, hs]; exact ⟨cs, c1, hk⟩⟩
      · exact (hN_no hq).elim
    · exact (hN_no hq).elim
  case makeInterface t x =>
    split at hq
    · exact (hN_no hq).elim
    · rename_i d hd hu
      obtain ⟨a, ha, hf⟩ := h1_ok hE hq
      cases hf
      refine ⟨.iface t (evalE ρ x), by simp only [toV, ha], fun K hk => ?_⟩
      simp only [denQ, hu]
      cases d <;> first | exact hk | exact (hd _ hu).elim
    · exact (hN_no hq).elim
  case makeFunc f first cap =>
    cases f <;> simp only at hq <;> first | exact (hN_no hq).elim | skip
    simp only [hFn] at hq
    cases h1 : (sBx first.toList).1 E with
    | none => rw [h1] at hq; cases hq
    | some a =>
      cases h2 : (sBx cap.toList).1 E with
      | none => rw [h1, h2] at hq; cases hq
      | some c =>
        rw [h1, h2] at hq
        cases hq
        exact ⟨_, mk_fn (xOs_ok hE h1) (xOs_ok hE h2), fun K hk => hk⟩
  case typeAssert x xt t ok =>
    cases ok with
    | false => exact (hN_no hq).elim
    | true =>
      simp only at hq
      split at hq
      · exact (hN_no hq).elim
      · rename_i d z hd hu hz
        obtain ⟨a, ha, hf⟩ := h1_ok hE hq
        exact assert_ok hu (fun ms e => hd ms e) hz ha hf
      · exact (hN_no hq).elim
  case convert src dst' x =>
    split at hq
    · rename_i k1 k hs ht
      obtain ⟨a, ha, hf⟩ := h1_ok hE hq
      obtain ⟨y, y1, y2⟩ := convI_ok ha hf
      exact ⟨y, y1, fun K hk => by simp only [denQ, hs, ht]; exact y2 K hk⟩
    · rename_i e hs ht
      split at hq
      · rename_i he
        simp only [hConvBS] at hq
        cases hx : (oBx x).1 E with
        | none => rw [hx] at hq; cases hq
        | some a =>
          rw [hx] at hq
          obtain ⟨y, y1, y2⟩ := convBS_ok hH (o_ok hE hx) hq
          exact ⟨y, y1, fun K hk => by simp only [denQ, hs, ht, he]; exact y2 K hk⟩
      · exact (hN_no hq).elim
    · exact (hN_no hq).elim
  case call c =>
    obtain ⟨callee, args, argTypes⟩ := c
    cases callee with
    | value f => exact (hN_no hq).elim
    | invoke r m => exact (hN_no hq).elim
    | builtin b =>
      cases b <;> simp only at hq <;> first | exact (hN_no hq).elim | skip
      case len =>
        split at hq
        · rename_i x t ha ht
          split at hq
          · rename_i hu
            obtain ⟨a, h1, hf⟩ := h1_ok hE hq
            obtain ⟨y, y1, y2⟩ := lenStr_ok h1 hf
            exact ⟨y, y1, fun K hk => by simp only [denQ, ha, ht, hu]; exact y2 K hk⟩
          · rename_i e hu
            obtain ⟨a, h1, hf⟩ := h1_ok hE hq
            obtain ⟨y, y1, y2⟩ := lenS_ok h1 hf
            exact ⟨y, y1, fun K hk => by simp only [denQ, ha, ht, hu]; exact y2 K hk⟩
          · exact (hN_no hq).elim
        · exact (hN_no hq).elim
      case max =>
        split at hq
        · rename_i x y ha
          obtain ⟨a, b, h1, h2, hf⟩ := h2_ok hE hq
          obtain ⟨z, y1, y2⟩ := mm_ok h1 h2 hf
          exact ⟨z, y1, fun K hk => by simp only [denQ, ha]; exact y2 K hk⟩
        · exact (hN_no hq).elim
      case min =>
        split at hq
        · rename_i x y ha
          obtain ⟨a, b, h1, h2, hf⟩ := h2_ok hE hq
          obtain ⟨z, y1, y2⟩ := mm_ok h1 h2 hf
          exact ⟨z, y1, fun K hk => by simp only [denQ, ha]; exact y2 K hk⟩
        · exact (hN_no hq).elim
  all_goals exact (hN_no hq).elim
end
end Go.Px

/- Texts of this claim, one behind the other. -/
import Derived.Test.YtbidgpchoamdfaaM11
import Derived.SizedLaws
/- LedgerReads: the walk; the law's slice of records, opened. -/
set_option linter.unusedSimpArgs false
set_option linter.unusedVariables false
namespace Go.Pw
open Go Go.Proofs Go.ChangeShapes Go.WideShapes Go.ChangeAt Go.RowKit Go.Deep

section
variable {h : PH} {R : AEnd → PH → Prop}
theorem RecsAt.ld {v : Value} {l : List (ByteArray × ByteArray)} (hv : RecsAt h v l) {i : Nat} {a : ByteArray × ByteArray} (ha : l[i]? = some a) : ∀ {K : Value → Prop}, (vIxS 2 v (.int .i64 i) fun t => vLoad (some 2) t h K) ↔ K (.agg #[.string a.1, .string a.2]) := fun {K} => by
  obtain ⟨p, cap, rfl, hcap, hel⟩ := hv
  obtain ⟨b, off, c, e, fr, rfl, hb, hs, he⟩ := hel i a ha
  have hi := (List.getElem?_eq_some_iff.1 ha).1
  rw [vIxS_p, show off + (i : Int).toNat * 2 = off + i * 2 by omega, vLoad_n hb hs, he]
  exact ⟨fun hh => hh.2.2, fun hh => ⟨by omega, by omega, hh⟩⟩
theorem RecsAt.sub {g : PH} {v : Value} {l : List (ByteArray × ByteArray)} (hv : RecsAt h v l) (hs : Sub h g) : RecsAt g v l := by
  obtain ⟨p, cap, e, hcap, hel⟩ := hv
  refine ⟨p, cap, e, hcap, fun i a ha => ?_⟩
  obtain ⟨b, off, c, e, fr, q1, q2, q3⟩ := hel i a ha
  exact ⟨b, off, c, e, fr, q1, hs _ _ q2, q3⟩
theorem RecsAt.len {v : Value} {l : List (ByteArray × ByteArray)} (hv : RecsAt h v l) {K : Value → Prop} : vLenS v K ↔ K (.int .i64 l.length) := by
  obtain ⟨p, cap, rfl, _⟩ := hv
  exact vLenS_s _ _ _
/-- The records of a ledger. -/
def recsOf (L : Led) (n : Nat) : List (ByteArray × ByteArray) := (List.range n).map fun i => (keyB i, ⟨(payB L i).toArray⟩)
theorem recs_ob {h0 : PH} {L : Led} {n : Nat} {s : Value} (hw : OB 32 2 h0 n (recCells L n) h s) : RecsAt h s (recsOf L n) := by
  rcases Nat.eq_zero_or_pos n with hn | hn
  · subst hn
    obtain ⟨p, cap, e⟩ := ob_len hw
    exact ⟨p, cap, by simpa [recsOf] using e, by simp [recsOf], fun i a ha => by simp [recsOf] at ha⟩
  · obtain ⟨q, c, cap, hs, hq, hsz, hget⟩ := ob_get hw hn
    have hc : n ≤ cap := by
      rcases hw.buf with ⟨_, h1, _⟩ | ⟨g2, c2, cap2, h1, h2, h3, h4, h5, h6⟩
      · omega
      · rw [h1] at hs; cases hs; exact h5
    refine ⟨_, cap, by simpa [recsOf] using hs, by simpa [recsOf] using hc, fun i a ha => ?_⟩
    have hi : i < n := by have := (List.getElem?_eq_some_iff.1 ha).1; simpa [recsOf] using this
    unfold recsOf at ha
    rw [List.getElem?_map, List.getElem?_range hi] at ha
    cases ha
    obtain ⟨g1, g2⟩ := recCells_get L n i hi
    refine ⟨q, 0, c, _, _, rfl, hq, by omega, ?_⟩
    apply Array.ext_getElem?
    intro j
    rw [Array.getElem?_extract]
    rcases Nat.lt_or_ge j 2 with hj | hj
    · rw [if_pos (by omega), hget _ (by omega)]
      match j, hj with
      | 0, _ => simpa using g1
      | 1, _ => simpa using g2
    · rw [if_neg (by omega), Array.getElem?_eq_none (by simpa using hj)]
theorem same_gen {v v' : Value} {l l' : List (ByteArray × ByteArray)} (hv : RecsAt h v l) (hv' : RecsAt h v' l') (hz : l.length < 4611686018427387904) (hT : l = l' → R (.ret (.bool true)) h) (hF : l ≠ l' → R (.ret (.bool false)) h) :
    ACalls Try.prog 13 #[v, v'] h R := by
  refine call13 ?_
  unfold sh13
  simp only [hv.len, hv'.len, vBin_neq, dIf_b]
  refine ⟨fun hn => hF fun e => by rw [e] at hn; simp at hn, fun he => ?_⟩
  have hll : l.length = l'.length := by
    have : ((l.length : Int) = (l'.length : Int)) := by simpa using he
    omega
  refine lf_intro (fun m s' g' => ∃ i : Nat, s' = (.bool false, .int .i64 i) ∧ m = l.length - i ∧ i ≤ l.length ∧ g' = h ∧ ∀ j, j < i → l[j]? = l'[j]?) l.length ⟨0, rfl, rfl, by omega, rfl, fun j hj => absurd hj (by omega)⟩ ?_
  rintro m s' g' ⟨i, rfl, rfl, hi, rfl, hall⟩
  by_cases hin : i < l.length
  · obtain ⟨a, ha⟩ : ∃ a, l[i]? = some a := ⟨_, List.getElem?_eq_getElem hin⟩
    obtain ⟨b, hb⟩ : ∃ b, l'[i]? = some b := ⟨_, List.getElem?_eq_getElem (by omega)⟩
    have key : ∀ (kn : (Value × Value) → (Value × Value) → PH → Prop) Kp x0 (xr : Value → PH → Prop), (a = b → kn (v, v') (.bool false, .int .i64 ((i : Int) + 1)) g') → (a ≠ b → xr (.bool false) g') →
        b13_4 Kp x0 xr (v, v') kn (.bool false, .int .i64 i) g' := by
      intro kn Kp x0 xr k1 k2
      unfold b13_4
      have hlt : (i : Int) < (l.length : Int) := by omega
      simp only [hv.len, vBin_lss, hlt, decide_true, dIf_b]
      refine ⟨fun _ => ?_, fun e => absurd e (by simp)⟩
      rw [hv.ld ha, hv'.ld hb, rec_neq]
      simp only [dIf_b, vBin_add]
      rw [w64 (by omega) (by omega)]
      refine ⟨fun hne => k2 fun e => by rw [e] at hne; simp at hne, fun heq => k1 ?_⟩
      have : a.1 = b.1 ∧ a.2 = b.2 := by simpa using heq
      exact Prod.ext this.1 this.2
    refine key _ _ _ _ (fun e => ⟨rfl, l.length - (i + 1), by omega, i + 1, rfl, rfl, by omega, rfl, fun j hj => ?_⟩) (fun ne => ?_)
    · by_cases ej : j = i
      · subst ej; rw [ha, hb, e]
      · exact hall j (by omega)
    · intro r hr
      rw [show r 4 = _ from hr]
      exact hF fun e => ne (by rw [e, hb] at ha; cases ha; rfl)
  · have e : i = l.length := by omega
    subst e
    unfold b13_4
    have hnl : ¬ ((l.length : Int) < (l.length : Int)) := by omega
    simp only [hv.len, vBin_lss, hnl, decide_false, dIf_b]
    refine ⟨fun e => absurd e (by simp), fun _ => ?_⟩
    intro r hr
    exact hT (List.ext_getElem? fun j => by
      by_cases hj : j < l.length
      · exact hall j hj
      · rw [List.getElem?_eq_none (by omega), List.getElem?_eq_none (by omega)])

theorem vBin_bne {P : Program} {K : Value → Prop} {t : TypeId} (hu : P.underlying t = some .bool) (a b : Bool) : vBin P .neq t (.bool a) (.bool b) K ↔ K (.bool (!(a == b))) :=
  vBin_ne (fun _ _ => pureRun_eqGuard (fun _ h => by cases h) (fun h => by cases h)) rfl (by
    show pureRun P (Op.equalIn (9999 + 1) t _ _) = _
    rw [Op.equalIn]
    exact pureRun_seq (pureRun_underlying hu) rfl)

theorem lreads_ok {v : Value} {l : List (ByteArray × ByteArray)} {c g : Int} (hv : RecsAt h v l) (hsz : ∀ a ∈ l, a.2.size < 4611686018427387000) (hR : R (.ret (.bool true)) h) :
    ACalls Try.prog 7 #[.int .i64 c, .int .i64 g, v] h R := by
  refine ACalls.drop (call7 ?_)
  unfold sh7
  have u25 := Try.underlying25
  have u4 := Try.underlying4
  have ncase : ∀ er : Int, er ≠ 0 → ∀ (G : PH), Sub h G → ∀ t9 : Nat, True →
      (vCall Try.prog 12 #[] G (fun t37 h_10 => ∃ g, Sub g h_10 ∧ R (.ret t37) g) (fun c h => ∃ g, Sub g h ∧ R (.pan c) g)) := fun er _ G hs _ _ => by
    refine awake_ok ?_
    exact ⟨h, hs, hR⟩
  refine of_ok hv hsz (fun hb => ?_) (fun hb hn => ?_) (fun hb L hL x b g1 s1 hLed hx0 hb0 => ?_)
  · simp only [AEnd.elim, vExt_20, vExt_21]
    refine rof_ok hv hsz (fun _ => ?_) (fun h' => absurd h' hb) (fun h' => absurd h' hb)
    simp only [AEnd.elim, vExt_20, vExt_21]
    refine vNew_gen fun d G hd sd hdd => ?_
    refine vStore_to (cs := rled0) hdd (by rfl) (by rfl) (by rfl) ?_
    simp only [vBin_neq, decide_true, Bool.not_true, boolOf_b, gq_b, forall_const, ne_eq, not_true_eq_false, false_implies, and_true, vBin_nilneq u25, vBin_eql, Int.reduceEq, decide_false, vBin_bne u4, beq_self_eq_true, vPick_b, cond_false, dIf_b, Bool.false_eq_true, true_and, vBin_nilp u25, Bool.true_eq_false]
    exact ncase 1 (by decide) _ (Sub.put sd hd) d trivial
  · simp only [AEnd.elim, vExt_20, vExt_21]
    refine rof_ok hv hsz (fun h' => absurd hb h') (fun _ _ => ?_) (fun _ L hL => by rw [hn] at hL; cases hL)
    simp only [AEnd.elim, vExt_20, vExt_21]
    refine vNew_gen fun d G hd sd hdd => ?_
    refine vStore_to (cs := rled0) hdd (by rfl) (by rfl) (by rfl) ?_
    simp only [vBin_neq, decide_true, Bool.not_true, boolOf_b, gq_b, forall_const, ne_eq, not_true_eq_false, false_implies, and_true, vBin_nilneq u25, vBin_eql, Int.reduceEq, decide_false, vBin_bne u4, beq_self_eq_true, vPick_b, cond_false, dIf_b, Bool.false_eq_true, true_and, vBin_nilp u25, Bool.true_eq_false]
    exact ncase 92 (by decide) _ (Sub.put sd hd) d trivial
  · simp only [AEnd.elim, vExt_20, vExt_21]
    refine rof_ok (hv.sub s1) hsz (fun h' => absurd hb h') (fun _ hn => by rw [hn] at hL; cases hL) (fun _ M hM q vL g2 s2 hra => ?_)
    rw [hL] at hM
    cases hM
    obtain ⟨hc1, hc2, hg1, hg2⟩ := hb
    obtain ⟨hinv, hLl, hLn, hLg, hall⟩ := ofR_inv hc1 hc2 hg1 hg2 hL
    simp only [AEnd.elim, vExt_20, vExt_21]
    refine vNew_gen fun d G hd sd hdd => ?_
    have hv2 : vL.size = 2 ∧ vL.toList.all Value.oneCell' = true ∧ vL.extract 0 (0 + 2) = vL := by
      obtain ⟨_, cap', e1, _⟩ := hra
      cases e1
      exact ⟨rfl, rfl, rfl⟩
    refine vStore_to (cs := vL) hdd (by rfl) hv2.1 hv2.2.1 ?_
    have sG : Sub g2 (ins G d (.cells vL 52 (0, 0))) := Sub.put sd hd
    have hdG : (ins G d (.cells vL 52 (0, 0))) d = some (.cells vL 52 (0, 0)) := ins_eq _ _ _
    revert sG hdG
    generalize (ins G d (.cells vL 52 (0, 0))) = G2
    intro sG hdG
    have hLG : LedAt G2 x b L := (hLed.sub s2).sub sG
    simp only [vBin_neq, decide_true, Bool.not_true, boolOf_b, gq_b, forall_const, ne_eq, not_true_eq_false, false_implies, and_true, vBin_pneq u25, vBin_eql, vBin_bne u4, beq_self_eq_true, vPick_b, cond_false, dIf_b, Bool.false_eq_true, true_and, vBin_pnil u25]
    rw [vLoad_n hdG (by omega), hv2.2.2]
    refine like_ok hinv.small (by omega) hLG (hra.sub sG) ?_
    simp only [AEnd.elim, boolOf_b, gq_b, forall_const, ne_eq, not_true_eq_false, false_implies, and_true]
    refine records_ok hLG hinv fun g3 s3 ob3 => ?_
    simp only [AEnd.elim]
    have hsub3 : Sub h g3 := ((s1.trans s2).trans sG).trans ob3.sub
    have hrl : recsOf L L.n = l := by
      apply List.ext_getElem?
      intro i
      unfold recsOf
      rw [List.getElem?_map]
      by_cases hi : i < L.n
      · obtain ⟨a, b1, b2, b3⟩ := hall i hi
        rw [List.getElem?_range hi, b1]
        simp only [Option.map_some, Option.some.injEq]
        rw [b3, ← b2]
      · rw [List.getElem?_eq_none (by simp; omega), List.getElem?_eq_none (by omega)]; rfl
    refine same_gen (recs_ob ob3) (hv.sub hsub3) (by rw [hrl]; omega) (fun _ => ?_) (fun hne => absurd hrl hne)
    simp only [AEnd.elim, vPick_b, cond_true, boolOf_b, gq_b, forall_const, ne_eq, not_true_eq_false, false_implies, and_true]
    refine awake_ok ?_
    simp only [AEnd.elim, vPick_b, cond_true]
    exact ⟨h, hsub3, hR⟩
end

section
variable {H : Type} {enc : TypeId × Value → H} {w : World} {base : Nat} {spare : Nat → Bool} {held : Bool}
theorem try_cells_rec : Try.prog.cellsOf 32 = 2 := by kernel_rfl
set_option maxRecDepth 100000 in
theorem trod_rec {fuel : Nat} {cs : List Value} {x : DataW H × List MemPlace} (h : DataW.trod enc Try.prog w base spare held fuel 32 cs = some x) : ∃ a : ByteArray × ByteArray, cs = [.string a.1, .string a.2] ∧ a.2.size ∈ x.1.weights Try.prog 32 := by
  obtain ⟨xs, n, _, hx, hl, hlen, hf⟩ := DataW.trod_struct Try.underlying32 h
  rw [try_cells_rec] at hl
  have hlen2 : xs.length = 2 := hlen
  have txt : ∀ i, i < 2 → ∃ s : ByteArray, cs[i]? = some (.string s) ∧ xs[i]? = some (.lit (.string s.data.toList), []) := fun i hi => by
    obtain ⟨z, hz⟩ : ∃ z, xs[i]? = some z := ⟨xs[i]'(by omega), List.getElem?_eq_getElem (by omega)⟩
    have key : ∀ f : Field, f.type = 9 → f.offset = i → DataW.trod enc Try.prog w base spare held n f.type (List.take (Try.prog.cellsOf f.type) (List.drop f.offset cs)) = some z → ∃ s : ByteArray, cs[i]? = some (.string s) ∧ xs[i]? = some (.lit (.string s.data.toList), []) := fun f ht ho hh => by
      rw [ht, try_cells_string, ho] at hh
      obtain ⟨a, e, e2, _⟩ := DataW.trod_string Try.underlying9 hh
      exact ⟨a, take1_eq e, by rw [hz, e2]⟩
    match i, hi with
    | 0, _ => exact key _ rfl rfl ((hf 0 _ rfl).trans hz)
    | 1, _ => exact key _ rfl rfl ((hf 1 _ rfl).trans hz)
  obtain ⟨s0, h0, x0⟩ := txt 0 (by omega)
  obtain ⟨s1, h1, x1⟩ := txt 1 (by omega)
  have hxs : xs = [(.lit (.string s0.data.toList), []), (.lit (.string s1.data.toList), [])] := by
    apply List.ext_getElem?
    intro i
    match i with
    | 0 => exact x0
    | 1 => exact x1
    | i + 2 => rw [List.getElem?_eq_none (by omega)]; rfl
  refine ⟨(s0, s1), ?_, ?_⟩
  · apply List.ext_getElem?
    intro i
    match i with
    | 0 => exact h0
    | 1 => exact h1
    | i + 2 => rw [List.getElem?_eq_none (by omega)]; rfl
  · rw [hx, hxs]
    have : s1.size = s1.data.toList.length := by rw [Array.length_toList]; rfl
    rw [List.map_cons, List.map_cons, List.map_nil, DataW.weights, Try.underlying32]
    refine DataW.weights_mem_each (j := 1) (t := 9) rfl rfl _ ?_
    rw [this]
    simp only [DataW.weights, List.mem_singleton]
theorem weights_all {P : Program} {e : TypeId} {l : List (DataW H)} {i : Nat} {d : DataW H} {n : Nat} (hd : l[i]? = some d) (hn : n ∈ d.weights P e) : n ∈ DataW.weightsAll P e l := by
  induction l generalizing i with
  | nil => cases hd
  | cons a l ih =>
    simp only [DataW.weightsAll, List.mem_append]
    cases i with
    | zero => cases hd; exact .inl hn
    | succ i => exact .inr (ih (by simpa using hd))
set_option maxRecDepth 100000 in
theorem open_recs {v : Value} {d : DataW H} {p : List MemPlace} {r : Reach} {b0 : Nat} {sp : Nat → Bool} (hv : Value.okWide Try.prog w r b0 27 v) (h : DataW.Trod enc Try.prog w base sp held 27 v d p) :
    ∃ l, RecsAt (whole w) v l ∧ (∀ a ∈ l, a.2.size ∈ d.weights Try.prog 27) := by
  obtain ⟨a0, len, cap, rfl⟩ := okWide_slice Try.underlying27 hv
  obtain ⟨fuel, hf⟩ := h
  rcases open_slice Try.underlying27 hf with ⟨hcs, hx⟩ | ⟨a, len', cap', m, n, D, Pl, hcs, _, hl, hm, hmm, hx, hel⟩
  · simp only [Value.cells, Array.toList] at hcs
    injection hcs with h1 _
    injection h1 with h1 h2 h3
    subst h1 h2 h3
    exact ⟨[], ⟨none, 0, rfl, Nat.le_refl _, fun i a h => by cases h⟩, by simp⟩
  · simp only [Value.cells, Array.toList] at hcs
    injection hcs with h1 _
    injection h1 with h1 h2 h3
    subst h1 h2 h3
    have hm' : len ≤ m := by rw [hmm]; split <;> omega
    by_cases hl0 : len = 0
    · subst hl0
      exact ⟨[], ⟨some a, cap, rfl, Nat.zero_le _, fun i a h => by cases h⟩, by simp⟩
    obtain ⟨b, off, rfl⟩ : ∃ b off, a = ⟨b, off, none⟩ := by
      obtain ⟨cs', g1, g2⟩ := hel 0 (by omega)
      rw [try_cells_rec] at g1
      obtain ⟨b, off, c, e, fr, q1, q2, q3, q4⟩ := cells_at (by omega) g1
      rw [show a.add (0 * 2) = a by simp [Addr.add]] at q1
      exact ⟨b, off, q1⟩
    have one : ∀ i, i < len → ∃ x : ByteArray × ByteArray, (∃ c e fr, whole w b = some (.cells c e fr) ∧ off + i * 2 + 2 ≤ c.size ∧ c.extract (off + i * 2) (off + i * 2 + 2) = #[.string x.1, .string x.2]) ∧ x.2.size ∈ (D i).weights Try.prog 32 := fun i hi => by
      obtain ⟨cs', g1, g2⟩ := hel i (by omega)
      rw [try_cells_rec, add_lit] at g1
      obtain ⟨x, hx, hw⟩ := trod_rec g2
      obtain ⟨b', off', c, e, fr, q1, q2, q3, q4⟩ := cells_at (by omega) g1
      simp only [Addr.mk.injEq] at q1
      obtain ⟨rfl, rfl, _⟩ := q1
      exact ⟨x, ⟨c, e, fr, q2, q3, Array.toList_inj.1 (q4.trans hx)⟩, hw⟩
    obtain ⟨F, hF⟩ := choose_lt one
    have hD : d = .slice ((List.range len).map D) ((List.range (m - len)).map fun j => D (len + j)) := by
      have := congrArg Prod.fst hx
      exact this
    refine ⟨(List.range len).map F, ⟨some ⟨b, off, none⟩, cap, by simp, by simpa using hl, fun i x hx => ?_⟩, fun x hx => ?_⟩
    · rw [List.getElem?_map] at hx
      by_cases hi : i < len
      · rw [List.getElem?_range hi] at hx
        cases hx
        obtain ⟨⟨c, e, fr, q2, q3, q4⟩, _⟩ := hF i hi
        exact ⟨b, off, c, e, fr, rfl, q2, q3, q4⟩
      · rw [List.getElem?_eq_none (by simp; omega)] at hx
        cases hx
    · obtain ⟨i, hi, rfl⟩ := List.mem_map.1 hx
      have hi' := List.mem_range.1 hi
      rw [hD]
      simp only [DataW.weights, Try.underlying27, List.mem_cons, List.mem_append]
      exact .inr (.inl (weights_all (i := i) (by rw [List.getElem?_map, List.getElem?_range hi']; rfl) (hF i hi').2))
end
end Go.Pw

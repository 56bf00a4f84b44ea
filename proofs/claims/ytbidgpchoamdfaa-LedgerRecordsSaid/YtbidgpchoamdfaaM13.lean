/- Texts of this claim, one behind the other. -/
import Derived.Test.YtbidgpchoamdfaaM11
import Derived.Test.YtbidgpchoamdfaaM12
import Derived.SizedLaws
/- LedgerReads: the walk; the law's slice of records, opened. -/
set_option linter.unusedSimpArgs false
set_option linter.unusedVariables false
namespace Go.Pw
open Go Go.Proofs Go.ChangeShapes Go.WideShapes Go.ChangeAt Go.RowKit Go.Deep

section
variable {h : PH} {R : AEnd → PH → Prop}
theorem RecsAt.ld {v : Value} {l : List (ByteArray × ByteArray)} (hv : RecsAt h v l) {i : Nat} {a : ByteArray × ByteArray} (ha : l[i]? = some a) : ∀ {K : Value → Prop}, (vIxS 2 v (.int .i64 i) fun t => vLoad (some 2) t h K) ↔ K (.agg #[.string a.1, .string a.2]) := fun {K} => by
  obtain ⟨p, cap, rfl, hcap, hel⟩ := hv
  obtain ⟨b, off, c, e, fr, rfl, hb, hs, he⟩ := hel i a ha
  have hi := (List.getElem?_eq_some_iff.1 ha).1
  rw [vIxS_p, show off + (i : Int).toNat * 2 = off + i * 2 by omega, vLoad_n hb hs, he]
  exact ⟨fun hh => hh.2.2, fun hh => ⟨by omega, by omega, hh⟩⟩
theorem RecsAt.sub {g : PH} {v : Value} {l : List (ByteArray × ByteArray)} (hv : RecsAt h v l) (hs : Sub h g) : RecsAt g v l := by
  obtain ⟨p, cap, e, hcap, hel⟩ := hv
  refine ⟨p, cap, e, hcap, fun i a ha => ?_⟩
  obtain ⟨b, off, c, e, fr, q1, q2, q3⟩ := hel i a ha
  exact ⟨b, off, c, e, fr, q1, hs _ _ q2, q3⟩
theorem RecsAt.len {v : Value} {l : List (ByteArray × ByteArray)} (hv : RecsAt h v l) {K : Value → Prop} : vLenS v K ↔ K (.int .i64 l.length) := by
  obtain ⟨p, cap, rfl, _⟩ := hv
  exact vLenS_s _ _ _
/-- The records of a ledger. -/
def recsOf (L : Led) (n : Nat) : List (ByteArray × ByteArray) := (List.range n).map fun i => (keyB i, ⟨(payB L i).toArray⟩)
theorem recs_ob {h0 : PH} {L : Led} {n : Nat} {s : Value} (hw : OB 32 2 h0 n (recCells L n) h s) : RecsAt h s (recsOf L n) := by
  rcases Nat.eq_zero_or_pos n with hn | hn
  · subst hn
    obtain ⟨p, cap, e⟩ := ob_len hw
    exact ⟨p, cap, by simpa [recsOf] using e, by simp [recsOf], fun i a ha => by simp [recsOf] at ha⟩
  · obtain ⟨q, c, cap, hs, hq, hsz, hget⟩ := ob_get hw hn
    have hc : n ≤ cap := by
      rcases hw.buf with ⟨_, h1, _⟩ | ⟨g2, c2, cap2, h1, h2, h3, h4, h5, h6⟩
      · omega
      · rw [h1] at hs; cases hs; exact h5
    refine ⟨_, cap, by simpa [recsOf] using hs, by simpa [recsOf] using hc, fun i a ha => ?_⟩
    have hi : i < n := by have := (List.getElem?_eq_some_iff.1 ha).1; simpa [recsOf] using this
    unfold recsOf at ha
    rw [List.getElem?_map, List.getElem?_range hi] at ha
    cases ha
    obtain ⟨g1, g2⟩ := recCells_get L n i hi
    refine ⟨q, 0, c, _, _, rfl, hq, by omega, ?_⟩
    apply Array.ext_getElem?
    intro j
    rw [Array.getElem?_extract]
    rcases Nat.lt_or_ge j 2 with hj | hj
    · rw [if_pos (by omega), hget _ (by omega)]
      match j, hj with
      | 0, _ => simpa using g1
      | 1, _ => simpa using g2
    · rw [if_neg (by omega), Array.getElem?_eq_none (by simpa using hj)]
theorem same_gen {v v' : Value} {l l' : List (ByteArray × ByteArray)} (hv : RecsAt h v l) (hv' : RecsAt h v' l') (hz : l.length < 4611686018427387904) (hT : l = l' → R (.ret (.bool true)) h) (hF : l ≠ l' → R (.ret (.bool false)) h) :
    ACalls Try.prog 13 #[v, v'] h R := by
  refine call13 ?_
  unfold sh13
  simp only [hv.len, hv'.len, vBin_neq, dIf_b]
  refine ⟨fun hn => hF fun e => by rw [e] at hn; simp at hn, fun he => ?_⟩
  have hll : l.length = l'.length := by
    have : ((l.length : Int) = (l'.length : Int)) := by simpa using he
    omega
  refine lf_intro (fun m s' g' => ∃ i : Nat, s' = (.bool false, .int .i64 i) ∧ m = l.length - i ∧ i ≤ l.length ∧ g' = h ∧ ∀ j, j < i → l[j]? = l'[j]?) l.length ⟨0, rfl, rfl, by omega, rfl, fun j hj => absurd hj (by omega)⟩ ?_
  rintro m s' g' ⟨i, rfl, rfl, hi, rfl, hall⟩
  by_cases hin : i < l.length
  · obtain ⟨a, ha⟩ : ∃ a, l[i]? = some a := ⟨_, List.getElem?_eq_getElem hin⟩
    obtain ⟨b, hb⟩ : ∃ b, l'[i]? = some b := ⟨_, List.getElem?_eq_getElem (by omega)⟩
    have key : ∀ (kn : (Value × Value) → (Value × Value) → PH → Prop) Kp x0 (xr : Value → PH → Prop), (a = b → kn (v, v') (.bool false, .int .i64 ((i : Int) + 1)) g') → (a ≠ b → xr (.bool false) g') →
        b13_4 Kp x0 xr (v, v') kn (.bool false, .int .i64 i) g' := by
      intro kn Kp x0 xr k1 k2
      unfold b13_4
      have hlt : (i : Int) < (l.length : Int) := by omega
      simp only [hv.len, vBin_lss, hlt, decide_true, dIf_b]
      refine ⟨fun _ => ?_, fun e => absurd e (by simp)⟩
      rw [hv.ld ha, hv'.ld hb, rec_neq]
      simp only [dIf_b, vBin_add]
      rw [w64 (by omega) (by omega)]
      refine ⟨fun hne => k2 fun e => by rw [e] at hne; simp at hne, fun heq => k1 ?_⟩
      have : a.1 = b.1 ∧ a.2 = b.2 := by simpa using heq
      exact Prod.ext this.1 this.2
    refine key _ _ _ _ (fun e => ⟨rfl, l.length - (i + 1), by omega, i + 1, rfl, rfl, by omega, rfl, fun j hj => ?_⟩) (fun ne => ?_)
    · by_cases ej : j = i
      · subst ej; rw [ha, hb, e]
      · exact hall j (by omega)
    · intro r hr
      rw [show r 4 = _ from hr]
      exact hF fun e => ne (by rw [e, hb] at ha; cases ha; rfl)
  · have e : i = l.length := by omega
    subst e
    unfold b13_4
    have hnl : ¬ ((l.length : Int) < (l.length : Int)) := by omega
    simp only [hv.len, vBin_lss, hnl, decide_false, dIf_b]
    refine ⟨fun e => absurd e (by simp), fun _ => ?_⟩
    intro r hr
    exact hT (List.ext_getElem? fun j => by
      by_cases hj : j < l.length
      · exact hall j hj
      · rw [List.getElem?_eq_none (by omega), List.getElem?_eq_none (by omega)])

theorem vBin_bne {P : Program} {K : Value → Prop} {t : TypeId} (hu : P.underlying t = some .bool) (a b : Bool) : vBin P .neq t (.bool a) (.bool b) K ↔ K (.bool (!(a == b))) :=
  vBin_ne (fun _ _ => pureRun_eqGuard (fun _ h => by cases h) (fun h => by cases h)) rfl (by
    show pureRun P (Op.equalIn (9999 + 1) t _ _) = _
    rw [Op.equalIn]
    exact pureRun_seq (pureRun_underlying hu) rfl)

theorem lreads_ok {v : Value} {l : List (ByteArray × ByteArray)} {c g : Int} (hv : RecsAt h v l) (hsz : ∀ a ∈ l, a.2.size < 4611686018427387000) (hR : R (.ret (.bool true)) h) :
    ACalls Try.prog 7 #[.int .i64 c, .int .i64 g, v] h R := by
  refine ACalls.drop (call7 ?_)
  unfold sh7
  have u25 := Try.underlying25
  have u4 := Try.underlying4
  have ncase : ∀ er : Int, er ≠ 0 → ∀ (G : PH), Sub h G → ∀ t9 : Nat, True →
      (vCall Try.prog 12 #[] G (fun t37 h_10 => ∃ g, Sub g h_10 ∧ R (.ret t37) g) (fun c h => ∃ g, Sub g h ∧ R (.pan c) g)) := fun er _ G hs _ _ => by
    refine awake_ok ?_
    exact ⟨h, hs, hR⟩
  refine of_ok hv hsz (fun hb => ?_) (fun hb hn => ?_) (fun hb L hL x b g1 s1 hLed hx0 hb0 => ?_)
  · simp only [AEnd.elim, vExt_20, vExt_21]
    refine rof_ok hv hsz (fun _ => ?_) (fun h' => absurd h' hb) (fun h' => absurd h' hb)
    simp only [AEnd.elim, vExt_20, vExt_21]
    refine vNew_gen fun d G hd sd hdd => ?_
    refine vStore_to (cs := rled0) hdd (by rfl) (by rfl) (by rfl) ?_
    simp only [vBin_neq, decide_true, Bool.not_true, boolOf_b, gq_b, forall_const, ne_eq, not_true_eq_false, false_implies, and_true, vBin_nilneq u25, vBin_eql, Int.reduceEq, decide_false, vBin_bne u4, beq_self_eq_true, vPick_b, cond_false, dIf_b, Bool.false_eq_true, true_and, vBin_nilp u25, Bool.true_eq_false]
    exact ncase 1 (by decide) _ (Sub.put sd hd) d trivial
  · simp only [AEnd.elim, vExt_20, vExt_21]
    refine rof_ok hv hsz (fun h' => absurd hb h') (fun _ _ => ?_) (fun _ L hL => by rw [hn] at hL; cases hL)
    simp only [AEnd.elim, vExt_20, vExt_21]
    refine vNew_gen fun d G hd sd hdd => ?_
    refine vStore_to (cs := rled0) hdd (by rfl) (by rfl) (by rfl) ?_
    simp only [vBin_neq, decide_true, Bool.not_true, boolOf_b, gq_b, forall_const, ne_eq, not_true_eq_false, false_implies, and_true, vBin_nilneq u25, vBin_eql, Int.reduceEq, decide_false, vBin_bne u4, beq_self_eq_true, vPick_b, cond_false, dIf_b, Bool.false_eq_true, true_and, vBin_nilp u25, Bool.true_eq_false]
    exact ncase 92 (by decide) _ (Sub.put sd hd) d trivial
  · simp only [AEnd.elim, vExt_20, vExt_21]
    refine rof_ok (hv.sub s1) hsz (fun h' => absurd hb h') (fun _ hn => by rw [hn] at hL; cases hL) (fun _ M hM q vL g2 s2 hra => ?_)
    rw [hL] at hM
    cases hM
    obtain ⟨hc1, hc2, hg1, hg2⟩ := hb
    obtain ⟨hinv, hLl, hLn, hLg, hall⟩ := ofR_inv hc1 hc2 hg1 hg2 hL
    simp only [AEnd.elim, vExt_20, vExt_21]
    refine vNew_gen fun d G hd sd hdd => ?_
    have hv2 : vL.size = 2 ∧ vL.toList.all Value.oneCell' = true ∧ vL.extract 0 (0 + 2) = vL := by
      obtain ⟨_, cap', e1, _⟩ := hra
      cases e1
      exact ⟨rfl, rfl, rfl⟩
    refine vStore_to (cs := vL) hdd (by rfl) hv2.1 hv2.2.1 ?_
    have sG : Sub g2 (ins G d (.cells vL 52 (0, 0))) := Sub.put sd hd
    have hdG : (ins G d (.cells vL 52 (0, 0))) d = some (.cells vL 52 (0, 0)) := ins_eq _ _ _
    revert sG hdG
    generalize (ins G d (.cells vL 52 (0, 0))) = G2
    intro sG hdG
    have hLG : LedAt G2 x b L := (hLed.sub s2).sub sG
    simp only [vBin_neq, decide_true, Bool.not_true, boolOf_b, gq_b, forall_const, ne_eq, not_true_eq_false, false_implies, and_true, vBin_pneq u25, vBin_eql, vBin_bne u4, beq_self_eq_true, vPick_b, cond_false, dIf_b, Bool.false_eq_true, true_and, vBin_pnil u25]
    rw [vLoad_n hdG (by omega), hv2.2.2]
    refine like_ok hinv.small (by omega) hLG (hra.sub sG) ?_
    simp only [AEnd.elim, boolOf_b, gq_b, forall_const, ne_eq, not_true_eq_false, false_implies, and_true]
    refine records_ok hLG hinv fun g3 s3 ob3 => ?_
    simp only [AEnd.elim]
    have hsub3 : Sub h g3 := ((s1.trans s2).trans sG).trans ob3.sub
    have hrl : recsOf L L.n = l := by
      apply List.ext_getElem?
      intro i
      unfold recsOf
      rw [List.getElem?_map]
      by_cases hi : i < L.n
      · obtain ⟨a, b1, b2, b3⟩ := hall i hi
        rw [List.getElem?_range hi, b1]
        simp only [Option.map_some, Option.some.injEq]
        rw [b3, ← b2]
      · rw [List.getElem?_eq_none (by simp; omega), List.getElem?_eq_none (by omega)]; rfl
    refine same_gen (recs_ob ob3) (hv.sub hsub3) (by rw [hrl]; omega) (fun _ => ?_) (fun hne => absurd hrl hne)
    simp only [AEnd.elim, vPick_b, cond_true, boolOf_b, gq_b, forall_const, ne_eq, not_true_eq_false, false_implies, and_true]
    refine awake_ok ?_
    simp only [AEnd.elim, vPick_b, cond_true]
    exact ⟨h, hsub3, hR⟩
end

section
variable {H : Type} {enc : TypeId × Value → H} {w : World} {base : Nat} {spare : Nat → Bool} {held : Bool}
theorem try_cells_rec : Try.prog.cellsOf 32 = 2 := by kernel_rfl
set_option maxRecDepth 100000 in
theorem trod_rec {fuel : Nat} {cs : List Value} {x : DataW H × List MemPlace} (h : DataW.trod enc Try.prog w base spare held fuel 32 cs = some x) : ∃ a : ByteArray × ByteArray, cs = [.string a.1, .string a.2] ∧ a.2.size ∈ x.1.weights Try.prog 32 := by
  obtain ⟨xs, n, _, hx, hl, hlen, hf⟩ := DataW.trod_struct Try.underlying32 h
  rw [try_cells_rec] at hl
  have hlen2 : xs.length = 2 := hlen
  have txt : ∀ i, i < 2 → ∃ s : ByteArray, cs[i]? = some (.string s) ∧ xs[i]? = some (.lit (.string s.data.toList), []) := fun i hi => by
    obtain ⟨z, hz⟩ : ∃ z, xs[i]? = some z := ⟨xs[i]'(by omega), List.getElem?_eq_getElem (by omega)⟩
    have key : ∀ f : Field, f.type = 9 → f.offset = i → DataW.trod enc Try.prog w base spare held n f.type (List.take (Try.prog.cellsOf f.type) (List.drop f.offset cs)) = some z → ∃ s : ByteArray, cs[i]? = some (.string s) ∧ xs[i]? = some (.lit (.string s.data.toList), []) := fun f ht ho hh => by
      rw [ht, try_cells_string, ho] at hh
      obtain ⟨a, e, e2, _⟩ := DataW.trod_string Try.underlying9 hh
      exact ⟨a, take1_eq e, by rw [hz, e2]⟩
    match i, hi with
    | 0, _ => exact key _ rfl rfl ((hf 0 _ rfl).trans hz)
    | 1, _ => exact key _ rfl rfl ((hf 1 _ rfl).trans hz)
  obtain ⟨s0, h0, x0⟩ := txt 0 (by omega)
  obtain ⟨s1, h1, x1⟩ := txt 1 (by omega)
  have hxs : xs = [(.lit (.string s0.data.toList), []), (.lit (.string s1.data.toList), [])] := by
    apply List.ext_getElem?
    intro i
    match i with
    | 0 => exact x0
    | 1 => exact x1
    | i + 2 => rw [List.getElem?_eq_none (by omega)]; rfl
  refine ⟨(s0, s1), ?_, ?_⟩
  · apply List.ext_getElem?
    intro i
    match i with
    | 0 => exact h0
    | 1 => exact h1
    | i + 2 => rw [List.getElem?_eq_none (by omega)]; rfl
  · rw [hx, hxs]
    have : s1.size = s1.data.toList.length := by rw [Array.length_toList]; rfl
    rw [List.map_cons, List.map_cons, List.map_nil, DataW.weights, Try.underlying32]
    refine DataW.weights_mem_each (j := 1) (t := 9) rfl rfl _ ?_
    rw [this]
    simp only [DataW.weights, List.mem_singleton]
theorem weights_all {P : Program} {e : TypeId} {l : List (DataW H)} {i : Nat} {d : DataW H} {n : Nat} (hd : l[i]? = some d) (hn : n ∈ d.weights P e) : n ∈ DataW.weightsAll P e l := by
  induction l generalizing i with
  | nil => cases hd
  | cons a l ih =>
    simp only [DataW.weightsAll, List.mem_append]
    cases i with
    | zero => cases hd; exact .inl hn
    | succ i => exact .inr (ih (by simpa using hd))
set_option maxRecDepth 100000 in
theorem open_recs {v : Value} {d : DataW H} {p : List MemPlace} {r : Reach} {b0 : Nat} {sp : Nat → Bool} (hv : Value.okWide Try.prog w r b0 27 v) (h : DataW.Trod enc Try.prog w base sp held 27 v d p) :
    ∃ l, RecsAt (whole w) v l ∧ (∀ a ∈ l, a.2.size ∈ d.weights Try.prog 27) := by
  obtain ⟨a0, len, cap, rfl⟩ := okWide_slice Try.underlying27 hv
  obtain ⟨fuel, hf⟩ := h
  rcases open_slice Try.underlying27 hf with ⟨hcs, hx⟩ | ⟨a, len', cap', m, n, D, Pl, hcs, _, hl, hm, hmm, hx, hel⟩
  · simp only [Value.cells, Array.toList] at hcs
    injection hcs with h1 _
    injection h1 with h1 h2 h3
    subst h1 h2 h3
    exact ⟨[], ⟨none, 0, rfl, Nat.le_refl _, fun i a h => by cases h⟩, by simp⟩
  · simp only [Value.cells, Array.toList] at hcs
    injection hcs with h1 _
    injection h1 with h1 h2 h3
    subst h1 h2 h3
    have hm' : len ≤ m := by rw [hmm]; split <;> omega
    by_cases hl0 : len = 0
    · subst hl0
      exact ⟨[], ⟨some a, cap, rfl, Nat.zero_le _, fun i a h => by cases h⟩, by simp⟩
    obtain ⟨b, off, rfl⟩ : ∃ b off, a = ⟨b, off, none⟩ := by
      obtain ⟨cs', g1, g2⟩ := hel 0 (by omega)
      rw [try_cells_rec] at g1
      obtain ⟨b, off, c, e, fr, q1, q2, q3, q4⟩ := cells_at (by omega) g1
      rw [show a.add (0 * 2) = a by simp [Addr.add]] at q1
      exact ⟨b, off, q1⟩
    have one : ∀ i, i < len → ∃ x : ByteArray × ByteArray, (∃ c e fr, whole w b = some (.cells c e fr) ∧ off + i * 2 + 2 ≤ c.size ∧ c.extract (off + i * 2) (off + i * 2 + 2) = #[.string x.1, .string x.2]) ∧ x.2.size ∈ (D i).weights Try.prog 32 := fun i hi => by
      obtain ⟨cs', g1, g2⟩ := hel i (by omega)
      rw [try_cells_rec, add_lit] at g1
      obtain ⟨x, hx, hw⟩ := trod_rec g2
      obtain ⟨b', off', c, e, fr, q1, q2, q3, q4⟩ := cells_at (by omega) g1
      simp only [Addr.mk.injEq] at q1
      obtain ⟨rfl, rfl, _⟩ := q1
      exact ⟨x, ⟨c, e, fr, q2, q3, Array.toList_inj.1 (q4.trans hx)⟩, hw⟩
    obtain ⟨F, hF⟩ := choose_lt one
    have hD : d = .slice ((List.range len).map D) ((List.range (m - len)).map fun j => D (len + j)) := by
      have := congrArg Prod.fst hx
      exact this
    refine ⟨(List.range len).map F, ⟨some ⟨b, off, none⟩, cap, by simp, by simpa using hl, fun i x hx => ?_⟩, fun x hx => ?_⟩
    · rw [List.getElem?_map] at hx
      by_cases hi : i < len
      · rw [List.getElem?_range hi] at hx
        cases hx
        obtain ⟨⟨c, e, fr, q2, q3, q4⟩, _⟩ := hF i hi
        exact ⟨b, off, c, e, fr, rfl, q2, q3, q4⟩
      · rw [List.getElem?_eq_none (by simp; omega)] at hx
        cases hx
    · obtain ⟨i, hi, rfl⟩ := List.mem_map.1 hx
      have hi' := List.mem_range.1 hi
      rw [hD]
      simp only [DataW.weights, Try.underlying27, List.mem_cons, List.mem_append]
      exact .inr (.inl (weights_all (i := i) (by rw [List.getElem?_map, List.getElem?_range hi']; rfl) (hF i hi').2))
end
end Go.Pw
/- The document's records of a ledger. -/
set_option linter.unusedSimpArgs false
set_option linter.unusedVariables false
namespace Go.Pw
open Go Go.Proofs

section
variable {h h0 : PH} {R : AEnd → PH → Prop} {s : Value} {bs : List UInt8}
theorem ob_byte {b : UInt8} {K : Value → PH → Prop} (hw : OB 5 1 h0 bs.length (byteCells bs) h s) (hl : bs.length < 1073741824) (hk : ∀ h3 s3, OB 5 1 h0 (bs ++ [b]).length (byteCells (bs ++ [b])) h3 s3 → K s3 h3) :
    (1 * 1 ≤ 2 ^ 24) ∧ vBuildS 5 1 1 #[.int .u8 0] [(0, .int .u8 b.toNat)] h fun t h1 =>
      (0 < 1) ∧ (0 < 1) ∧ (Array.size #[(.int .u8 0 : Value)] = 1) ∧ vAppend false 5 1 1 s t h1 K := by
  refine ⟨by omega, #[.int .u8 b.toNat], fill_one b, fun q hq => ⟨by omega, by omega, rfl, ?_⟩⟩
  have hobq := hw.up (sub_ins (h := h) (.cells #[.int .u8 b.toNat] 5 (0, 0)) hq)
  refine ob_app (m := 1) (bytes := 1) (news := byteCells [b]) hobq (by simp only [roomBytes]; omega) (by omega) rfl
    (fun K' hk' => .inr (.inr ⟨rfl, q, 0, 1, 1, _, _, _, rfl, ins_eq _ _ _, by simp, fun v hv => byte_one (l := [b]) v (by simpa [byteCells] using hv), by simpa [byteCells] using hk'⟩)) (fun b' off l' cc hx' gg cap' hs' => ?_) fun h3 s3 ob3 => ?_
  · cases hx'
    intro ee
    rcases hw.buf with ⟨h1, _⟩ | ⟨g3, c3, cap3, h1, h2, _⟩
    · rw [h1] at hs'; cases hs'
    · rw [h1] at hs'; cases hs'
      rw [← ee, hq] at h2; cases h2
  · refine hk h3 s3 ?_
    rw [← byteCells_app] at ob3
    simpa using ob3
theorem ob_conv {K : Value → Prop} (hw : OB 5 1 h0 bs.length (byteCells bs) h s) (hk : K (.string ⟨bs.toArray⟩)) : vConvBS s h K := by
  rcases hw.buf with ⟨rfl, hn, _⟩ | ⟨g, c, cap, rfl, hg, _, hcs, hle, htk⟩
  · have : bs = [] := List.eq_nil_of_length_eq_zero hn
    subst this
    exact .inl ⟨rfl, hk⟩
  · exact .inr ⟨g, 0, bs.length, cap, c, _, _, bs, rfl, hg, rfl, by simpa using htk, hk⟩
theorem rnumber_ok {v : Int} (h0 : 0 ≤ v) (h1 : v < 9223372036854775808) (hR : R (.ret (.string ⟨(encN v.toNat).toArray⟩)) h) : ACalls Try.prog 52 #[.int .i64 v] h R := by
  refine ACalls.drop (call52 ?_)
  unfold sh52
  obtain ⟨n, rfl⟩ : ∃ n : Nat, v = n := ⟨v.toNat, by omega⟩
  rw [Int.toNat_natCast] at hR
  have ob0 : OB 5 1 h 0 (byteCells []) h (.slice none 0 0) := ⟨Sub.refl h, rfl, .inl ⟨rfl, rfl, rfl⟩⟩
  have h10 := encN_10 (n := n) (by omega)
  refine lf_intro (fun m s' g => ∃ (k : Nat) (bs' : List UInt8) (s3 : Value), s' = (.int .i64 k, s3) ∧ m = k ∧ k < 9223372036854775808 ∧ OB 5 1 h bs'.length (byteCells bs') g s3 ∧ bs' ++ encN k = encN n) n ⟨n, [], _, rfl, rfl, by omega, ob0, rfl⟩ ?_
  rintro m s' g ⟨k, bs', s3, rfl, rfl, hk, hw', he⟩
  have hlen : bs'.length + (encN m).length = (encN n).length := by rw [← List.length_append, he]
  unfold b52_2
  simp only [vBin_gtr, dIf_b, decide_eq_true_eq, decide_eq_false_iff_not]
  refine ⟨fun hge => ?_, fun hlt => ?_⟩
  · have hb : ¬ m < 128 := by omega
    rw [encN_big hb] at he hlen
    rw [vBin_rem _ _ _ _ (by omega)]
    have e2 : ((m : Int).tmod 128) = ((m % 128 : Nat) : Int) := by rw [Int.tmod_eq_emod_of_nonneg (by omega)]; omega
    rw [e2]
    simp only [vBin_add, vConvI_i]
    rw [w64 (by omega) (by omega), wrap_u8n (n := m % 128 + 128) (by omega) (by omega)]
    refine ob_byte hw' (by simp only [List.length_cons] at hlen; omega) fun h4 s4 hw4 => ?_
    rw [vBin_quo _ _ _ _ (by omega)]
    have e1 : ((m : Int).tdiv 128) = ((m / 128 : Nat) : Int) := by rw [Int.tdiv_eq_ediv_of_nonneg (by omega)]; omega
    rw [e1, w64 (by omega) (by omega)]
    exact ⟨trivial, m / 128, by omega, m / 128, _, s4, rfl, rfl, by omega, hw4, by rw [List.append_assoc]; exact he⟩
  · have hb : m < 128 := by omega
    intro r hr
    simp only [Prod.mk.injEq] at hr
    obtain ⟨r0, r1⟩ := hr
    rw [r0, r1]
    rw [encN_small hb] at he hlen
    simp only [vConvI_i]
    rw [wrap_u8n (n := m) (by omega) rfl]
    refine ob_byte hw' (by simp only [List.length_cons] at hlen; omega) fun h4 s4 hw4 => ?_
    rw [he] at hw4
    exact ob_conv hw4 ⟨h, hw4.sub, hR⟩
theorem rlaid_ok {t : ByteArray} (ht : t.size ≤ 1048576) (hR : R (.ret (.string ⟨(encN t.size ++ t.data.toList).toArray⟩)) h) : ACalls Try.prog 53 #[.string t] h R := by
  refine call53 ?_
  unfold sh53
  simp only [vLenStr_s]
  refine rnumber_ok (v := (t.size : Int)) (by omega) (by omega) ?_
  simp only [AEnd.elim, Int.toNat_natCast]
  have h10 := encN_10 (n := t.size) (by omega)
  have hsz : (⟨(encN t.size).toArray⟩ : ByteArray).size = (encN t.size).length := rfl
  rw [vBin_sadd _ _ _ (by rw [hsz]; omega)]
  have : (⟨(encN t.size).toArray⟩ : ByteArray) ++ t = ⟨(encN t.size ++ t.data.toList).toArray⟩ := by
    apply ByteArray.ext
    rw [ByteArray.data_append]
    simp
  rw [this]
  exact hR
theorem str_add {K : Value → Prop} {l : List Int} {v : Int} (hl : (encL l).length ≤ 1000) (h0 : 0 ≤ v) (h1 : v < 9223372036854775808) : vBin Try.prog .add 9 (.string ⟨(encL l).toArray⟩) (.string ⟨(encN v.toNat).toArray⟩) K ↔ K (.string ⟨(encL (l ++ [v])).toArray⟩) := by
  have h10 := encN_10 (n := v.toNat) (by omega)
  rw [vBin_sadd _ _ _ (by simp only [ByteArray.size, List.size_toArray]; omega)]
  have : (⟨(encL l).toArray⟩ : ByteArray) ++ ⟨(encN v.toNat).toArray⟩ = ⟨(encL (l ++ [v])).toArray⟩ := by
    apply ByteArray.ext
    rw [ByteArray.data_append]
    simp [encL]
  rw [this]

theorem rrecords_ok {q : Nat} {vL : Array Value} {L : Led} (hr : RefAt h q (.agg vL) L) (hi : Inv L) (hR : ∀ g s, OB 32 2 h L.n (recCells L L.n) g s → R (.ret s) g) : ACalls Try.prog 22 #[.agg vL] h R := by
  refine call22 ?_
  unfold sh22
  have two := hr.two
  have hs := hi.small
  have hgd := hi.gd
  have hg0 := hi.g0
  have hcl := hi.cl
  obtain ⟨cap, e0, hcap⟩ := hr.val
  simp only [Value.cells]
  refine vNew_gen fun t1 G h1 s1 h11 => ?_
  have hrG := hr.sub s1
  have l1 : ∀ {g : PH}, Sub G g → ∀ {K : Value → Prop}, vLoad none (.pointer (some ⟨t1, 0 + 1, none⟩)) g K ↔ K (.slice (some ⟨q, 0, none⟩) L.n cap) := fun {g} hs {K} => vLoad_1 (hs _ _ h11) (by rw [e0]; rfl)
  have l0 : ∀ {g : PH}, Sub G g → ∀ {K : Value → Prop}, vLoad none (.pointer (some ⟨t1, 0 + 0, none⟩)) g K ↔ K (.int .i64 L.goods) := fun {g} hs {K} => vLoad_1 (hs _ _ h11) (by rw [e0]; rfl)
  refine lf_intro (fun m s' g => ∃ (i : Nat) (sv : Value), s' = (sv, .int .i64 i) ∧ m = L.n - i ∧ i ≤ L.n ∧ OB 32 2 G i (recCells L i) g sv) L.n ⟨0, .slice none 0 0, rfl, rfl, by omega, Sub.refl G, rfl, .inl ⟨rfl, rfl, rfl⟩⟩ ?_
  rintro m s' g ⟨i, sv, rfl, rfl, hle, hob⟩
  by_cases hin : i < L.n
  · have key : ∀ (kn : Value → (Value × Value) → PH → Prop) Kp x0, (∀ g2 sv2, OB 32 2 G (i + 1) (recCells L (i + 1)) g2 sv2 → kn (ptr t1) (sv2, .int .i64 ((i : Int) + 1)) g2) →
        b22_3 Kp x0 (ptr t1) kn (sv, .int .i64 i) g := by
      intro kn Kp x0 hk
      unfold b22_3
      have hlt : (i : Int) < (L.n : Int) := by omega
      simp only [vFA_p, l1 hob.sub, vLenS_s, vBin_lss, hlt, decide_true, dIf_b, vIxS_p]
      refine ⟨fun _ => ⟨by omega, by omega, ?_⟩, fun e => absurd e (by simp)⟩
      rw [show 0 + (i : Int).toNat * 12 = i * 12 by omega, (hrG.sub hob.sub).ldA hin]
      refine vNew_gen fun c E0 hc sc hcc => ?_
      refine vStore_to (cs := (rOf L i).cells) hcc (by rfl) (by rfl) (RAcc.one _) ?_
      have hEc : (ins E0 c (.cells (rOf L i).cells 83 (0, 0))) c = some (.cells (rOf L i).cells 83 (0, 0)) := ins_eq _ _ _
      have hsE : Sub g (ins E0 c (.cells (rOf L i).cells 83 (0, 0))) := Sub.put sc hc
      revert hEc hsE
      generalize (ins E0 c (.cells (rOf L i).cells 83 (0, 0))) = E
      intro hEc hsE
      have hGE : Sub G E := hob.sub.trans hsE
      have b10 := hs.num i 10 hin (by omega)
      have b0 := hs.num i 0 hin (by omega)
      have b1 := hs.num i 1 hin (by omega)
      have x10 : ∀ {K : Value → Prop}, vLoad none (.pointer (some ⟨c, 0 + 10, none⟩)) E K ↔ K (.int .i64 (L.f i 10)) := fun {K} => vLoad_1 hEc rfl
      have x0' : ∀ {K : Value → Prop}, vLoad none (.pointer (some ⟨c, 0 + 0 + (0 : Int).toNat * 1, none⟩)) E K ↔ K (.int .i64 (L.f i 0 - L.f i 1)) := fun {K} => vLoad_1 hEc rfl
      have x5 : ∀ {K : Value → Prop}, vLoad none (.pointer (some ⟨c, 0 + 5 + (0 : Int).toNat * 1, none⟩)) E K ↔ K (.int .i64 (L.f i 1)) := fun {K} => vLoad_1 hEc rfl
      have x11 : ∀ {K : Value → Prop}, vLoad none (.pointer (some ⟨c, 0 + 11, none⟩)) E K ↔ K (.string (L.r i)) := fun {K} => vLoad_1 hEc rfl
      have i0 : (0 : Int) ≤ 0 := by omega
      have i5 : (0 : Int) < ((5 : Nat) : Int) := by omega
      simp only [vFA_p, x10, vIxA_p, i0, i5, true_and, x0', x5, vBin_add]
      rw [show L.f i 0 - L.f i 1 + L.f i 1 = L.f i 0 by omega, w64 (by omega) (by omega)]
      refine rnumber_ok b10.1 (by omega) ?_
      simp only [AEnd.elim, x0', x5, true_and]
      refine rnumber_ok b0.1 (by omega) ?_
      simp only [AEnd.elim, x5, true_and]
      have z0 : (⟨(encN (L.f i 10).toNat).toArray⟩ : ByteArray) = ⟨(encL [L.f i 10]).toArray⟩ := by simp [encL]
      have le : ∀ l : List Int, (∀ x ∈ l, 0 ≤ x ∧ x ≤ 1099511627776) → l.length ≤ 20 → (encL l).length ≤ 1000 := fun l hl h20 => by
        have := encL_len hl; omega
      rw [z0, str_add (le _ (by simp; omega) (by simp)) b0.1 (by omega)]
      refine rnumber_ok b1.1 (by omega) ?_
      simp only [AEnd.elim]
      rw [str_add (le _ (by simp; omega) (by simp)) b1.1 (by omega)]
      have bg : ∀ o, o = 2 ∨ o = 6 → ∀ (j : Nat), (j : Int) < L.goods → 0 ≤ L.f i (o + j) ∧ L.f i (o + j) ≤ 1099511627776 := fun o ho j hj => hs.num i (o + j) hin (by omega)
      have m2 : ∀ (o : Nat), o = 2 ∨ o = 6 → ∀ j : Nat, (j : Int) ≤ L.goods → ∀ x ∈ (List.range j).map (fun j => L.f i (o + j)), 0 ≤ x ∧ x ≤ 1099511627776 := fun o ho j hj x hx => by
        obtain ⟨y, hy, rfl⟩ := List.mem_map.1 hx
        have := List.mem_range.1 hy
        exact bg o ho y (by omega)
      have hd : ∀ x ∈ [L.f i 10, L.f i 0, L.f i 1], 0 ≤ x ∧ x ≤ 1099511627776 := by simp; omega
      have hG : (L.goods.toNat : Int) = L.goods := by omega
      refine lf_intro (fun m s' g' => ∃ j : Nat, s' = (.string ⟨(encL ([L.f i 10, L.f i 0, L.f i 1] ++ (List.range j).map (fun j => L.f i (2 + j)))).toArray⟩, .int .i64 ((j : Int) + 1)) ∧ m = L.goods.toNat - j ∧ (j : Int) ≤ L.goods ∧ g' = E) L.goods.toNat ⟨0, rfl, rfl, by omega, rfl⟩ ?_
      rintro m s' g' ⟨j, rfl, rfl, hj, rfl⟩
      by_cases hjg : (j : Int) < L.goods
      · have key2 : ∀ (kn : (Value × Value × Value × Value) → (Value × Value) → PH → Prop) Kp x2, kn (ptr t1, sv, .int .i64 i, ptr c) (.string ⟨(encL ([L.f i 10, L.f i 0, L.f i 1] ++ (List.range (j + 1)).map (fun j => L.f i (2 + j)))).toArray⟩, .int .i64 ((j : Int) + 1 + 1)) g' →
            b22_8 Kp x2 (ptr t1, sv, .int .i64 i, ptr c) kn (.string ⟨(encL ([L.f i 10, L.f i 0, L.f i 1] ++ (List.range j).map (fun j => L.f i (2 + j)))).toArray⟩, .int .i64 ((j : Int) + 1)) g' := by
          intro kn Kp x2 hkn
          unfold b22_8
          have hle2 : (j : Int) + 1 ≤ L.goods := by omega
          have bF := rOf_bd hs (p := j + 1) (by omega) hin
          have bA := rOf_all L (j + 1) i
          have bj := bg 2 (.inl rfl) j hjg
          have aj : allP L (j + 1) i = L.f i (2 + j) := by simp only [allP]; rw [if_neg (by omega), show 1 + (j + 1) = 2 + j by omega]
          simp only [vFA_p, l0 hGE, vBin_leq, hle2, decide_true, dIf_b, vIxA_p]
          refine ⟨fun _ => ⟨by omega, by omega, ?_⟩, fun e => absurd e (by simp)⟩
          rw [show 0 + 0 + ((j : Int) + 1).toNat * 1 = j + 1 by omega, vLoad_1 hEc ((rOf L i).at_free (p := j + 1) (by omega))]
          refine ⟨by omega, by omega, ?_⟩
          rw [show 0 + 5 + ((j : Int) + 1).toNat * 1 = 5 + (j + 1) by omega, vLoad_1 hEc ((rOf L i).at_kept (p := j + 1) (by omega))]
          simp only [vBin_add]
          rw [bA, aj, w64 (by omega) (by omega)]
          refine rnumber_ok bj.1 (by omega) ?_
          simp only [AEnd.elim]
          rw [str_add (le _ (fun x hx => by
            rcases List.mem_append.1 hx with hx | hx
            · exact hd x hx
            · exact m2 2 (.inl rfl) j (by omega) x hx) (by simp; omega)) bj.1 (by omega)]
          try simp only [vBin_add]
          rw [w64 (by omega) (by omega)]
          rw [List.range_succ, List.map_append, ← List.append_assoc] at hkn
          exact hkn
        exact key2 _ _ _ ⟨rfl, L.goods.toNat - (j + 1), by omega, j + 1, by simp, rfl, by omega, rfl⟩
      · have hje : j = L.goods.toNat := by omega
        subst hje
        unfold b22_8
        have hnl : ¬ ((L.goods.toNat : Int) + 1 ≤ L.goods) := by omega
        simp only [vFA_p, l0 hGE, vBin_leq, hnl, decide_false, dIf_b]
        refine ⟨fun e => absurd e (by simp), fun _ => ?_⟩
        intro r hr'
        simp only [Prod.mk.injEq] at hr'
        obtain ⟨r1, r3, r4, r5, r6⟩ := hr'
        rw [r1, r3, r4, r5, r6]
        refine lf_intro (fun m s' g2 => ∃ j : Nat, s' = (.string ⟨(encL ([L.f i 10, L.f i 0, L.f i 1] ++ (List.range L.goods.toNat).map (fun j => L.f i (2 + j)) ++ (List.range j).map (fun j => L.f i (6 + j)))).toArray⟩, .int .i64 ((j : Int) + 1)) ∧ m = L.goods.toNat - j ∧ (j : Int) ≤ L.goods ∧ g2 = g') L.goods.toNat ⟨0, by simp, rfl, by omega, rfl⟩ ?_
        rintro m s' g2 ⟨j, rfl, rfl, hj, rfl⟩
        by_cases hjg : (j : Int) < L.goods
        · have key2 : ∀ (kn : (Value × Value × Value × Value) → (Value × Value) → PH → Prop) Kp x2, kn (ptr t1, sv, .int .i64 i, ptr c) (.string ⟨(encL ([L.f i 10, L.f i 0, L.f i 1] ++ (List.range L.goods.toNat).map (fun j => L.f i (2 + j)) ++ (List.range (j + 1)).map (fun j => L.f i (6 + j)))).toArray⟩, .int .i64 ((j : Int) + 1 + 1)) g2 →
              b22_12 Kp x2 (ptr t1, sv, .int .i64 i, ptr c) kn (.string ⟨(encL ([L.f i 10, L.f i 0, L.f i 1] ++ (List.range L.goods.toNat).map (fun j => L.f i (2 + j)) ++ (List.range j).map (fun j => L.f i (6 + j)))).toArray⟩, .int .i64 ((j : Int) + 1)) g2 := by
            intro kn Kp x2 hkn
            unfold b22_12
            have hle2 : (j : Int) + 1 ≤ L.goods := by omega
            have bj := bg 6 (.inr rfl) j hjg
            have aj : (rOf L i).kept (j + 1) = L.f i (6 + j) := by simp only [rOf]; rw [if_neg (by omega), show 5 + (j + 1) = 6 + j by omega]
            simp only [vFA_p, l0 hGE, vBin_leq, hle2, decide_true, dIf_b, vIxA_p]
            refine ⟨fun _ => ⟨by omega, by omega, ?_⟩, fun e => absurd e (by simp)⟩
            rw [show 0 + 5 + ((j : Int) + 1).toNat * 1 = 5 + (j + 1) by omega, vLoad_1 hEc ((rOf L i).at_kept (p := j + 1) (by omega)), aj]
            refine rnumber_ok bj.1 (by omega) ?_
            simp only [AEnd.elim]
            rw [str_add (le _ (fun x hx => by
              rcases List.mem_append.1 hx with hx | hx
              · rcases List.mem_append.1 hx with hx | hx
                · exact hd x hx
                · exact m2 2 (.inl rfl) _ (by omega) x hx
              · exact m2 6 (.inr rfl) j (by omega) x hx) (by simp; omega)) bj.1 (by omega)]
            simp only [vBin_add]
            rw [w64 (by omega) (by omega)]
            rw [List.range_succ (n := j), List.map_append, ← List.append_assoc] at hkn
            exact hkn
          exact key2 _ _ _ ⟨rfl, L.goods.toNat - (j + 1), by omega, j + 1, by simp, rfl, by omega, rfl⟩
        · have hje : j = L.goods.toNat := by omega
          subst hje
          unfold b22_12
          have hnl : ¬ ((L.goods.toNat : Int) + 1 ≤ L.goods) := by omega
          simp only [vFA_p, l0 hGE, vBin_leq, hnl, decide_false, dIf_b]
          refine ⟨fun e => absurd e (by simp), fun _ => ?_⟩
          intro r2 hr2
          simp only [Prod.mk.injEq] at hr2
          obtain ⟨q1, q3, q4, q5, q6⟩ := hr2
          rw [q1, q3, q4, q5, q6]
          simp only [vFA_p, x11]
          have hrep := hi.rep i hin
          refine rkey_ok (by omega) ?_
          simp only [AEnd.elim, x11, true_and]
          refine rlaid_ok (by omega) ?_
          simp only [AEnd.elim]
          have hN : [L.f i 10, L.f i 0, L.f i 1] ++ (List.range L.goods.toNat).map (fun j => L.f i (2 + j)) ++ (List.range L.goods.toNat).map (fun j => L.f i (6 + j)) = numsOf L i := rfl
          rw [hN]
          have hnl := le (numsOf L i) (numsOf_bd hi hin) (by rw [numsOf_len]; omega)
          have h10 := encN_10 (n := (L.r i).size) (by omega)
          have hzz : (L.r i).data.toList.length = (L.r i).size := by rw [Array.length_toList]; rfl
          rw [vBin_sadd _ _ _ (by simp only [ByteArray.size, List.size_toArray, List.length_append]; have := hzz; simp only [ByteArray.size] at *; omega)]
          have e3 : (⟨(encL (numsOf L i)).toArray⟩ : ByteArray) ++ ⟨(encN (L.r i).size ++ (L.r i).data.toList).toArray⟩ = ⟨(payB L i).toArray⟩ := by
            apply ByteArray.ext
            rw [ByteArray.data_append, payB]
            simp
          rw [e3]
          refine ⟨#[.string (keyB i), .string ⟨(payB L i).toArray⟩], rfl, by omega, _, fill_rec _ _, fun q' hq' => ⟨by omega, by omega, rfl, ?_⟩⟩
          have hsG : Sub g (ins g2 q' (.cells #[.string (keyB i), .string ⟨(payB L i).toArray⟩] 32 (0, 0))) := hsE.trans (sub_ins _ hq')
          refine ob_app (m := 1) (news := [.string (keyB i), .string ⟨(payB L i).toArray⟩]) (hob.up hsG) (by simp only [roomBytes]; omega) (by omega) rfl
            (fun K' hk' => .inr (.inr ⟨rfl, q', 0, 1, 1, _, _, _, rfl, ins_eq _ _ _, by simp, fun v hv => ?_, hk'⟩)) (fun b' off l cc' hx gg' cap hs => ?_) fun h6 s6 ob3 => ?_
          · have : v = .string (keyB i) ∨ v = .string ⟨(payB L i).toArray⟩ := by simpa using hv
            rcases this with rfl | rfl <;> rfl
          · cases hx
            intro e
            rcases hob.buf with ⟨h1, _⟩ | ⟨g3, c3, cap3, h1, h2, _⟩
            · rw [h1] at hs; cases hs
            · rw [h1] at hs; cases hs
              have := hsE _ _ h2
              rw [← e, hq'] at this; cases this
          · simp only [vBin_add]
            rw [w64 (by omega) (by omega)]
            rw [← recCells_succ] at ob3
            exact hk h6 s6 ob3
    exact key _ _ _ fun g2 sv2 ob2 => ⟨rfl, L.n - (i + 1), by omega, i + 1, sv2, rfl, rfl, by omega, ob2⟩
  · have e : i = L.n := by omega
    subst e
    unfold b22_3
    have hnl : ¬ ((L.n : Int) < (L.n : Int)) := by omega
    simp only [vFA_p, l1 hob.sub, vLenS_s, vBin_lss, hnl, decide_false, dIf_b]
    refine ⟨fun e => absurd e (by simp), fun _ => ?_⟩
    intro r hr'
    rw [show r 3 = _ from hr']
    exact hR _ _ (hob.base s1)
end
end Go.Pw
/- What was written is read again: a ledger of its own records is the ledger. (Plain; no program in sight.) -/
set_option linter.unusedSimpArgs false
set_option linter.unusedVariables false
namespace Go.Pw
open Go Go.Proofs

theorem get_drop {s : List UInt8} {at_ : Nat} {a : UInt8} {l : List UInt8} (h : s.drop at_ = a :: l) : s[at_]? = some a ∧ s.drop (at_ + 1) = l := by
  constructor
  · have : (s.drop at_)[0]? = some a := by rw [h]; rfl
    rw [List.getElem?_drop] at this
    exact this
  · rw [← List.drop_drop, h]; rfl
theorem rdN_of {s : List UInt8} : ∀ (fuel i n at_ m : Nat) (rest : List UInt8), fuel + i = 8 → s.drop at_ = encN m ++ rest → (0 < i → 0 < m) → n + m * 128 ^ i ≤ 9007199254740992 → rdN s fuel i n at_ = .ok (n + m * 128 ^ i) (at_ + (encN m).length)
  | 0, i, n, at_, m, rest, hf, hd, hp, hb => by
    have hi : i = 8 := by omega
    subst hi
    have := hp (by omega)
    have : 1 * 128 ^ 8 ≤ m * 128 ^ 8 := Nat.mul_le_mul_right _ this
    omega
  | fuel + 1, i, n, at_, m, rest, hf, hd, hp, hb => by
    rw [rdN]
    by_cases hm : m < 128
    · rw [encN_small hm] at hd ⊢
      obtain ⟨g1, g2⟩ := get_drop hd
      have hc : (UInt8.ofNat m).toNat = m := by rw [UInt8.toNat_ofNat']; omega
      rw [g1]
      simp only
      rw [hc, if_neg (by omega), show m % 128 = m by omega, if_neg]
      · rfl
      · rintro (⟨h1, h2⟩ | h3)
        · have := hp h2; omega
        · omega
    · rw [encN_big hm] at hd ⊢
      obtain ⟨g1, g2⟩ := get_drop hd
      have hc : (UInt8.ofNat (m % 128 + 128)).toNat = m % 128 + 128 := by rw [UInt8.toNat_ofNat']; omega
      have hi7 : i ≠ 7 := fun e => by
        subst e
        have : 128 * 128 ^ 7 ≤ m * 128 ^ 7 := Nat.mul_le_mul_right _ (by omega)
        omega
      rw [g1]
      simp only
      rw [hc, if_pos (by omega), if_neg hi7, show (m % 128 + 128) % 128 = m % 128 by omega]
      have e1 : n + m % 128 * 128 ^ i + m / 128 * 128 ^ (i + 1) = n + m * 128 ^ i := by
        rw [Nat.pow_succ, Nat.add_assoc]
        congr 1
        rw [Nat.mul_comm (128 ^ i) 128, ← Nat.mul_assoc, ← Nat.add_mul]
        congr 1
        omega
      rw [rdN_of fuel (i + 1) _ (at_ + 1) (m / 128) rest (by omega) g2 (fun _ => by omega) (by omega), e1]
      simp only [List.length_cons]
      rw [show at_ + 1 + (encN (m / 128)).length = at_ + ((encN (m / 128)).length + 1) by omega]
theorem rdNum_of {s : List UInt8} {at_ m : Nat} {rest : List UInt8} (hd : s.drop at_ = encN m ++ rest) (hb : m ≤ 9007199254740992) : rdNum s at_ = .ok m (at_ + (encN m).length) := by
  have := rdN_of 8 0 0 at_ m rest rfl hd (fun h => absurd h (by omega)) (by omega)
  simpa [rdNum] using this
theorem rNums_of {s : ByteArray} : ∀ (l : List Nat) (a : Nat) (rest : List UInt8), s.data.toList.drop a = l.flatMap encN ++ rest → (∀ n ∈ l, n ≤ 1099511627776) → rNums s l.length a = some (l, a + (l.flatMap encN).length)
  | [], a, rest, _, _ => rfl
  | n :: l, a, rest, hd, hb => by
    simp only [List.length_cons]
    rw [rNums]
    rw [List.flatMap_cons, List.append_assoc] at hd
    have hn := hb n (by simp)
    rw [rdNum_of hd (by omega)]
    simp only
    rw [if_neg (by omega)]
    have hd2 : s.data.toList.drop (a + (encN n).length) = l.flatMap encN ++ rest := by
      rw [← List.drop_drop, hd, List.drop_left]
    rw [rNums_of l _ rest hd2 (fun x hx => hb x (by simp [hx]))]
    simp only [List.flatMap_cons, List.length_append]
    rw [Nat.add_assoc]
theorem rdTxt_of {s t : ByteArray} {e : Nat} (hd : s.data.toList.drop e = encN t.size ++ t.data.toList) (hb : t.size ≤ 256) (he : e ≤ s.size) : rdTxt s e = .ok t s.size := by
  unfold rdTxt
  rw [rdNum_of hd (by omega)]
  simp only
  have hlen : s.size - e = (encN t.size).length + t.size := by
    have := congrArg List.length hd
    rw [List.length_drop, List.length_append, Array.length_toList, Array.length_toList] at this
    exact this
  rw [if_neg (by omega), if_neg (by omega)]
  have : s.extract (e + (encN t.size).length) (e + (encN t.size).length + t.size) = t := by
    apply ByteArray.ext
    apply Array.toList_inj.1
    rw [ByteArray.data_extract, Array.toList_extract, List.extract_eq_take_drop, ← List.drop_drop, hd, List.drop_left, show e + (encN t.size).length + t.size - (e + (encN t.size).length) = t.size by omega]
    apply List.take_of_length_le
    rw [Array.length_toList]; exact Nat.le_refl _
  rw [this, show e + (encN t.size).length + t.size = s.size by omega]

/-- Who has no stamp has no reply. -/
def Mute (L : Led) : Prop := ∀ i, i < L.n → L.f i 10 = 0 → L.r i = ⟨#[]⟩
theorem mute_on {L : Led} {w : Int} {F : Nat → Int × Led} (h : Mute L) (hF : ∀ i, Mute (F i).2) : Mute (onC L w F).2 := by
  unfold onC; split
  · exact hF _
  · exact h
theorem Mute.set {L : Led} (h : Mute L) {i c : Nat} {v : Int} (hc : c ≠ 10) : Mute (L.set i c v) := fun a ha hz => by
  rw [set_ne (by omega)] at hz
  exact h a ha hz
theorem mute_done {L : Led} (h : Mute L) (hg4 : L.goods ≤ 4) (a : ActV) : Mute (doneL L a).2 := by
  have gl : ∀ {g n : Int}, partE L g n = 0 → g.toNat < 4 := fun hp => by have := partE_n hp; omega
  have hp1 : ∀ {g n : Int}, ¬ partE L g n ≠ 0 → partE L g n = 0 := fun h => Classical.not_not.1 h
  unfold doneL
  repeat' split
  · refine mute_on h fun i => ?_
    unfold payL; repeat' split
    all_goals first | exact h | exact h.set (by omega)
  · refine mute_on h fun i => ?_
    unfold takeL; repeat' split
    all_goals first | exact h | exact h.set (by omega)
  · refine mute_on h fun i => ?_
    unfold storeL; repeat' split
    all_goals first | exact h | (rename_i hp _; have := gl (hp1 hp); exact h.set (by omega))
  · refine mute_on h fun i => ?_
    unfold fetchL; repeat' split
    all_goals first | exact h | (rename_i hp _; have := gl (hp1 hp); exact h.set (by omega))
  · refine mute_on h fun i => ?_
    unfold holdL; repeat' split
    all_goals first | exact h | exact h.set (by omega)
  · refine mute_on h fun i => ?_
    unfold freeL; repeat' split
    all_goals first | exact h | exact h.set (by omega)
  · refine mute_on h fun i => ?_
    unfold lockL; repeat' split
    all_goals first | exact h | (rename_i hp _; have := gl (hp1 hp); exact h.set (by omega))
  · refine mute_on h fun i => ?_
    unfold unlockL; repeat' split
    all_goals first | exact h | (rename_i hp _; have := gl (hp1 hp); exact h.set (by omega))
  · refine mute_on h fun i => mute_on h fun j => ?_
    unfold moveL moveTo; repeat' split
    all_goals first | exact h | exact ((h.set (by omega)).set (by omega)).set (by omega)
  · refine mute_on h fun i => mute_on h fun j => ?_
    unfold handL handTo; repeat' split
    all_goals first | exact h | (rename_i hp _; have := gl (hp1 hp); exact ((h.set (by omega)).set (by omega)).set (by omega))
  · refine mute_on h fun i => ?_
    unfold markL; repeat' split
    · exact h
    · exact h
    · rename_i h1 _
      intro b hb hz
      simp only [Led.setR, Led.set] at hz ⊢
      by_cases e : b = i
      · subst e; simp at hz; omega
      · rw [if_neg e]
        rw [if_neg (by omega)] at hz
        exact h b hb hz
theorem mute_new {c g : Int} : Mute (newLed c g) := fun _ _ _ => rfl

theorem flat_enc (l : List Int) : encL l = (l.map Int.toNat).flatMap encN := by unfold encL; rw [List.flatMap_map]
theorem numsOf_range {L : Led} {g : Nat} (hg : L.goods = (g : Int)) (i : Nat) : (numsOf L i).length = 3 + 2 * g ∧ (∀ j, j < 3 → (numsOf L i)[j]? = some (if j = 0 then L.f i 10 else L.f i (j - 1))) ∧ (∀ j, j < g → (numsOf L i)[3 + j]? = some (L.f i (2 + j))) ∧ ∀ j, j < g → (numsOf L i)[3 + g + j]? = some (L.f i (6 + j)) := by
  have hgn : L.goods.toNat = g := by omega
  refine ⟨by rw [numsOf_len, hgn]; omega, fun j hj => ?_, fun j hj => ?_, fun j hj => ?_⟩
  · match j, hj with
    | 0, _ => rfl
    | 1, _ => rfl
    | 2, _ => rfl
  · unfold numsOf
    rw [hgn, List.getElem?_append_left (by simp; omega), List.getElem?_append_right (by simp), List.getElem?_map]
    rw [show 3 + j - [L.f i 10, L.f i 0, L.f i 1].length = j by simp, List.getElem?_range hj]
    rfl
  · unfold numsOf
    rw [hgn, List.getElem?_append_right (by simp; omega), List.getElem?_map]
    rw [show 3 + g + j - ([L.f i 10, L.f i 0, L.f i 1] ++ (List.range g).map (fun j => L.f i (2 + j))).length = j by simp; omega, List.getElem?_range hj]
    rfl
theorem rRead_pay {L : Led} {g : Nat} (hi : Inv L) (hm : Mute L) (hg : L.goods = (g : Int)) {i : Nat} (hin : i < L.n) : rRead ⟨(payB L i).toArray⟩ g = some ((numsOf L i).map Int.toNat, L.r i) := by
  obtain ⟨nl, n0, n1, n2⟩ := numsOf_range hg i
  have hg4 := hi.gd
  have hbd := numsOf_bd hi hin
  have hrep := hi.rep i hin
  unfold rRead
  have hd : (⟨(payB L i).toArray⟩ : ByteArray).data.toList.drop 0 = ((numsOf L i).map Int.toNat).flatMap encN ++ (encN (L.r i).size ++ (L.r i).data.toList) := by
    rw [List.drop_zero, ← flat_enc]; rfl
  have h1 := rNums_of (s := ⟨(payB L i).toArray⟩) ((numsOf L i).map Int.toNat) 0 _ hd (fun n hn => by
    obtain ⟨x, hx, rfl⟩ := List.mem_map.1 hn
    have := hbd x hx
    omega)
  rw [List.length_map, nl] at h1
  rw [h1]
  simp only [Nat.zero_add]
  have hd2 : (⟨(payB L i).toArray⟩ : ByteArray).data.toList.drop (((numsOf L i).map Int.toNat).flatMap encN).length = encN (L.r i).size ++ (L.r i).data.toList := by
    rw [List.drop_zero] at hd
    rw [hd, List.drop_left]
  have hle : (((numsOf L i).map Int.toNat).flatMap encN).length ≤ (⟨(payB L i).toArray⟩ : ByteArray).size := by
    show _ ≤ (payB L i).toArray.size
    rw [List.size_toArray]
    unfold payB
    rw [List.length_append, flat_enc]
    omega
  rw [rdTxt_of hd2 hrep hle]
  simp only
  have gd : ∀ j v, (numsOf L i)[j]? = some v → ((numsOf L i).map Int.toNat).getD j 0 = v.toNat := fun j v hv => by
    rw [List.getD_eq_getElem?_getD, List.getElem?_map, hv]; rfl
  rw [if_pos]
  refine ⟨trivial, hrep, fun hz => hm i hin ?_, fun p hp => ?_⟩
  · rw [gd 0 _ (n0 0 (by omega))] at hz
    have := hi.pos i 10 hin (by omega)
    simp at hz
    omega
  · unfold keptN allN
    by_cases hp0 : p = 0
    · subst hp0
      rw [if_pos rfl, if_pos rfl, gd 1 _ (n0 1 (by omega)), gd 2 _ (n0 2 (by omega))]
      have := hi.held i hin
      simp
      omega
    · obtain ⟨j, rfl⟩ : ∃ j, p = j + 1 := ⟨p - 1, by omega⟩
      rw [if_neg hp0, if_neg hp0, show 2 + (j + 1) = 3 + j by omega, show 2 + g + (j + 1) = 3 + g + j by omega, gd _ _ (n1 j (by omega)), gd _ _ (n2 j (by omega))]
      have := hi.lock i j hin (by omega)
      omega
theorem ofL_recs {L : Led} (hi : Inv L) (hm : Mute L) (hz : Zer L) : ∀ k, k ≤ L.n → ∃ M, ofL L.n L.goods (recsOf L L.n) k = some M ∧ ∀ i, i < k → (∀ j, j < 11 → M.f i j = L.f i j) ∧ M.r i = L.r i
  | 0, _ => ⟨_, rfl, fun i hi => absurd hi (by omega)⟩
  | k + 1, hk => by
    obtain ⟨M, hM, hall⟩ := ofL_recs hi hm hz k (by omega)
    have hg4 := hi.gd
    have hg0 := hi.g0
    obtain ⟨g, hg⟩ : ∃ g : Nat, L.goods = g := ⟨L.goods.toNat, by omega⟩
    obtain ⟨hMn, hMg⟩ := ofL_gn k M hM
    have hbl := (ofL_blank (by omega) hg4 k M hM).1 k (by omega)
    have hrr := rRead_pay hi hm hg (i := k) (by omega)
    obtain ⟨m1, _⟩ := rd_some (L := M) (k := k) (by omega) hbl.1 hrr
    have hget : (recsOf L L.n)[k]? = some (keyB k, ⟨(payB L k).toArray⟩) := by
      unfold recsOf
      rw [List.getElem?_map, List.getElem?_range (by omega)]; rfl
    refine ⟨(ldK M k ⟨(payB L k).toArray⟩ g g).setR k (L.r k), ?_, fun i hik => ?_⟩
    · rw [ofL, hM, hget]
      simp only [if_true]
      rw [hg, Int.toNat_natCast, m1]
    · obtain ⟨nl, n0, n1, n2⟩ := numsOf_range hg k
      have hvn := (rRead_enc hrr).2
      have vat : ∀ j v, j < 3 + 2 * g → (numsOf L k)[j]? = some v → vN ⟨(payB L k).toArray⟩ j = v.toNat := fun j v hj hv => by
        have h1 : ((numsOf L k).map Int.toNat)[j]? = some v.toNat := by rw [List.getElem?_map, hv]; rfl
        rw [hvn, List.getElem?_map, List.getElem?_range hj] at h1
        simpa using h1
      by_cases e : i = k
      · subst e
        refine ⟨fun j hj => ?_, by simp [Led.setR]⟩
        show (ldK M i _ g g).f i j = _
        rw [ldK_f M i _ g (by omega) g (by omega), if_pos rfl]
        have p := fun j hj => hi.pos i j (by omega) hj
        by_cases j10 : j = 10
        · subst j10
          rw [if_pos rfl, vat 0 _ (by omega) (n0 0 (by omega))]
          have := p 10 (by omega)
          simp; omega
        rw [if_neg j10]
        by_cases j0 : j = 0
        · subst j0
          rw [if_pos rfl, vat 1 _ (by omega) (n0 1 (by omega))]
          have := p 0 (by omega)
          simp; omega
        rw [if_neg j0]
        by_cases j1 : j = 1
        · subst j1
          rw [if_pos rfl, vat 2 _ (by omega) (n0 2 (by omega))]
          have := p 1 (by omega)
          simp; omega
        rw [if_neg j1]
        by_cases jg : 2 ≤ j ∧ j < 2 + g
        · rw [if_pos jg]
          obtain ⟨x, rfl⟩ : ∃ x, j = 2 + x := ⟨j - 2, by omega⟩
          rw [show 1 + (2 + x) = 3 + x by omega, vat (3 + x) _ (by omega) (n1 x (by omega))]
          have := p (2 + x) (by omega)
          omega
        rw [if_neg jg]
        by_cases jk : 6 ≤ j ∧ j < 6 + g
        · rw [if_pos jk]
          obtain ⟨x, rfl⟩ : ∃ x, j = 6 + x := ⟨j - 6, by omega⟩
          rw [show 3 + g + (6 + x - 6) = 3 + g + x by omega, vat (3 + g + x) _ (by omega) (n2 x (by omega))]
          have := p (6 + x) (by omega)
          omega
        rw [if_neg jk, hbl.1 j]
        rcases Nat.lt_or_ge j 6 with j6 | j6
        · obtain ⟨x, rfl⟩ : ∃ x, j = 2 + x := ⟨j - 2, by omega⟩
          exact (hz i x (by omega) (by omega) (by omega)).symm
        · obtain ⟨x, rfl⟩ : ∃ x, j = 6 + x := ⟨j - 6, by omega⟩
          have h1 := hz i x (by omega) (by omega) (by omega)
          have h2 := hi.lock i x (by omega) (by omega)
          have h3 := p (6 + x) (by omega)
          omega
      · obtain ⟨a1, a2⟩ := hall i (by omega)
        refine ⟨fun j hj => ?_, ?_⟩
        · show (ldK M k _ g g).f i j = _
          rw [ldK_f M k _ g (by omega) g (by omega), if_neg e]
          exact a1 j hj
        · simp only [Led.setR, if_neg e, ldK_r]
          exact a2
theorem ofR_recs {L : Led} (hi : Inv L) (hm : Mute L) (hz : Zer L) : ∃ M, ofR L.n L.goods (recsOf L L.n) = some M ∧ Like M L := by
  obtain ⟨M, hM, hall⟩ := ofL_recs hi hm hz L.n (Nat.le_refl _)
  obtain ⟨hMn, hMg⟩ := ofL_gn L.n M hM
  rw [Int.toNat_natCast] at hMn
  have hl : Like M L := ⟨hMg.symm, hMn.symm, fun i j hi hj => ((hall i (by omega)).1 j hj).symm, fun i hi => (hall i (by omega)).2.symm⟩
  refine ⟨M, ?_, hl⟩
  unfold ofR
  rw [if_pos (by simp [recsOf]), Int.toNat_natCast, hM]
  simp only
  rw [if_pos]
  refine ⟨?_, fun j hj => ?_⟩
  · have : cashOf M = cashOf L := by
      unfold cashOf; rw [hMn]
      exact sumN_congr _ fun i hi => (hall i hi).1 0 (by omega)
    rw [this]; exact hi.cash
  · have : goodOf M j = goodOf L j := by
      unfold goodOf; rw [hMn]
      exact sumN_congr _ fun i hi => (hall i hi).1 (2 + j) (by omega)
    rw [this]; exact hi.good j hj
theorem ledCells_like {L M : Led} (hl : Like L M) : ledCells M = ledCells L := by
  apply Array.ext_getElem?
  intro k
  rcases Nat.lt_or_ge k (L.n * 12) with hk | hk
  · rw [ledCells_at M k (by rw [hl.n]; exact hk), ledCells_at L k hk]
    unfold ledCell
    have hi : k / 12 < L.n := by omega
    by_cases h11 : k % 12 = 11
    · rw [if_pos h11, if_pos h11, hl.r _ hi]
    · rw [if_neg h11, if_neg h11, hl.f _ _ hi (by omega)]
  · rw [Array.getElem?_eq_none (by rw [ledCells_size, hl.n]; exact hk), Array.getElem?_eq_none (by rw [ledCells_size]; exact hk)]
theorem LedAt.like {h : PH} {x b : Nat} {L M : Led} (hL : LedAt h x b L) (hl : Like L M) : LedAt h x b M :=
  ⟨by rw [hl.g, hl.n]; exact hL.hx, by rw [ledCells_like hl]; exact hL.hb, hL.ne⟩
end Go.Pw
/- LedgerRecords: the walk. -/
set_option linter.unusedSimpArgs false
set_option linter.unusedVariables false
namespace Go.Pw
open Go Go.Proofs

section
variable {h : PH} {R : AEnd → PH → Prop}
theorem begun_nil (hR : ∀ g x b, Sub h g → LedAt g x b (newLed 3 2) → h x = none → h b = none → R (.ret (ptr x)) g) : ACalls Try.prog 9 #[.slice none 0 0] h R := by
  refine call9 ?_
  unfold sh9
  refine new_ok (by omega) (by omega) (by omega) (by omega) fun x b hb hx hne => ?_
  have hL0 : LedAt (ins (ins h b (.cells (ledCells (newLed 3 2)) 66 (0, 0))) x (.cells #[.int .i64 2, .slice (some ⟨b, 0, none⟩) (3 : Int).toNat (3 : Int).toNat] 64 (0, 0))) x b (newLed 3 2) :=
    ⟨ins_eq _ _ _, by rw [ins_ne _ _ (fun e => hne e.symm)]; exact ins_eq _ _ _, hne⟩
  have hs0 : Sub h (ins (ins h b (.cells (ledCells (newLed 3 2)) 66 (0, 0))) x (.cells #[.int .i64 2, .slice (some ⟨b, 0, none⟩) (3 : Int).toNat (3 : Int).toNat] 64 (0, 0))) :=
    Sub.put (Sub.put (Sub.refl h) hb) hx
  revert hL0 hs0
  generalize (ins (ins h b (.cells (ledCells (newLed 3 2)) 66 (0, 0))) x (.cells #[.int .i64 2, .slice (some ⟨b, 0, none⟩) (3 : Int).toNat (3 : Int).toNat] 64 (0, 0))) = g
  intro hL0 hs0
  simp [AEnd.elim, vBin_pnil Try.underlying25]
  refine lf_unroll 1 (lfn_step fun kn hkn => ?_)
  unfold b9_5
  simp
  intro r hr
  rw [show r 3 = _ from hr]
  exact hR _ _ _ hs0 hL0 hx hb

theorem lrecords_ok {v : Value} {l : List ActV} (hv : ActsAt h v l) (a : ActV) (hR : R (.ret (.bool true)) h) : ACalls Try.prog 8 #[v, a.v] h R := by
  refine ACalls.drop (call8 ?_)
  unfold sh8
  have u25 := Try.underlying25
  simp only [ActV.v, Value.cells]
  refine vNew_gen fun t3 G1 h3 s1 h33 => ?_
  refine begun_nil fun G2 x b s2 hL2 hx hb => ?_
  simp only [AEnd.elim]
  refine rnew_ok (by omega) (by omega) (by omega) (by omega) fun q v0 G3 s3 hq0 hr0 => ?_
  simp only [AEnd.elim, vExt_20, vExt_21]
  obtain ⟨w0, rfl⟩ : ∃ w0, v0 = .agg w0 := by obtain ⟨_, _, e, _⟩ := hr0; exact ⟨_, e⟩
  refine vNew_gen fun t6 G4 h6 s4 h66 => ?_
  have two0 := hr0.two
  refine vStore_to (cs := w0) h66 (by rfl) two0.1 two0.2.1 ?_
  simp only [vBin_pnil u25, dIf_b]
  refine ⟨fun e => absurd e (by simp), fun _ => ?_⟩
  have h6h : h t6 = none := s1.fresh (s2.fresh (s3.fresh h6))
  have hxh : h x = none := s1.fresh hx
  have hbh : h b = none := s1.fresh hb
  have hb6 : b ≠ t6 := fun e => by have := s3 _ _ hL2.hb; rw [e, h6] at this; cases this
  have hx6 : x ≠ t6 := fun e => by have := s3 _ _ hL2.hx; rw [e, h6] at this; cases this
  have h36 : t3 ≠ t6 := fun e => by have := s3 _ _ (s2 _ _ h33); rw [e, h6] at this; cases this
  have h3b : t3 ≠ b := fun e => by rw [e, hb] at h33; cases h33
  have h3x : t3 ≠ x := fun e => by rw [e, hx] at h33; cases h33
  have hL5 : LedAt (ins G4 t6 (.cells w0 52 (0, 0))) x b (newLed 3 2) := by
    have := (hL2.sub s3).sub s4
    exact ⟨by rw [ins_ne _ _ hx6]; exact this.hx, by rw [ins_ne _ _ hb6]; exact this.hb, this.ne⟩
  have hr5 : RefAt (ins G4 t6 (.cells w0 52 (0, 0))) q (.agg w0) (newLed 3 2) := (hr0.sub s4).ins (hr0.ne h6)
  have hs5 : Sub h (ins G4 t6 (.cells w0 52 (0, 0))) := Sub.put (((s1.trans s2).trans s3).trans s4) h6h
  have g35 : (ins G4 t6 (.cells w0 52 (0, 0))) t3 = some (.cells a.cells 24 (0, 0)) := by rw [ins_ne _ _ h36]; exact s4 _ _ (s3 _ _ (s2 _ _ h33))
  obtain ⟨p, cap, rfl, hcap, hel⟩ := hv
  refine lf_intro (fun m s' g' => ∃ (i : Nat) (L : Led) (q : Nat) (w : Array Value), s' = .int .i64 i ∧ m = l.length - i ∧ i ≤ l.length ∧ Sub h g' ∧ LedAt g' x b L ∧ RefAt g' q (.agg w) L ∧ g' t6 = some (.cells w 52 (0, 0)) ∧
    g' t3 = some (.cells a.cells 24 (0, 0)) ∧ Inv L ∧ L.n = 3 ∧ L.goods = 2 ∧ Zer L ∧ Mute L) l.length
    ⟨0, newLed 3 2, q, w0, rfl, rfl, by omega, hs5, hL5, hr5, ins_eq _ _ _, g35, inv_new (by omega) (by omega) (by omega), rfl, rfl, zer_new, mute_new⟩ ?_
  rintro m s' g' ⟨i, L, q, w, rfl, rfl, hi, hsub, hL, hr, e6, e3, hinv, hn, hg2, hz, hmu⟩
  clear hr0 hr5 hL5 hs5 g35 hL2 two0 h66 h6 hq0
  have two := hr.two
  by_cases hil : i < l.length ∧ (i : Int) < 60
  · obtain ⟨hil, h60⟩ := hil
    obtain ⟨ac, ha⟩ : ∃ ac, l[i]? = some ac := ⟨_, List.getElem?_eq_getElem hil⟩
    obtain ⟨b', off, c, e, fr, rfl, hc, hsz, hex⟩ := hel i ac ha
    have hgn := done_gn L ac
    have key : ∀ (kn : (Value × Value × Value × Value) → Value → PH → Prop) Kp (x0 : (Value × Value × Value) → PH → Prop),
        (∀ g2 q2 w2, Sub h g2 → LedAt g2 x b (doneL L ac).2 → RefAt g2 q2 (.agg w2) (doneL L ac).2 → g2 t6 = some (.cells w2 52 (0, 0)) → g2 t3 = some (.cells a.cells 24 (0, 0)) → kn (.slice (some ⟨b', off, none⟩) l.length cap, ptr t3, ptr x, ptr t6) (.int .i64 ((i : Int) + 1)) g2) →
        b8_6 Kp x0 (.slice (some ⟨b', off, none⟩) l.length cap, ptr t3, ptr x, ptr t6) kn (.int .i64 i) g' := by
      intro kn Kp x0 hk
      unfold b8_6
      have hlt : (i : Int) < (l.length : Int) := by omega
      have lt0 : (0 : Int) ≤ (i : Int) := by omega
      simp only [vLenS_s, vBin_lss, hlt, h60, decide_true, boolOf_b, gq_b, ne_eq, not_true_eq_false, forall_const, false_implies, and_true, vPick_b, cond_true, dIf_b, vIxS_p, lt0, true_and, Bool.true_eq_false]
      rw [vLoad_n e6 (by omega), two.2.2, vLoad_n (hsub _ _ hc) (by simpa using hsz), show off + (i : Int).toNat * 6 = off + i * 6 by omega, hex]
      refine told_ok (a := ac) hr hinv (by omega) fun q2 w2 h2 st hra => ?_
      have two2 := hra.two
      simp only [AEnd.elim, vExt_20, vExt_21]
      refine vNew_gen fun t9 G9 h9 s9 h99 => ?_
      refine vStore_to (cs := w2) h99 (by rfl) two2.1 two2.2.1 ?_
      rw [vLoad_n (ins_eq _ _ _) (by omega), two2.2.2]
      have h69 : t6 ≠ t9 := fun e => by have := st _ _ e6; rw [e, h9] at this; cases this
      have sA : Sub g' (ins G9 t9 (.cells w2 52 (0, 0))) := Sub.put (st.trans s9) (st.fresh h9)
      have rA : RefAt (ins G9 t9 (.cells w2 52 (0, 0))) q2 (.agg w2) (doneL L ac).2 := (hra.sub s9).ins (hra.ne h9)
      revert sA rA
      generalize (ins G9 t9 (.cells w2 52 (0, 0))) = GA
      intro sA rA
      refine vStore_to (cs := w2) (sA _ _ e6) two.1 two2.1 two2.2.1 ?_
      have hLA := hL.sub sA
      have hLB : LedAt (ins GA t6 (.cells w2 52 (0, 0))) x b L := ⟨by rw [ins_ne _ _ hx6]; exact hLA.hx, by rw [ins_ne _ _ hb6]; exact hLA.hb, hLA.ne⟩
      have hq26 : q2 ≠ t6 := fun e => by
        obtain ⟨cc, _, _, xx, _⟩ := rA
        have := sA _ _ e6
        rw [← e, xx] at this
        cases this
      have rB : RefAt (ins GA t6 (.cells w2 52 (0, 0))) q2 (.agg w2) (doneL L ac).2 := rA.ins hq26
      have sB : Sub h (ins GA t6 (.cells w2 52 (0, 0))) := Sub.put (hsub.trans sA) h6h
      have g6B : (ins GA t6 (.cells w2 52 (0, 0))) t6 = some (.cells w2 52 (0, 0)) := ins_eq _ _ _
      have g3B : (ins GA t6 (.cells w2 52 (0, 0))) t3 = some (.cells a.cells 24 (0, 0)) := by rw [ins_ne _ _ h36]; exact sA _ _ e3
      revert hLB rB sB g6B g3B
      generalize (ins GA t6 (.cells w2 52 (0, 0))) = GB
      intro hLB rB sB g6B g3B
      rw [vLoad_n (sB _ _ hc) (by simpa using hsz), hex]
      refine done_ok (a := ac) hLB hinv.small ?_
      simp only [AEnd.elim, vBin_add]
      rw [w64 (by omega) (by omega)]
      have hq2b : q2 ≠ b := fun e => by
        obtain ⟨cc, _, _, xx, _⟩ := rB
        have := hLB.hb
        rw [← e, xx] at this
        cases this
      refine hk _ q2 w2 (Sub.put sB hbh) (hLB.put hgn.2 hgn.1) (rB.ins hq2b) ?_ ?_
      · unfold putLed; rw [ins_ne _ _ (fun e => hb6 e.symm)]; exact g6B
      · unfold putLed; rw [ins_ne _ _ h3b]; exact g3B
    exact key _ _ _ fun g2 q2 w2 z1 z2 z3 z4 z5 => ⟨rfl, l.length - (i + 1), by omega, i + 1, _, q2, w2, rfl, rfl, by omega, z1, z2, z3, z4, z5, inv_done hinv ac, by rw [hgn.1]; exact hn, by rw [hgn.2]; exact hg2, zer_done hz ac, mute_done hmu hinv.gd ac⟩
  · have out : ∀ (kn : (Value × Value × Value × Value) → Value → PH → Prop) Kp (x0 : (Value × Value × Value) → PH → Prop) qq, x0 (ptr t3, ptr x, ptr t6) g' → b8_6 Kp x0 (.slice qq l.length cap, ptr t3, ptr x, ptr t6) kn (.int .i64 i) g' := by
      intro kn Kp x0 qq hx0
      unfold b8_6
      by_cases h1 : i < l.length
      · have h60 : ¬ (i : Int) < 60 := fun h => hil ⟨h1, h⟩
        simp [h1, h60]
        exact hx0
      · simp [h1]
        exact hx0
    refine out _ _ _ _ ?_
    intro r hrr
    simp only [Prod.mk.injEq] at hrr
    obtain ⟨r3, r5, r6⟩ := hrr
    rw [r3, r5, r6]
    refine records_ok hL hinv fun g2 sv2 ob2 => ?_
    simp only [AEnd.elim]
    have e62 := ob2.sub _ _ e6
    rw [vLoad_n e62 (by omega), two.2.2]
    refine rrecords_ok (hr.sub ob2.sub) hinv fun g3 sv3 ob3 => ?_
    simp only [AEnd.elim]
    have rec2 := (recs_ob ob2).sub ob3.sub
    have rec3 := recs_ob ob3
    refine same_gen rec2 rec3 (by simp [recsOf]; omega) (fun _ => ?_) (fun hne => absurd rfl hne)
    simp only [AEnd.elim, vUn_not, Bool.not_true, dIf_b, Bool.false_eq_true, false_implies, true_and, forall_const]
    have s03 : Sub g' g3 := ob2.sub.trans ob3.sub
    obtain ⟨M, hM, hlike⟩ := ofR_recs hinv hmu hz
    have hM32 : ofR 3 2 (recsOf L L.n) = some M := by
      rw [hg2, hn] at hM
      rw [hn]
      exact hM
    refine of_ok (c := 3) (g := 2) rec2 (fun x hx => ?_) (fun hb => absurd ⟨by omega, by omega, by omega, by omega⟩ hb) (fun _ hn => by rw [hM32] at hn; cases hn) (fun _ M' hM' x2 b2 g4 s4 hL4 hx2 hb2 => ?_)
    · unfold recsOf at hx
      obtain ⟨j, hj, rfl⟩ := List.mem_map.1 hx
      have hjn := List.mem_range.1 hj
      have h1 := encL_len (numsOf_bd hinv hjn)
      have h2 := encN_10 (n := (L.r j).size) (by have := hinv.rep j hjn; omega)
      have h3 := hinv.rep j hjn
      have h4 : (L.r j).data.toList.length = (L.r j).size := by rw [Array.length_toList]; rfl
      have h5 := numsOf_len L j
      have h6 := hinv.gd
      show (payB L j).toArray.size < _
      rw [List.size_toArray]
      unfold payB
      simp only [List.length_append]
      omega
    rw [hM32] at hM'
    cases hM'
    have hL4' : LedAt g4 x2 b2 L := hL4.like hlike
    have s04 : Sub g' g4 := s03.trans s4
    simp only [AEnd.elim, vExt_20, vExt_21, vBin_neq, decide_true, Bool.not_true, boolOf_b, gq_b, forall_const, ne_eq, not_true_eq_false, false_implies, and_true, vBin_pnil u25, vPick_b, cond_false]
    rw [vLoad_n (s04 _ _ e6) (by omega), two.2.2]
    refine like_ok hinv.small (by omega) hL4' (hr.sub s04) ?_
    simp only [AEnd.elim, vUn_not, Bool.not_true, vPick_b, cond_false, dIf_b, Bool.false_eq_true, false_implies, true_and, forall_const]
    have l3 : ∀ {g : PH}, Sub g' g → ∀ {K : Value → Prop}, vLoad (some 6) (ptr t3) g K ↔ K a.v := fun {g} hs {K} => by
      rw [vLoad_n (hs _ _ e3) (by simp [ActV.cells])]
      exact Iff.rfl
    rw [l3 s04]
    rw [l3 s04]
    have hLx : LedAt g4 x b L := hL.sub s04
    have hgn := done_gn L a
    refine done_ok (a := a) hLx hinv.small ?_
    simp only [AEnd.elim]
    have hb2b : b2 ≠ b := fun e => by
      have := (s03 _ _ hL.hb)
      rw [← e, hb2] at this; cases this
    have hb2x : b2 ≠ x := fun e => by
      have := (s03 _ _ hL.hx)
      rw [← e, hb2] at this; cases this
    have hx2b : x2 ≠ b := fun e => by
      have := (s03 _ _ hL.hb)
      rw [← e, hx2] at this; cases this
    have h3b' : t3 ≠ b := h3b
    have e3' : (putLed g4 b (doneL L a).2) t3 = some (.cells a.cells 24 (0, 0)) := by unfold putLed; rw [ins_ne _ _ h3b]; exact s04 _ _ e3
    refine ⟨by rw [vLoad_n e3' (by simp [ActV.cells])]; rfl, ?_⟩
    have hL6 : LedAt (putLed g4 b (doneL L a).2) x2 b2 L := ⟨by unfold putLed; rw [ins_ne _ _ hx2b]; exact hL4'.hx, by unfold putLed; rw [ins_ne _ _ hb2b]; exact hL4'.hb, hL4'.ne⟩
    have hL7 : LedAt (putLed g4 b (doneL L a).2) x b (doneL L a).2 := hLx.put hgn.2 hgn.1
    have s6 : Sub h (putLed g4 b (doneL L a).2) := Sub.put (hsub.trans s04) hbh
    have hb2h : h b2 = none := by
      have : Sub h g3 := hsub.trans s03
      exact this.fresh hb2
    revert hL6 hL7 s6
    generalize putLed g4 b (doneL L a).2 = g6
    intro hL6 hL7 s6
    refine done_ok (a := a) hL6 hinv.small ?_
    simp only [AEnd.elim]
    have hL8 : LedAt (putLed g6 b2 (doneL L a).2) x b (doneL L a).2 := ⟨by unfold putLed; rw [ins_ne _ _ (fun e => hb2x e.symm)]; exact hL7.hx, by unfold putLed; rw [ins_ne _ _ (fun e => hb2b e.symm)]; exact hL7.hb, hL7.ne⟩
    have hL9 : LedAt (putLed g6 b2 (doneL L a).2) x2 b2 (doneL L a).2 := hL6.put hgn.2 hgn.1
    have s9 : Sub h (putLed g6 b2 (doneL L a).2) := Sub.put s6 hb2h
    revert hL8 hL9 s9
    generalize putLed g6 b2 (doneL L a).2 = g9
    intro hL8 hL9 s9
    have hinv' := inv_done hinv a
    simp only [vBin_eql, decide_true, boolOf_b, gq_b, forall_const, ne_eq, not_true_eq_false, false_implies, and_true]
    refine records_ok hL8 hinv' fun g10 s10 ob10 => ?_
    simp only [AEnd.elim]
    refine records_ok (hL9.sub ob10.sub) hinv' fun g11 s11 ob11 => ?_
    simp only [AEnd.elim]
    refine same_gen ((recs_ob ob10).sub ob11.sub) (recs_ob ob11) (by simp [recsOf]; rw [hgn.1, hn]; omega) (fun _ => ?_) (fun hne => absurd rfl hne)
    simp only [AEnd.elim, vPick_b, cond_true, boolOf_b, gq_b, forall_const, ne_eq, not_true_eq_false, false_implies, and_true]
    refine awake_ok ?_
    simp only [AEnd.elim, vPick_b, cond_true]
    exact ⟨h, (s9.trans ob10.sub).trans ob11.sub, hR⟩
end
end Go.Pw

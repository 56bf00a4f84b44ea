/- client.New and cluster.New. -/
import Derived.Test.YtgpcjdmiecnphaaGreatPyE
import Derived.Test.YtgpcjdmiecnphaaGreatPyH
import Derived.Test.YtgpcjdmiecnphaaGreatSh1
set_option linter.unusedSimpArgs false
set_option linter.unusedVariables false
set_option maxRecDepth 100000
namespace Go.Pw
open Go Go.Proofs Go.Px
section
variable {C : PH → Prop} {h : PH} {R : AEnd → PH → Prop} {f c g p id : Int} {n : Nat}
theorem fill_cli (f c g p id : Int) (b : Addr) (m : Nat) : Instr.fill (fun i => [(0, 4), (4, 1), (5, 1), (6, 1), (7, 1), (8, 1), (9, 1), (10, 1), (11, 1)][i]?) #[Value.int .i64 0, .int .i64 0, .int .i64 0, .int .i64 0, .int .i64 0, .pointer none, .int .i64 0, .string ⟨#[]⟩, .bool false, .int .i64 0, .map none, .slice none 0 0] [(0, cfg f c g p), (1, .int .i64 id), (2, .pointer (some b)), (7, .map (some m))] = some #[.int .i64 f, .int .i64 c, .int .i64 g, .int .i64 p, .int .i64 id, .pointer (some b), .int .i64 0, .string ⟨#[]⟩, .bool false, .int .i64 0, .map (some m), .slice none 0 0] := by kernel_rfl
theorem newclient_ok {b : Addr} (hm : Mono C) (hf : fitsB f c g p = true) (h0 : 0 ≤ id) (h1 : id < c) (H : (BookP (n + 1) (.pointer (some b)) • C) h) (hR : ∀ a G, (BookP n (.pointer (some b)) • C) G → R (.ret (.tuple #[.pointer (some a), .int .i64 0])) G) :
    ACalls Tryz.prog 59 #[cfg f c g p, .int .i64 id, .pointer (some b)] h R := by
  refine call59 ?_
  unfold sh59
  refine vNew_i fun t ht => ?_
  have H1 := pt_new (o := .cells (cfg f c g p).cells 23 (0, 0)) ht H
  revert H1
  generalize ins h t (.cells (cfg f c g p).cells 23 (0, 0)) = G1
  intro H1
  have hp := pt_get H1
  have l1 : ∀ K, vLoad none (.pointer (some ⟨t, 1, none⟩)) G1 K ↔ K (.int .i64 c) := fun K => vLoad_1 hp rfl
  have n0 : ¬ id < 0 := by omega
  have n1 : ¬ c ≤ id := by omega
  rw [l4 hp]
  refine fits_ok (f := f) (c := c) (g := g) (p := p) ?_
  simp [AEnd.elim, hf, n0, n1, l1]
  rw [sep_lc] at H1
  refine digest_ok H1 fun s G2 hs H2 => ?_
  simp [AEnd.elim, hs]
  have H3 := H2
  rw [sep_lc] at H3
  rw [l4 (pt_get H3)]
  refine fun m hm1 => ?_
  refine ⟨_, fill_cli f c g p id b m, fun r hr => ?_⟩
  refine hR _ _ ?_
  have H4 := mono_sep _ _ _ _ (sub_ins (.map #[] 0) hm1) H2
  have H5 := mono_sep _ _ _ _ (sub_ins (.cells (Value.agg #[.int .i64 f, .int .i64 c, .int .i64 g, .int .i64 p, .int .i64 id, .pointer (some b), .int .i64 0, .string ⟨#[]⟩, .bool false, .int .i64 0, .map (some m), .slice none 0 0]).cells 204) hr) H4
  exact sep_mono H5 (fun _ x => x) fun q hq => sep_r hm hq

/-! ### the liars -/
def IntsAt (lv : Value) (l : List Int) (h : PH) : Prop := (l = [] ∧ ∃ p cap, lv = .slice p 0 cap) ∨ ∃ b off cap c e fr, lv = .slice (some ⟨b, off, none⟩) l.length cap ∧ h b = some (.cells c e fr) ∧ ∀ i a, l[i]? = some a → c[off + i]? = some (.int .i64 a)
theorem IntsAt.len {lv : Value} {l : List Int} (H : IntsAt lv l h) : ∃ p cap, lv = .slice p l.length cap := by
  rcases H with ⟨rfl, p, cap, rfl⟩ | ⟨b, off, cap, c, e, fr, rfl, _⟩
  · exact ⟨p, cap, rfl⟩
  · exact ⟨_, cap, rfl⟩
theorem IntsAt.get {lv : Value} {l : List Int} (H : IntsAt lv l h) {G : PH} (hs : Sub h G) {i : Nat} {a : Int} (hi : l[i]? = some a) (K : Value → Prop) : (vIxS 1 lv (.int .i64 i) fun u => vLoad none u G K) ↔ K (.int .i64 a) := by
  have hlt := (List.getElem?_eq_some_iff.1 hi).1
  rcases H with ⟨rfl, p, cap, rfl⟩ | ⟨b, off, cap, c, e, fr, rfl, hb, hc⟩
  · simp at hi
  · rw [vIxS_p, Int.toNat_natCast, Nat.mul_one, vLoad_1 (hs _ _ hb) (hc i a hi)]
    exact ⟨fun x => x.2.2, fun x => ⟨by omega, by omega, x⟩⟩
def goodB (f : Int) (l : List Int) : Nat → Bool
  | 0 => true
  | i + 1 => goodB f l i && (match l[i]? with
    | some a => decide (0 ≤ a) && decide (a ≤ 3 * f) && !decide (a ∈ l.take i)
    | none => true)
def clA (f c g p : Int) (m : Nat) (b : Addr) (rs cs : Value) : Array Value := #[.int .i64 f, .int .i64 c, .int .i64 g, .int .i64 p, .map (some m), .bool true, .pointer (some b), rs, cs, .slice none 0 0, .slice none 0 0, .slice none 0 0, .slice none 0 0, .int .i64 0, .int .i64 0]
def sN : Value := .slice none 0 0
theorem fill_cl (f c g p : Int) (m : Nat) (b : Addr) : Instr.fill (fun i => [(0, 4), (4, 1), (5, 1), (6, 1), (7, 1), (8, 1), (9, 1), (10, 1), (11, 1), (12, 1), (13, 1), (14, 1)][i]?) #[Value.int .i64 0, .int .i64 0, .int .i64 0, .int .i64 0, .map none, .bool false, .pointer none, .slice none 0 0, .slice none 0 0, .slice none 0 0, .slice none 0 0, .slice none 0 0, .slice none 0 0, .int .i64 0, .int .i64 0] [(0, cfg f c g p), (1, .map (some m)), (2, .bool true), (3, .pointer (some b))] = some (clA f c g p m b sN sN) := by kernel_rfl
theorem zero_bool (w : World) : (zeroValue 4).run Tryz.prog w = .ok (.bool false) w := by kernel_rfl
theorem fill1 (a : Addr) : Instr.fill (fun i => some (i * 1, 1)) (rep #[.pointer none] (1 * 1)) [(0, .pointer (some a))] = some #[.pointer (some a)] := by kernel_rfl
abbrev clO (f c g p : Int) (m : Nat) (b : Addr) (rs cs : Value) : Obj := .cells (clA f c g p m b rs cs) 133 (0, 0)
abbrev cfO (f c g p : Int) : Obj := .cells (cfg f c g p).cells 23 (0, 0)
theorem round_rep {t x m : Nat} {b : Addr} {k : Nat} {s cs : Value} {G : PH} {Kp : List PanicEntry → PH → Prop} {x2 : (Value × Value) → PH → Prop} {kn : (Value × Value × Value) → Value → PH → Prop} (hm : Mono C) (hf : fitsB f c g p = true) (hk : (k : Int) ≤ 3 * f)
    (H : (SlO 26 s k • pt x (clO f c g p m b s cs) • BookP (n + 1) (.pointer (some b)) • pt t (cfO f c g p) • C) G)
    (hK : ∀ s' G', (SlO 26 s' (k + 1) • pt x (clO f c g p m b s' cs) • BookP n (.pointer (some b)) • pt t (cfO f c g p) • C) G' → kn (.pointer (some ⟨t, 0, none⟩), .pointer (some ⟨x, 0, none⟩), .int .i64 (3 * f + 1)) (.int .i64 ((k : Int) + 1)) G') :
    b22_12 Kp x2 (.pointer (some ⟨t, 0, none⟩), .pointer (some ⟨x, 0, none⟩), .int .i64 (3 * f + 1)) kn (.int .i64 k) G := by
  obtain ⟨f1, f2, -⟩ := fitsB_iff.1 hf
  unfold b22_12
  rw [vBin_lss, dIf_b]
  refine ⟨fun _ => ?_, fun e => absurd (of_decide_eq_false e) (by omega)⟩
  have e1 : SlO 26 s k • pt x (clO f c g p m b s cs) • BookP (n + 1) (.pointer (some b)) • pt t (cfO f c g p) • C = BookP (n + 1) (.pointer (some b)) • pt x (clO f c g p m b s cs) • pt t (cfO f c g p) • SlO 26 s k • C := by ac_rfl
  rw [e1] at H
  have ht : G t = some (cfO f c g p) := sep_l (mono_pt _ _) (sep_r (mono_sep _ _) (sep_r (mono_sep _ _) H))
  have hx : G x = some (clO f c g p m b s cs) := sep_l (mono_pt _ _) (sep_r (mono_sep _ _) H)
  rw [l4 ht, vNil_p, vFA_p, vLoad_1 hx (v := .pointer (some b)) rfl]
  refine newrep_ok (mono_sep _ _) hf (by omega) hk H fun r l G2 H2 => ?_
  simp only [AEnd.elim, vExt_20, vExt_21, vNil_p, vFA_p, Nat.zero_add]
  have H3 := sep_r (mono_sep _ _) (sep_r (mono_sep _ _) H2)
  have hr : RepQ r l G2 := sep_l (RepQ.mono _ _) H2
  obtain ⟨blk, _, rfl, -⟩ := hr
  have e2 : BookP n (.pointer (some b)) • pt x (clO f c g p m b s cs) • pt t (cfO f c g p) • SlO 26 s k • C = SlO 26 s k • pt x (clO f c g p m b s cs) • BookP n (.pointer (some b)) • pt t (cfO f c g p) • C := by ac_rfl
  rw [e2] at H3
  have hx3 : G2 x = some (clO f c g p m b s cs) := sep_l (mono_pt _ _) (sep_r (mono_sep _ _) H3)
  rw [vLoad_1 hx3 (v := s) rfl]
  refine ⟨by omega, ?_⟩
  refine app_one H3 (fill1 _) rfl (by simp only [roomBytes]; omega) (by omega) (by omega) rfl fun s' G4 H4 => ?_
  have o4 : s'.oneCell' = true := by
    obtain ⟨q1, _, _, _, _, hs, _⟩ := H4; exact hs.one
  have e3 : SlO 26 s' (k + 1) • pt x (clO f c g p m b s cs) • BookP n (.pointer (some b)) • pt t (cfO f c g p) • C = pt x (clO f c g p m b s cs) • SlO 26 s' (k + 1) • BookP n (.pointer (some b)) • pt t (cfO f c g p) • C := by ac_rfl
  rw [e3] at H4
  refine st1 H4 (by show 7 < 15; omega) o4 fun G5 H5 => ?_
  rw [vBin_add, w64 (by omega) (by omega)]
  refine hK s' G5 ?_
  rw [sep_lc] at H5
  exact H5
theorem round_cli {t x m : Nat} {b : Addr} {k : Nat} {s rs : Value} {G : PH} {Kp : List PanicEntry → PH → Prop} {x4 : Value → PH → Prop} {kn : (Value × Value × Value) → Value → PH → Prop} (hm : Mono C) (hf : fitsB f c g p = true) (hk : (k : Int) < c)
    (H : (SlO 134 s k • pt x (clO f c g p m b rs s) • BookP (n + 1) (.pointer (some b)) • pt t (cfO f c g p) • C) G)
    (hK : ∀ s' G', (SlO 134 s' (k + 1) • pt x (clO f c g p m b rs s') • BookP n (.pointer (some b)) • pt t (cfO f c g p) • C) G' → kn (.pointer (some ⟨t, 0, none⟩), .pointer (some ⟨x, 0, none⟩), .int .i64 c) (.int .i64 ((k : Int) + 1)) G') :
    b22_18 Kp x4 (.pointer (some ⟨t, 0, none⟩), .pointer (some ⟨x, 0, none⟩), .int .i64 c) kn (.int .i64 k) G := by
  obtain ⟨f1, f2, c1, c2, -⟩ := fitsB_iff.1 hf
  unfold b22_18
  rw [vBin_lss, dIf_b]
  refine ⟨fun _ => ?_, fun e => absurd (of_decide_eq_false e) (by omega)⟩
  have e1 : SlO 134 s k • pt x (clO f c g p m b rs s) • BookP (n + 1) (.pointer (some b)) • pt t (cfO f c g p) • C = BookP (n + 1) (.pointer (some b)) • pt x (clO f c g p m b rs s) • pt t (cfO f c g p) • SlO 134 s k • C := by ac_rfl
  rw [e1] at H
  have ht : G t = some (cfO f c g p) := sep_l (mono_pt _ _) (sep_r (mono_sep _ _) (sep_r (mono_sep _ _) H))
  have hx : G x = some (clO f c g p m b rs s) := sep_l (mono_pt _ _) (sep_r (mono_sep _ _) H)
  rw [l4 ht, vNil_p, vFA_p, vLoad_1 hx (v := .pointer (some b)) rfl]
  refine newclient_ok (mono_sep _ _) hf (by omega) hk H fun a G2 H3 => ?_
  simp only [AEnd.elim, vExt_20, vExt_21, vNil_p, vFA_p, Nat.zero_add]
  have e2 : BookP n (.pointer (some b)) • pt x (clO f c g p m b rs s) • pt t (cfO f c g p) • SlO 134 s k • C = SlO 134 s k • pt x (clO f c g p m b rs s) • BookP n (.pointer (some b)) • pt t (cfO f c g p) • C := by ac_rfl
  rw [e2] at H3
  have hx3 : G2 x = some (clO f c g p m b rs s) := sep_l (mono_pt _ _) (sep_r (mono_sep _ _) H3)
  rw [vLoad_1 hx3 (v := s) rfl]
  refine ⟨by omega, ?_⟩
  refine app_one H3 (fill1 _) rfl (by simp only [roomBytes]; omega) (by omega) (by omega) rfl fun s' G4 H4 => ?_
  have o4 : s'.oneCell' = true := by
    obtain ⟨q1, _, _, _, _, hs, _⟩ := H4; exact hs.one
  have e3 : SlO 134 s' (k + 1) • pt x (clO f c g p m b rs s) • BookP n (.pointer (some b)) • pt t (cfO f c g p) • C = pt x (clO f c g p m b rs s) • SlO 134 s' (k + 1) • BookP n (.pointer (some b)) • pt t (cfO f c g p) • C := by ac_rfl
  rw [e3] at H4
  refine st1 H4 (by show 8 < 15; omega) o4 fun G5 H5 => ?_
  rw [vBin_add, w64 (by omega) (by omega)]
  refine hK s' G5 ?_
  rw [sep_lc] at H5
  exact H5
end

/-! ### cluster.New, whole -/
section
variable {C : PH → Prop} {h : PH} {R : AEnd → PH → Prop} {f c g p id : Int} {n : Nat}
theorem round_liar {t x m : Nat} {b : Addr} {k : Nat} {lv : Value} {l : List Int} {G : PH} {Kp : List PanicEntry → PH → Prop} {x0 xr : (Value × Value × Value × Value) → PH → Prop} {kn : (Value × Value × Value × Value) → (Value × Value × Value) → PH → Prop} (hm : Mono C) (hf : fitsB f c g p = true) (hl : IntsAt lv l h) (hC : ∀ q, C q → Sub h q) (hk : k < l.length) (h4 : l.length ≤ 4)
    (H : (KeysAt m (l.take k) • pt x (clO f c g p m b sN sN) • BookP n (.pointer (some b)) • pt t (cfO f c g p) • C) G)
    (hbad : goodB f l (k + 1) = false ∨ goodB f l k = false → xr (.pointer (some ⟨t, 0, none⟩), .pointer none, .int .i64 1, .pointer (some ⟨x, 0, none⟩)) G)
    (hK : ∀ G', (goodB f l k = true → goodB f l (k + 1) = true) → (KeysAt m (l.take (k + 1)) • pt x (clO f c g p m b sN sN) • BookP n (.pointer (some b)) • pt t (cfO f c g p) • C) G' → kn (.pointer (some ⟨t, 0, none⟩), .pointer (some ⟨x, 0, none⟩), lv, .int .i64 l.length) (.pointer none, .int .i64 0, .int .i64 ((k : Int) + 1)) G') (hg : goodB f l k = true) :
    b22_5 Kp x0 xr (.pointer (some ⟨t, 0, none⟩), .pointer (some ⟨x, 0, none⟩), lv, .int .i64 l.length) kn (.pointer none, .int .i64 0, .int .i64 k) G := by
  obtain ⟨f1, f2, -⟩ := fitsB_iff.1 hf
  have hx : G x = some (clO f c g p m b sN sN) := sep_l (mono_pt _ _) (sep_r (mono_sep _ _) H)
  have ht : G t = some (cfO f c g p) := sep_l (mono_pt _ _) (sep_r (mono_sep _ _) (sep_r (mono_sep _ _) (sep_r (mono_sep _ _) H)))
  have hs : Sub h G := hC _ (sep_r hm (sep_r (mono_sep _ _) (sep_r (mono_sep _ _) (sep_r (mono_sep _ _) H))))
  have hka := sep_l (KeysAt.mono _ _) H
  obtain ⟨a, ha⟩ : ∃ a, l[k]? = some a := ⟨l[k], List.getElem?_eq_getElem hk⟩
  have e1 : goodB f l (k + 1) = (goodB f l k && (decide (0 ≤ a) && decide (a ≤ 3 * f) && !decide (a ∈ l.take k))) := by simp only [goodB, ha]
  have et : l.take (k + 1) = l.take k ++ [a] := by rw [List.take_add_one, ha]; rfl
  unfold b22_5
  rw [vBin_lss, dIf_b]
  refine ⟨fun _ => ?_, fun e => absurd (of_decide_eq_false e) (by omega)⟩
  rw [IntsAt.get hl hs ha]
  have w1 : IntKind.i64.wrap (3 * f) = 3 * f := w64 (by omega) (by omega)
  have l0 : ∀ K, vLoad none (.pointer (some ⟨t, 0, none⟩)) G K ↔ K (.int .i64 f) := fun K => vLoad_1 ht rfl
  have lx : ∀ K, vLoad none (.pointer (some ⟨x, 4, none⟩)) G K ↔ K (.map (some m)) := fun K => vLoad_1 hx rfl
  by_cases h1 : a < 0
  · have := hbad (.inl (by rw [e1]; simp; intro _ h0; omega))
    simp [h1, this]
  by_cases h2 : 3 * f < a
  · have := hbad (.inl (by rw [e1]; simp; intro _ h0 h3; omega))
    simp [h1, l0, w1, h2, this]
  have lk : ∀ K : Value → Prop, K (.bool (decide (a ∈ l.take k))) → wLk Tryz.prog 128 false (.map (some m)) (.int .i64 a) G K := fun K hK => look_keys Tryz.underlying128 Tryz.underlying3 zero_bool hka hK
  simp only [h1, h2, l0, lx, w1, boolOf_b, gq_b, vFA_p, vNil_p, vBin_lss, vBin_gtr, vBin_mul, decide_false, vPick_b, cond_false, true_imp_iff, ne_eq, not_true, false_imp_iff, and_true, Nat.zero_add]
  refine lk _ ?_
  by_cases h3 : a ∈ l.take k
  · have := hbad (.inl (by rw [e1]; simp [h3]))
    simp [h3, this]
  · have g1 : goodB f l (k + 1) = true := by rw [e1, hg]; simp [h3]; omega
    simp only [h3, decide_false, vPick_b, cond_false, dIf_b, Bool.false_eq_true, false_imp_iff, true_and, true_imp_iff]
    refine put_keys Tryz.underlying128 Tryz.underlying3 h3 H fun G' H' => ?_
    rw [vBin_add, w64 (by omega) (by omega)]
    refine hK G' (fun _ => g1) ?_
    rw [et]; exact H'
theorem goodB_down {f : Int} {l : List Int} : ∀ {i j : Nat}, i ≤ j → goodB f l j = true → goodB f l i = true
  | i, 0, h, e => by have : i = 0 := by omega
                     subst this; rfl
  | i, j + 1, h, e => by
    rcases Nat.lt_or_ge j i with h1 | h1
    · have : i = j + 1 := by omega
      subst this; exact e
    · simp only [goodB, Bool.and_eq_true] at e
      exact goodB_down h1 e.1
theorem newcl_ok {lv : Value} {l : List Int} (hl : IntsAt lv l h)
    (hok : fitsB f c g p = true ∧ (l.length : Int) ≤ f ∧ goodB f l l.length = true → ∀ a G, Sub h G → R (.ret (.tuple #[.pointer (some a), .int .i64 0])) G)
    (hbad : ¬ (fitsB f c g p = true ∧ (l.length : Int) ≤ f ∧ goodB f l l.length = true) → ∀ G, Sub h G → R (.ret (.tuple #[.pointer none, .int .i64 1])) G) :
    ACalls Tryz.prog 22 #[cfg f c g p, lv, .bool true] h R := by
  refine call22 ?_
  unfold sh22
  refine vNew_i fun t ht => ?_
  have H1 : (pt t (cfO f c g p) • (fun q => Sub h q)) (ins h t (cfO f c g p)) := pt_new ht (Sub.refl h)
  have mo : Mono (fun q => Sub h q) := fun _ _ a b => Sub.trans b a
  revert H1
  show _ → vLoad _ _ (ins h t (cfO f c g p)) _
  generalize ins h t (cfO f c g p) = G1
  intro H1
  have hp := pt_get H1
  have s1 : Sub h G1 := sep_r mo H1
  obtain ⟨pa, cap, elv⟩ := hl.len
  rw [l4 hp]
  refine fits_ok (f := f) (c := c) (g := g) (p := p) ?_
  have l0 : ∀ K, vLoad none (.pointer (some ⟨t, 0, none⟩)) G1 K ↔ K (.int .i64 f) := fun K => vLoad_1 hp rfl
  have lenK : ∀ K, vLenS lv K ↔ K (.int .i64 l.length) := fun K => by rw [elv]; exact vLenS_s _ _ _
  by_cases hf : fitsB f c g p = true
  rotate_left
  · have hf' := hf
    rw [Bool.not_eq_true] at hf
    simp [AEnd.elim, hf]
    exact hbad (fun x => hf' x.1) _ s1
  obtain ⟨f1, f2, c1, c2, -⟩ := fitsB_iff.1 hf
  by_cases hlen : f < (l.length : Int)
  · simp [AEnd.elim, hf, lenK, l0, hlen]
    exact hbad (fun x => by omega) _ s1
  simp [AEnd.elim, hf, lenK, l0, hlen]
  rw [l4 hp]
  refine newbook_ok H1 fun b G2 H2 => ?_
  simp only [AEnd.elim]
  have hp2 : G2 t = some (cfO f c g p) := sep_l (mono_pt _ _) (sep_r (mono_sep _ _) H2)
  rw [l4 hp2]
  refine ⟨rfl, fun m hm => ?_⟩
  refine ⟨_, fill_cl f c g p m b, fun x hx => ?_⟩
  have H3 : (pt x (clO f c g p m b sN sN) • pt m (.map #[] 0) • BookP 40 (.pointer (some b)) • pt t (cfO f c g p) • (fun q => Sub h q)) (ins (ins G2 m (.map #[] 0)) x (clO f c g p m b sN sN)) := pt_new hx (pt_new hm H2)
  revert H3
  show _ → lf _ _ _ (ins (ins G2 m (.map #[] 0)) x (clO f c g p m b sN sN))
  generalize ins (ins G2 m (.map #[] 0)) x (clO f c g p m b sN sN) = G3
  intro H3
  have H4 : (KeysAt m (l.take 0) • pt x (clO f c g p m b sN sN) • BookP 40 (.pointer (some b)) • pt t (cfO f c g p) • (fun q => Sub h q)) G3 := by
    rw [sep_lc] at H3
    exact sep_mono H3 (fun q hq => ⟨_, _, hq, by simp, by simp⟩) fun _ a => a
  refine lf_intro (fun k s G => ∃ i : Nat, s = (.pointer none, .int .i64 0, .int .i64 i) ∧ k = l.length - i ∧ i ≤ l.length ∧ goodB f l i = true ∧ (KeysAt m (l.take i) • pt x (clO f c g p m b sN sN) • BookP 40 (.pointer (some b)) • pt t (cfO f c g p) • (fun q => Sub h q)) G) l.length
    ⟨0, rfl, by omega, by omega, rfl, H4⟩ ?_
  rintro k s G ⟨i, rfl, ek, hi, hgi, H5⟩
  by_cases hin : i < l.length
  · refine round_liar mo hf hl (fun _ a => a) hin (by omega) H5 (fun hb => ?_) (fun G' hg' H' => ⟨rfl, l.length - (i + 1), by omega, i + 1, rfl, rfl, by omega, hg' hgi, H'⟩) hgi
    intro r hr
    simp only [Prod.mk.injEq] at hr
    obtain ⟨r3, r6, r7, r8⟩ := hr
    rw [r6, r7]
    refine hbad (fun x => ?_) _ (sep_r mo (sep_r (mono_sep _ _) (sep_r (mono_sep _ _) (sep_r (mono_sep _ _) H5))))
    rcases hb with hb | hb
    · rw [goodB_down (by omega) x.2.2] at hb; cases hb
    · rw [hgi] at hb; cases hb
  have ei : i = l.length := by omega
  subst ei
  unfold b22_5
  rw [vBin_lss, dIf_b]
  refine ⟨fun e => absurd (of_decide_eq_true e) (by simp), fun _ => ?_⟩
  intro r hr
  simp only [Prod.mk.injEq] at hr
  obtain ⟨r3, r6, r7, r8⟩ := hr
  have H6 := sep_r (mono_sep _ _) H5
  have hpt : G t = some (cfO f c g p) := sep_l (mono_pt _ _) (sep_r (mono_sep _ _) (sep_r (mono_sep _ _) H6))
  simp only [r3, r8, vFA_p, Nat.zero_add]
  rw [vLoad_1 hpt (v := .int .i64 f) rfl, vBin_mul, w64 (by omega) (by omega), vBin_add, w64 (by omega) (by omega)]
  have H7 : (SlO 26 sN 0 • pt x (clO f c g p m b sN sN) • BookP 40 (.pointer (some b)) • pt t (cfO f c g p) • (fun q => Sub h q)) G :=
    ⟨fun _ => none, G, fun _ e => absurd rfl e, (fun _ _ e => nomatch e), Sub.refl G, .inl ⟨rfl, rfl⟩, H6⟩
  obtain ⟨N, hN⟩ : ∃ N : Nat, 3 * f + 1 = N := ⟨(3 * f + 1).toNat, by omega⟩
  refine lf_intro (fun k s G => ∃ (i : Nat) (rs : Value), s = .int .i64 i ∧ k = N - i ∧ i ≤ N ∧ (SlO 26 rs i • pt x (clO f c g p m b rs sN) • BookP (40 - i) (.pointer (some b)) • pt t (cfO f c g p) • (fun q => Sub h q)) G) N
    ⟨0, sN, rfl, by omega, by omega, H7⟩ ?_
  rintro k2 s2 G' ⟨i, rs, rfl, ek2, hi2, H8⟩
  by_cases hin2 : i < N
  · have e40 : 40 - i = (40 - (i + 1)) + 1 := by omega
    rw [e40] at H8
    exact round_rep mo hf (by omega) H8 fun s' G9 H9 => ⟨rfl, N - (i + 1), by omega, i + 1, s', rfl, rfl, by omega, H9⟩
  have ei2 : i = N := by omega
  subst ei2
  unfold b22_12
  rw [vBin_lss, dIf_b]
  refine ⟨fun e => absurd (of_decide_eq_true e) (by omega), fun _ => ?_⟩
  intro r2 hr2
  simp only [Prod.mk.injEq] at hr2
  obtain ⟨q3, q8⟩ := hr2
  have H9 := sep_r (mono_sep _ _) H8
  have hpt2 : G' t = some (cfO f c g p) := sep_l (mono_pt _ _) (sep_r (mono_sep _ _) (sep_r (mono_sep _ _) H9))
  simp only [q3, q8, vFA_p, Nat.zero_add]
  rw [vLoad_1 hpt2 (v := .int .i64 c) rfl]
  have H10 : (SlO 134 sN 0 • pt x (clO f c g p m b rs sN) • BookP (40 - i) (.pointer (some b)) • pt t (cfO f c g p) • (fun q => Sub h q)) G' :=
    ⟨fun _ => none, G', fun _ e => absurd rfl e, (fun _ _ e => nomatch e), Sub.refl G', .inl ⟨rfl, rfl⟩, H9⟩
  obtain ⟨M, hM⟩ : ∃ M : Nat, c = M := ⟨c.toNat, by omega⟩
  refine lf_intro (fun k s G => ∃ (j : Nat) (cs : Value), s = .int .i64 j ∧ k = M - j ∧ j ≤ M ∧ (SlO 134 cs j • pt x (clO f c g p m b rs cs) • BookP (40 - i - j) (.pointer (some b)) • pt t (cfO f c g p) • (fun q => Sub h q)) G) M
    ⟨0, sN, rfl, by omega, by omega, H10⟩ ?_
  rintro k3 s3 G'' ⟨j, cs, rfl, ek3, hi3, H11⟩
  by_cases hin3 : j < M
  · have e40 : 40 - i - j = (40 - i - (j + 1)) + 1 := by omega
    rw [e40] at H11
    exact round_cli mo hf (by omega) H11 fun s' G9 H9 => ⟨rfl, M - (j + 1), by omega, j + 1, s', rfl, rfl, by omega, H9⟩
  have ei3 : j = M := by omega
  subst ei3
  unfold b22_18
  rw [vBin_lss, dIf_b]
  refine ⟨fun e => absurd (of_decide_eq_true e) (by omega), fun _ => ?_⟩
  intro r4 hr4
  simp only at hr4
  rw [hr4]
  exact hok ⟨hf, by omega, hgi⟩ _ _ (sep_r mo (sep_r (mono_sep _ _) (sep_r (mono_sep _ _) (sep_r (mono_sep _ _) H11))))
end
end Go.Pw

/- What leaves memory as it is: the executor tells the truth. -/
import Derived.Test.YtgpcjdmiecnphaaGreatPxG
set_option linter.unusedSimpArgs false
set_option linter.unusedVariables false
namespace Go.Px
open Go Go.Pw
section
variable {P : Program} {ns : List Nm} {E : CE} {ρ : Env} {H : CH} {h : PH}

theorem o_ok (hE : RelE ns E ρ) {x : Operand} {v : CV} (hx : (oBx x).1 E = some v) : toV ns v = some (evalE ρ x) := xO_ok hE hx
theorem h1_ok (hE : RelE ns E ρ) {f : CV → Option CV} {x : Operand} {v : CV} (hq : (h1 f x).1 E H = some v) : ∃ a, toV ns a = some (evalE ρ x) ∧ f a = some v := by
  simp only [h1] at hq
  cases hx : (oBx x).1 E with
  | none => rw [hx] at hq; cases hq
  | some a => rw [hx] at hq; exact ⟨a, o_ok hE hx, hq⟩
theorem h2_ok (hE : RelE ns E ρ) {f : Bx (CV → CV → Option CV)} {x y : Operand} {v : CV} (hq : (h2 f x y).1 E H = some v) : ∃ a b, toV ns a = some (evalE ρ x) ∧ toV ns b = some (evalE ρ y) ∧ f.1 a b = some v := by
  simp only [h2] at hq
  cases hx : (oBx x).1 E with
  | none => rw [hx] at hq; cases hq
  | some a =>
    cases hy : (oBx y).1 E with
    | none => rw [hx, hy] at hq; cases hq
    | some b => rw [hx, hy] at hq; exact ⟨a, b, o_ok hE hx, o_ok hE hy, hq⟩
theorem hN_no {v : CV} (hq : hN.1 E H = some v) : False := by cases hq

/-! ### bounds -/
/-- The operand of a bound, and what it comes to. -/
theorem nat_ok (hE : RelE ns E ρ) {o : Option Operand} {d n : Nat} (hq : (xNat o).1 E d = some n) : ∀ (lo hi : Nat) (K : Nat → Prop), lo ≤ n → n ≤ hi → K n → intBetween (o.map (evalE ρ)) lo hi d K := by
  intro lo hi K h1 h2 hk
  cases o with
  | none => simp only [xNat, Option.some.injEq] at hq; subst hq; exact hk
  | some x =>
    simp only [xNat] at hq
    cases hx : (oBx x).1 E with
    | none => rw [hx] at hq; cases hq
    | some v =>
      rw [hx] at hq
      obtain ⟨k, rfl⟩ := asN_ok hq
      have hv := o_ok hE hx
      simp only [toV, Option.some.injEq] at hv
      exact ⟨k, (n : Int), hv.symm, Int.ofNat_le.2 h1, Int.ofNat_le.2 h2, hk⟩
theorem sl_ok (hE : RelE ns E ρ) {f : CE → CV → Option CV} {x : Operand} {v : CV} (hq : (hSl f x).1 E H = some v) : ∃ a, toV ns a = some (evalE ρ x) ∧ f E a = some v := by
  simp only [hSl] at hq
  cases hx : (oBx x).1 E with
  | none => rw [hx] at hq; cases hq
  | some a => rw [hx] at hq; exact ⟨a, o_ok hE hx, hq⟩
theorem slStr_ok (hE : RelE ns E ρ) {lo hi : Option Operand} {a v : CV} {x : Value} (hx : toV ns a = some x) (hq : fSlStr (xNat lo) (xNat hi) E a = some v) : Does ns v (vSlStr (lo.map (evalE ρ)) (hi.map (evalE ρ)) x) := by
  unfold fSlStr at hq
  cases ha : asS a with
  | none => rw [ha] at hq; cases hq
  | some l =>
    rw [ha] at hq
    simp only at hq
    cases hh : (xNat hi).1 E l.length with
    | none => rw [hh] at hq; cases hq
    | some b =>
      cases hl : (xNat lo).1 E 0 with
      | none => rw [hh, hl] at hq; cases hq
      | some c =>
        rw [hh, hl] at hq
        simp only at hq
        cases h1 : Nat.ble c b <;> cases h2 : Nat.ble b l.length <;> rw [h1, h2] at hq <;> simp only [reduceCtorEq, Option.some.injEq] at hq
        subst hq
        have e1 := Nat.le_of_ble_eq_true h1
        have e2 := Nat.le_of_ble_eq_true h2
        rw [asS_ok ha] at hx
        rw [toV_str hx]
        refine ⟨_, rfl, fun K hk => ⟨_, rfl, ?_⟩⟩
        rw [bytesN_size]
        refine nat_ok hE hh 0 _ _ (Nat.zero_le _) e2 (nat_ok hE hl 0 _ _ (Nat.zero_le _) e1 ?_)
        have : (bytesN l).extract c b = bytesN ((l.take b).drop c) := by
          apply ByteArray.ext
          simp only [ByteArray.data_extract, bytesN]
          apply Array.ext'
          simp only [List.extract_toArray, List.extract_eq_drop_take', List.map_drop, List.map_take]
        rw [this]
        exact hk
theorem slS_ok (hE : RelE ns E ρ) {n : Nat} {lo hi : Option Operand} {a v : CV} {x : Value} (hx : toV ns a = some x) (hq : fSl n (xNat lo) (xNat hi) E a = some v) : Does ns v (vSl n (lo.map (evalE ρ)) (hi.map (evalE ρ)) x) := by
  unfold fSl at hq
  cases ha : asSl a with
  | none => rw [ha] at hq; cases hq
  | some p =>
    obtain ⟨b, off, len, i⟩ := p
    rw [ha] at hq
    simp only at hq
    cases hh : (xNat hi).1 E len with
    | none => rw [hh] at hq; cases hq
    | some u =>
      cases hl : (xNat lo).1 E 0 with
      | none => rw [hh, hl] at hq; cases hq
      | some c =>
        rw [hh, hl] at hq
        simp only at hq
        rw [show a = .sl b off len i from asSl_ok ha] at hx
        obtain ⟨m, g1, g2, rfl⟩ := toV_sl hx
        cases h1 : Nat.ble c u <;> cases h2 : Nat.ble u len <;> rw [h1, h2] at hq <;> first | (cases hq; done) | skip
        have e1 := Nat.le_of_ble_eq_true h1
        have e2 := Nat.le_of_ble_eq_true h2
        cases h3 : (Nat.blt c len || Nat.beq c 0) <;> rw [h3] at hq <;> injection hq with hq <;> subst hq
        · simp only [Bool.or_eq_false_iff] at h3
          have hc : ¬ c < len := fun hh => by rw [blt_iff.2 hh] at h3; cases h3.1
          have hc0 : c ≠ 0 := Nat.ne_of_beq_eq_false h3.2
          have : c = len := by omega
          subst this
          have : u = c := by omega
          subst this
          refine ⟨_, mk_sle g1 (by omega), fun K hk => ⟨_, _, _, rfl, ?_⟩⟩
          refine nat_ok hE hh 0 _ _ (Nat.zero_le _) g2 (nat_ok hE hl 0 _ _ (Nat.zero_le _) (Nat.le_refl _) ?_)
          rw [Nat.sub_self, show m.c - i - u = m.c - (i + u) by omega]
          by_cases hcap : m.c - i = u
          · rw [if_pos hcap]
            have e : m.c - (i + u) = 0 := by omega
            rw [e] at hk ⊢
            exact hk
          · rw [if_neg hcap]
            obtain ⟨k, hk'⟩ : ∃ k, m.c - (i + u) = k + 1 := ⟨m.c - (i + u) - 1, by omega⟩
            rw [hk'] at hk ⊢
            simpa [Addr.add_lit, Nat.add_assoc] using hk
        · refine ⟨_, mk_sl g1 (by omega), fun K hk => ⟨_, _, _, rfl, ?_⟩⟩
          refine nat_ok hE hh 0 _ _ (Nat.zero_le _) (by omega) (nat_ok hE hl 0 _ _ (Nat.zero_le _) e1 ?_)
          rw [show m.c - i - c = m.c - (i + c) by omega]
          by_cases hcap : m.c - i = c
          · rw [if_pos hcap]
            have : c = 0 := by
              simp only [Bool.or_eq_true] at h3
              rcases h3 with h3 | h3
              · have := blt_iff.1 h3; omega
              · exact Nat.eq_of_beq_eq_true h3
            subst this
            simpa using hk
          · rw [if_neg hcap]
            simpa [Addr.add_lit, Nat.add_assoc] using hk

/-! ### memory -/
theorem cells_at (hH : RelH P ns H h) {b : Nat} {c : Cells × TypeId} (hc : asC (hGet b H.m) = some c) : ∃ m pre xs rest, ns[b]? = some m ∧ h m.b = some (.cells (pre ++ xs ++ rest).toArray c.2) ∧ pre.length = m.o ∧ c.1.wf ∧ toVs ns c.1.toL = some xs ∧ (∀ x ∈ xs, x.oneCell' = true) ∧ (∀ n, sizeOf' P c.2 = some n → m.c * n ≤ xs.length + rest.length) := by
  obtain ⟨m, h1, pre, xs, rest, h2, h3, h4, h5, h6, h7⟩ := hH.obj b _ (asC_ok hc)
  exact ⟨m, pre, xs, rest, h1, h2, h3, h4, h5, h6, h7⟩
theorem load_ok (hE : RelE ns E ρ) (hH : RelH P ns H h) {sz : Option Nat} {x : Operand} {v : CV} (hq : (hLoad sz x).1 E H = some v) : Does ns v (vLoad sz (evalE ρ x) h) := by
  simp only [hLoad] at hq
  cases hx : (oBx x).1 E with
  | none => rw [hx] at hq; cases hq
  | some a =>
    rw [hx] at hq
    simp only at hq
    cases ha : asP a with
    | none => rw [ha] at hq; cases hq
    | some p =>
      rw [ha] at hq
      simp only at hq
      cases hc : asC (hGet p.1 H.m) with
      | none => rw [hc] at hq; cases hq
      | some c =>
        rw [hc] at hq
        simp only at hq
        obtain ⟨m, pre, xs, rest, g1, g2, g3, g4, g5, g6, g7⟩ := cells_at hH hc
        have hv := o_ok hE hx
        rw [asP_ok ha] at hv
        obtain ⟨m', e1, e2⟩ := toV_ptr hv
        rw [g1] at e1; cases e1
        obtain ⟨y, q1, q2⟩ := cells_ok g4 g5 hq pre rest
        exact ⟨y, q1, fun K hk => ⟨m.b, m.o + p.2, _, _, _, e2, g2, by rw [← g3]; exact q2 K hk⟩⟩
theorem toNats_ok : ∀ {r : List CV} {l : List Nat} {xs : List Value}, toNats r = some l → toVs ns r = some xs → xs = Pw.byteCells (l.map UInt8.ofNat) ∧ l.length = r.length
  | [], l, xs, h1, h2 => by simp [toNats] at h1; subst h1; simp [toVs] at h2; subst h2; exact ⟨rfl, rfl⟩
  | v :: r, l, xs, h1, h2 => by
    simp only [toNats] at h1
    split at h1
    · rename_i n
      cases hb : Nat.blt n 256 <;> rw [hb] at h1 <;> simp only [reduceCtorEq] at h1
      cases ht : toNats r with
      | none => rw [ht] at h1; cases h1
      | some l' =>
        rw [ht] at h1
        cases h1
        obtain ⟨a, y, e1, e2, rfl⟩ := toVs_cons h2
        obtain ⟨e3, e4⟩ := toNats_ok ht e2
        simp only [toV, Option.some.injEq] at e1
        subst e1
        have hlt := blt_iff.1 hb
        refine ⟨?_, by simp [e4]⟩
        rw [e3]
        simp only [List.map_cons, Pw.byteCells, List.map_cons]
        have : (UInt8.ofNat n).toNat = n := by simp; omega
        rw [this]
        rfl
    · cases h1
theorem byteX_to (l : List Nat) : toVs ns (byteX l) = some (Pw.byteCells (l.map UInt8.ofNat)) := by
  induction l with
  | nil => rfl
  | cons a l ih =>
    have e : toV ns (.int .u8 (Int.ofNat (Nat.mod a 256))) = some (.int .u8 ((UInt8.ofNat a).toNat : Int)) := by simp only [toV]; simp; rfl
    exact toVs_mk e ih
theorem byteCells_app (a b : List UInt8) : Pw.byteCells (a ++ b) = Pw.byteCells a ++ Pw.byteCells b := by simp [Pw.byteCells]
theorem ropeS_ok : ∀ {l : List Ch} {a r : List Nat} {xs : List Value}, ropeS l a = some r → toVs ns (ropeL l) = some xs → ∃ y, r = y ++ a ∧ xs = Pw.byteCells (y.map UInt8.ofNat) ∧ y.length = (ropeL l).length
  | [], a, r, xs, h1, h2 => by simp [ropeS] at h1; subst h1; simp [ropeL, toVs] at h2; subst h2; exact ⟨[], rfl, rfl, rfl⟩
  | c :: l, a, r, xs, h1, h2 => by
    have hsplit : ∀ (p q : List CV) {z : List Value}, toVs ns (p ++ q) = some z → ∃ z1 z2, toVs ns p = some z1 ∧ toVs ns q = some z2 ∧ z = z1 ++ z2 := by
      intro p
      induction p with
      | nil => intro q z hz; exact ⟨[], z, rfl, hz, rfl⟩
      | cons u p ih =>
        intro q z hz
        obtain ⟨a1, y1, e1, e2, rfl⟩ := toVs_cons hz
        obtain ⟨z1, z2, f1, f2, rfl⟩ := ih q e2
        exact ⟨a1 :: z1, z2, toVs_mk e1 f1, f2, rfl⟩
    simp only [ropeL] at h2
    obtain ⟨z1, z2, e1, e2, rfl⟩ := hsplit _ _ h2
    cases c with
    | bs k x =>
      simp only [ropeS] at h1
      obtain ⟨y, rfl, hy, hl⟩ := ropeS_ok h1 e1
      simp only [Ch.toL] at e2
      rw [byteX_to] at e2
      cases e2
      exact ⟨y ++ x, by simp, by rw [hy, List.map_append, byteCells_app], by simp [ropeL, Ch.toL, byteX, hl]⟩
    | cs k x =>
      simp only [ropeS] at h1
      cases ht : toNats x with
      | none => rw [ht] at h1; cases h1
      | some t =>
        rw [ht] at h1
        obtain ⟨y, rfl, hy, hl⟩ := ropeS_ok h1 e1
        obtain ⟨q1, q2⟩ := toNats_ok ht e2
        exact ⟨y ++ t, by simp, by rw [hy, q1, List.map_append, byteCells_app], by simp [ropeL, Ch.toL, q2, hl]⟩
theorem bytesX_ok {c : Cells} {off len : Nat} {l : List Nat} {xs : List Value} (hw : c.wf) (hc : toVs ns c.toL = some xs) (hq : bytesX c off len = some l) : (xs.drop off).take len = Pw.byteCells (l.map UInt8.ofNat) ∧ l.length = len := by
  have gen : ∀ {r : List CV}, off + len ≤ c.toL.length ∧ r = (c.toL.drop off).take len → toNats r = some l → (xs.drop off).take len = Pw.byteCells (l.map UInt8.ofNat) ∧ l.length = len := fun hr ht => by
    obtain ⟨g1, rfl⟩ := hr
    obtain ⟨e1, e2⟩ := toNats_ok ht (toVs_take _ (toVs_drop _ hc))
    exact ⟨e1, by rw [e2]; simp; omega⟩
  have slow : ∀ {r : Option (List CV)}, (∀ z, r = some z → off + len ≤ c.toL.length ∧ z = (c.toL.drop off).take len) → (match r with | none => none | some r => toNats r) = some l → (xs.drop off).take len = Pw.byteCells (l.map UInt8.ofNat) ∧ l.length = len := fun {r} hr h => by
    cases r with
    | none => cases h
    | some z => exact gen (hr z rfl) h
  cases c with
  | row l' => exact slow (fun z hz => Cells.rng_ok hz) hq
  | obj n t => exact slow (fun z hz => Cells.rng_ok hz) hq
  | rope n l' =>
    simp only [bytesX] at hq
    cases h1 : Nat.beq off 0 <;> cases h2 : Nat.beq len n <;> rw [h1, h2] at hq <;> simp only at hq <;> first | exact slow (fun z hz => by simp only [ropeA_eq, List.append_nil] at hz; exact rngL_ok hz) hq | skip
    have e1 := Nat.eq_of_beq_eq_true h1
    have e2 := Nat.eq_of_beq_eq_true h2
    subst e1; subst e2
    obtain ⟨y, rfl, hy, hl⟩ := ropeS_ok hq hc
    have hn := ropeW_len hw
    simp only [List.append_nil] at *
    have hx := toVs_len hc
    simp only [Cells.toL] at hx
    rw [List.drop_zero, List.take_of_length_le (by omega)]
    exact ⟨hy, by omega⟩
theorem convBS_ok (hH : RelH P ns H h) {a v : CV} {x : Value} (hx : toV ns a = some x) (hq : fConvBS H a = some v) : Does ns v (vConvBS x h) := by
  unfold fConvBS at hq
  split at hq
  · cases hq
    simp only [toV, Option.some.injEq] at hx
    subst hx
    exact ⟨_, rfl, fun K hk => .inl ⟨rfl, hk⟩⟩
  · rename_i b off len i
    cases hc : asC (H.at b) with
    | none => rw [hc] at hq; cases hq
    | some c =>
      rw [hc] at hq
      simp only at hq
      cases hb : bytesX c.1 off len with
      | none => rw [hb] at hq; cases hq
      | some l =>
        rw [hb] at hq
        cases hq
        obtain ⟨m, pre, xs, rest, g1, g2, g3, g4, g5, g6, g7⟩ := cells_at hH hc
        obtain ⟨m', e1, e2, rfl⟩ := toV_sl hx
        rw [g1] at e1; cases e1
        obtain ⟨q1, q2⟩ := bytesX_ok g4 g5 hb
        have hlen : ((xs.drop off).take len).length = len := by rw [q1]; simp [Pw.byteCells, q2]
        refine ⟨_, rfl, fun K hk => .inr ⟨m.b, m.o + off, len, _, _, _, _, l.map UInt8.ofNat, rfl, g2, by simp [q2], ?_, hk⟩⟩
        rw [← q1]
        simp only [List.append_assoc]
        rw [List.drop_append, List.drop_eq_nil_of_le (by omega), List.nil_append, show m.o + off - pre.length = off by omega]
        simp only [List.length_take, List.length_drop] at hlen
        rcases Nat.eq_zero_or_pos len with h0 | h0
        · subst h0; simp
        · rw [List.drop_append_of_le_length (by omega), List.take_append_of_le_length (by simp; omega)]
  · cases hq
end
end Go.Px

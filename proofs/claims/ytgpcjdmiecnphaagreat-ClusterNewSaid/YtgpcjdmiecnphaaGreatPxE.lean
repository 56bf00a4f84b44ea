/- The executor's words on values tell the truth. -/
import Derived.Test.YtgpcjdmiecnphaaGreatPxD
set_option linter.unusedSimpArgs false
set_option linter.unusedVariables false
namespace Go.Px
open Go Go.Pw
section
variable {P : Program} {ns : List Nm}

/-- What v stands for does as x asks. -/
def Does (ns : List Nm) (v : CV) (W : (Value → Prop) → Prop) : Prop := ∃ y, toV ns v = some y ∧ ∀ K : Value → Prop, K y → W K
theorem Does.mk {v : CV} {y : Value} {W : (Value → Prop) → Prop} (h : toV ns v = some y) (hw : ∀ K : Value → Prop, K y → W K) : Does ns v W := ⟨y, h, hw⟩

theorem toV_ptr {b o : Nat} {x : Value} (h : toV ns (.ptr b o) = some x) : ∃ m, ns[b]? = some m ∧ x = .pointer (some ⟨m.b, m.o + o, none⟩) := by
  simp only [toV] at h
  cases hb : ns[b]? with
  | none => rw [hb] at h; cases h
  | some m => rw [hb] at h; cases h; exact ⟨m, rfl, rfl⟩
theorem mk_ptr {b o : Nat} {m : Nm} (h : ns[b]? = some m) : toV ns (.ptr b o) = some (.pointer (some ⟨m.b, m.o + o, none⟩)) := by simp only [toV, h]
theorem toV_sl {b o l i : Nat} {x : Value} (h : toV ns (.sl b o l i) = some x) : ∃ m, ns[b]? = some m ∧ l ≤ m.c - i ∧ x = .slice (some ⟨m.b, m.o + o, none⟩) l (m.c - i) := by
  simp only [toV] at h
  cases hb : ns[b]? with
  | none => rw [hb] at h; cases h
  | some m =>
    rw [hb] at h
    simp only at h
    cases hc : Nat.ble l (m.c - i) <;> rw [hc] at h <;> cases h
    exact ⟨m, rfl, Nat.le_of_ble_eq_true hc, rfl⟩
theorem mk_sl {b o l i : Nat} {m : Nm} (h : ns[b]? = some m) (hl : l ≤ m.c - i) : toV ns (.sl b o l i) = some (.slice (some ⟨m.b, m.o + o, none⟩) l (m.c - i)) := by
  simp only [toV, h, Nat.ble_eq_true_of_le hl]
theorem toV_slk {b o l c : Nat} {x : Value} (h : toV ns (.slk b o l c) = some x) : ∃ m, ns[b]? = some m ∧ x = .slice (some ⟨m.b, m.o + o, none⟩) l c := by
  simp only [toV] at h
  cases hb : ns[b]? with
  | none => rw [hb] at h; cases h
  | some m => rw [hb] at h; cases h; exact ⟨m, rfl, rfl⟩
theorem toV_sle {b o o' i : Nat} {x : Value} (h : toV ns (.sle b o o' i) = some x) : ∃ m, ns[b]? = some m ∧ i ≤ m.c ∧ x = .slice (some ⟨m.b, m.o + (match m.c - i with | 0 => o | _ + 1 => o'), none⟩) 0 (m.c - i) := by
  simp only [toV] at h
  cases hb : ns[b]? with
  | none => rw [hb] at h; cases h
  | some m =>
    rw [hb] at h
    simp only at h
    cases hc : Nat.ble i m.c <;> rw [hc] at h <;> cases h
    exact ⟨m, rfl, Nat.le_of_ble_eq_true hc, rfl⟩
theorem mk_sle {b o o' i : Nat} {m : Nm} (h : ns[b]? = some m) (hl : i ≤ m.c) : toV ns (.sle b o o' i) = some (.slice (some ⟨m.b, m.o + (match m.c - i with | 0 => o | _ + 1 => o'), none⟩) 0 (m.c - i)) := by
  simp only [toV, h, Nat.ble_eq_true_of_le hl]
  rfl
theorem toV_mp {b : Nat} {x : Value} (h : toV ns (.mp b) = some x) : ∃ m, ns[b]? = some m ∧ x = .map (some m.b) := by
  simp only [toV] at h
  cases hb : ns[b]? with
  | none => rw [hb] at h; cases h
  | some m => rw [hb] at h; cases h; exact ⟨m, rfl, rfl⟩
theorem toV_agg {l : List CV} {x : Value} (h : toV ns (.agg l) = some x) : ∃ xs, toVs ns l = some xs ∧ x = .agg xs.toArray := by
  simp only [toV] at h
  cases hb : toVs ns l with
  | none => rw [hb] at h; cases h
  | some m => rw [hb] at h; cases h; exact ⟨m, rfl, rfl⟩
theorem mk_agg {l : List CV} {xs : List Value} (h : toVs ns l = some xs) : toV ns (.agg l) = some (.agg xs.toArray) := by simp only [toV, h]
theorem toV_tup {l : List CV} {x : Value} (h : toV ns (.tup l) = some x) : ∃ xs, toVs ns l = some xs ∧ x = .tuple xs.toArray := by
  simp only [toV] at h
  cases hb : toVs ns l with
  | none => rw [hb] at h; cases h
  | some m => rw [hb] at h; cases h; exact ⟨m, rfl, rfl⟩
theorem mk_tup {l : List CV} {xs : List Value} (h : toVs ns l = some xs) : toV ns (.tup l) = some (.tuple xs.toArray) := by simp only [toV, h]
theorem toV_iface {t : TypeId} {v : CV} {x : Value} (h : toV ns (.iface t v) = some x) : ∃ y, toV ns v = some y ∧ x = .iface t y := by
  simp only [toV] at h
  cases hb : toV ns v with
  | none => rw [hb] at h; cases h
  | some m => rw [hb] at h; cases h; exact ⟨m, rfl, rfl⟩
theorem toV_fn {f : FuncId} {a c : List CV} {x : Value} (h : toV ns (.fn f a c) = some x) : ∃ y z, toVs ns a = some y ∧ toVs ns c = some z ∧ x = .func (.func f) y.toArray z.toArray := by
  simp only [toV] at h
  cases ha : toVs ns a with
  | none => rw [ha] at h; simp at h
  | some y =>
    cases hc : toVs ns c with
    | none => rw [ha, hc] at h; simp at h
    | some z => rw [ha, hc] at h; cases h; exact ⟨y, z, rfl, rfl, rfl⟩
theorem mk_fn {f : FuncId} {a c : List CV} {y z : List Value} (h1 : toVs ns a = some y) (h2 : toVs ns c = some z) : toV ns (.fn f a c) = some (.func (.func f) y.toArray z.toArray) := by simp only [toV, h1, h2]

/-! ### views -/
theorem asB_ok {v : CV} {b : Bool} (h : asB v = some b) : v = .bool b := by unfold asB at h; split at h <;> first | (cases h; rfl) | cases h
theorem asN_ok {v : CV} {n : Nat} (h : asN v = some n) : ∃ k, v = .int k (.ofNat n) := by unfold asN at h; split at h <;> first | (cases h; exact ⟨_, rfl⟩) | cases h
theorem asP_ok {v : CV} {p : Nat × Nat} (h : asP v = some p) : v = .ptr p.1 p.2 := by unfold asP at h; split at h <;> first | (cases h; rfl) | cases h
theorem asS_ok {v : CV} {l : List Nat} (h : asS v = some l) : v = .str l := by unfold asS at h; split at h <;> first | (cases h; rfl) | cases h
theorem asA_ok {v : CV} {l : List CV} (h : asA v = some l) : v = .agg l := by unfold asA at h; split at h <;> first | (cases h; rfl) | cases h
theorem asT_ok {v : CV} {l : List CV} (h : asT v = some l) : v = .tup l := by unfold asT at h; split at h <;> first | (cases h; rfl) | cases h
theorem asSl_ok {v : CV} {p : Nat × Nat × Nat × Nat} (h : asSl v = some p) : v = .sl p.1 p.2.1 p.2.2.1 p.2.2.2 := by unfold asSl at h; split at h <;> first | (cases h; rfl) | cases h
theorem asMp_ok {v : CV} {b : Nat} (h : asMp v = some b) : v = .mp b := by unfold asMp at h; split at h <;> first | (cases h; rfl) | cases h
theorem asC_ok {o : Option CO} {p : Cells × TypeId} (h : asC o = some p) : o = some (.cells p.1 p.2) := by unfold asC at h; split at h <;> first | (cases h; rfl) | cases h
theorem asM_ok {o : Option CO} {p : List (CV × CV × Nat) × Nat} (h : asM o = some p) : o = some (.map p.1 p.2) := by unfold asM at h; split at h <;> first | (cases h; rfl) | cases h
theorem asL_ok {v : CV} {p : Nat × Nat × Nat} (h : asL v = some p) {x : Value} (hx : toV ns v = some x) : ∃ m cap, ns[p.1]? = some m ∧ x = .slice (some ⟨m.b, m.o + p.2.1, none⟩) p.2.2 cap := by
  unfold asL at h
  split at h
  · cases h; obtain ⟨m, h1, _, rfl⟩ := toV_sl hx; exact ⟨m, _, h1, rfl⟩
  · cases h; obtain ⟨m, h1, rfl⟩ := toV_slk hx; exact ⟨m, _, h1, rfl⟩
  · cases h
theorem toV_str {l : List Nat} {x : Value} (h : toV ns (.str l) = some x) : x = .string (bytesN l) := by simp only [toV, Option.some.injEq] at h; exact h.symm
theorem toV_bool {b : Bool} {x : Value} (h : toV ns (.bool b) = some x) : x = .bool b := by simp only [toV, Option.some.injEq] at h; exact h.symm

/-! ### words on one or two values -/
theorem cells_ok {sz : Option Nat} {c : Cells} {off : Nat} {v : CV} {xs : List Value} (hw : c.wf) (hc : toVs ns c.toL = some xs) (h : (xCells sz).1 c off = some v) (pre rest : List Value) :
    Does ns v (cellsAt sz (pre ++ xs ++ rest).toArray (pre.length + off)) := by
  cases sz with
  | none =>
    obtain ⟨a, h1, h2⟩ := toVs_get hc (Cells.get_ok hw h)
    refine ⟨a, h1, fun K hk => ⟨a, ?_, hk⟩⟩
    have hl := (List.getElem?_eq_some_iff.1 h2).1
    simp only [List.getElem?_toArray, List.append_assoc]
    rw [List.getElem?_append_right (by omega), show pre.length + off - pre.length = off by omega, List.getElem?_append_left hl, h2]
  | some n =>
    cases n with
    | zero => cases h
    | succ n =>
      simp only [xCells] at h
      cases hr : c.rng off (n + 1) with
      | none => rw [hr] at h; cases h
      | some l =>
        rw [hr] at h
        cases h
        obtain ⟨h1, rfl⟩ := Cells.rng_ok hr
        have hl := toVs_len hc
        refine ⟨_, mk_agg (toVs_take _ (toVs_drop _ hc)), fun K hk => ⟨by simp; omega, ?_⟩⟩
        have : (pre ++ xs ++ rest).toArray.extract (pre.length + off) (pre.length + off + (n + 1)) = ((xs.drop off).take (n + 1)).toArray := by
          apply Array.ext'
          simp only [List.extract_toArray, List.extract_eq_drop_take', List.append_assoc]
          rw [List.drop_take, List.drop_append, List.drop_eq_nil_of_le (by omega : pre.length ≤ pre.length + off)]
          simp only [List.nil_append]
          rw [show pre.length + off - pre.length = off by omega, show pre.length + off + (n + 1) - (pre.length + off) = n + 1 by omega]
          rw [List.drop_append_of_le_length (by omega), List.take_append_of_le_length (by simp; omega)]
        rw [this]
        exact hk
theorem ext_ok {i : Nat} {a v : CV} {x : Value} (hx : toV ns a = some x) (h : fExt i a = some v) : Does ns v (vExt x i) := by
  unfold fExt at h
  cases ha : asT a with
  | none => rw [ha] at h; cases h
  | some l =>
    rw [ha] at h
    rw [asT_ok ha] at hx
    obtain ⟨xs, h1, rfl⟩ := toV_tup hx
    simp only [nth_eq] at h
    obtain ⟨y, h2, h3⟩ := toVs_get h1 h
    exact ⟨y, h2, fun K hk => ⟨_, y, rfl, by simpa using h3, hk⟩⟩
theorem fld_ok {sz : Option Nat} {off : Nat} {a v : CV} {x : Value} (hx : toV ns a = some x) (h : fFld sz off a = some v) : Does ns v (vFld sz off x) := by
  unfold fFld at h
  cases ha : asA a with
  | none => rw [ha] at h; cases h
  | some l =>
    rw [ha] at h
    rw [asA_ok ha] at hx
    obtain ⟨xs, h1, rfl⟩ := toV_agg hx
    obtain ⟨y, h2, h3⟩ := cells_ok (c := .row l) trivial h1 h [] []
    exact ⟨y, h2, fun K hk => ⟨_, rfl, by simpa using h3 K hk⟩⟩
theorem fa_ok {off : Nat} {a v : CV} {x : Value} (hx : toV ns a = some x) (h : fFA off a = some v) : Does ns v (vFA off x) := by
  unfold fFA at h
  cases ha : asP a with
  | none => rw [ha] at h; cases h
  | some p =>
    rw [ha] at h
    cases h
    rw [asP_ok ha] at hx
    obtain ⟨m, h1, rfl⟩ := toV_ptr hx
    exact ⟨_, mk_ptr h1, fun K hk => ⟨_, _, rfl, by rw [Nat.add_assoc]; exact hk⟩⟩
theorem ixA_ok {len n : Nat} {a i v : CV} {x y : Value} (hx : toV ns a = some x) (hy : toV ns i = some y) (h : fIxA len n a i = some v) : Does ns v (vIxA len n x y) := by
  unfold fIxA at h
  cases ha : asP a with
  | none => rw [ha] at h; cases h
  | some p =>
    cases hi : asN i with
    | none => rw [ha, hi] at h; cases h
    | some j =>
      rw [ha, hi] at h
      simp only at h
      cases hb : Nat.blt j len <;> rw [hb] at h <;> cases h
      have hlt := blt_iff.1 hb
      rw [asP_ok ha] at hx
      obtain ⟨k, rfl⟩ := asN_ok hi
      obtain ⟨m, h1, rfl⟩ := toV_ptr hx
      simp only [toV, Option.some.injEq] at hy
      subst hy
      exact ⟨_, mk_ptr h1, fun K hk => ⟨_, _, k, _, rfl, rfl, Int.natCast_nonneg _, Int.ofNat_lt.2 hlt, by rw [Nat.add_assoc]; exact hk⟩⟩
theorem ixS_ok {n : Nat} {a i v : CV} {x y : Value} (hx : toV ns a = some x) (hy : toV ns i = some y) (h : fIxS n a i = some v) : Does ns v (vIxS n x y) := by
  unfold fIxS at h
  cases ha : asL a with
  | none => rw [ha] at h; cases h
  | some p =>
    cases hi : asN i with
    | none => rw [ha, hi] at h; cases h
    | some j =>
      rw [ha, hi] at h
      simp only at h
      cases hb : Nat.blt j p.2.2 <;> rw [hb] at h <;> cases h
      have hlt := blt_iff.1 hb
      obtain ⟨m, cap, h1, rfl⟩ := asL_ok ha hx
      obtain ⟨k, rfl⟩ := asN_ok hi
      simp only [toV, Option.some.injEq] at hy
      subst hy
      exact ⟨_, mk_ptr h1, fun K hk => ⟨_, _, _, _, k, _, rfl, rfl, Int.natCast_nonneg _, Int.ofNat_lt.2 hlt, by rw [Nat.add_assoc]; exact hk⟩⟩
theorem ixStr_ok {a i v : CV} {x y : Value} (hx : toV ns a = some x) (hy : toV ns i = some y) (h : fIxStr a i = some v) : Does ns v (vIxStr x y) := by
  unfold fIxStr at h
  cases ha : asS a with
  | none => rw [ha] at h; cases h
  | some l =>
    cases hi : asN i with
    | none => rw [ha, hi] at h; cases h
    | some j =>
      rw [ha, hi] at h
      simp only [nth_eq] at h
      cases hl : l[j]? with
      | none => rw [hl] at h; cases h
      | some c =>
        rw [hl] at h
        cases h
        rw [asS_ok ha] at hx
        obtain ⟨k, rfl⟩ := asN_ok hi
        rw [toV_str hx]
        simp only [toV, Option.some.injEq] at hy
        subst hy
        refine ⟨_, rfl, fun K hk => ⟨_, k, _, UInt8.ofNat c, rfl, rfl, Int.natCast_nonneg _, ?_, ?_⟩⟩
        · simp [bytesN, hl]
        · have : ((UInt8.ofNat c).toNat : Int) = Int.ofNat (Nat.mod c 256) := by simp; rfl
          rw [this]; exact hk
theorem ixAg_ok {sz : Option Nat} {len n : Nat} {a i v : CV} {x y : Value} (hx : toV ns a = some x) (hy : toV ns i = some y) (h : fIxAg sz len n a i = some v) : Does ns v (vIxAg sz len n x y) := by
  unfold fIxAg at h
  cases ha : asA a with
  | none => rw [ha] at h; cases h
  | some l =>
    cases hi : asN i with
    | none => rw [ha, hi] at h; cases h
    | some j =>
      rw [ha, hi] at h
      simp only at h
      cases hb : Nat.blt j len <;> rw [hb] at h <;> simp only [reduceCtorEq] at h
      have hlt := blt_iff.1 hb
      rw [asA_ok ha] at hx
      obtain ⟨k, rfl⟩ := asN_ok hi
      obtain ⟨xs, h1, rfl⟩ := toV_agg hx
      simp only [toV, Option.some.injEq] at hy
      subst hy
      obtain ⟨z, h2, h3⟩ := cells_ok (c := .row l) trivial h1 h [] []
      exact ⟨z, h2, fun K hk => ⟨_, k, _, rfl, rfl, Int.natCast_nonneg _, Int.ofNat_lt.2 hlt, by simpa using h3 K hk⟩⟩
theorem nil_ok {a v : CV} {x : Value} (hx : toV ns a = some x) (h : fNil a = some v) : Does ns v (vNil x) := by
  unfold fNil at h
  split at h
  · cases h
    obtain ⟨m, h1, rfl⟩ := toV_ptr hx
    exact ⟨_, hx, fun K hk => ⟨rfl, hk⟩⟩
  · cases h
    obtain ⟨y, z, h1, h2, rfl⟩ := toV_fn hx
    exact ⟨_, hx, fun K hk => ⟨rfl, hk⟩⟩
  · cases h
theorem convI_ok {k : IntKind} {a v : CV} {x : Value} (hx : toV ns a = some x) (h : fConvI k a = some v) : Does ns v (vConvI k x) := by
  unfold fConvI at h
  split at h
  · cases h
    simp only [toV, Option.some.injEq] at hx
    subst hx
    exact ⟨_, rfl, fun K hk => ⟨_, _, rfl, hk⟩⟩
  · cases h
theorem lenStr_ok {a v : CV} {x : Value} (hx : toV ns a = some x) (h : fLenStr a = some v) : Does ns v (vLenStr x) := by
  unfold fLenStr at h
  cases ha : asS a with
  | none => rw [ha] at h; cases h
  | some l =>
    rw [ha] at h
    cases h
    rw [asS_ok ha] at hx
    rw [toV_str hx]
    exact ⟨_, rfl, fun K hk => ⟨_, rfl, by rw [bytesN_size]; exact hk⟩⟩
theorem lenS_ok {a v : CV} {x : Value} (hx : toV ns a = some x) (h : fLenS a = some v) : Does ns v (vLenS x) := by
  unfold fLenS at h
  split at h <;> cases h
  · obtain ⟨m, h1, h2, rfl⟩ := toV_sl hx; exact ⟨_, rfl, fun K hk => ⟨_, _, _, rfl, hk⟩⟩
  · obtain ⟨m, h1, rfl⟩ := toV_slk hx; exact ⟨_, rfl, fun K hk => ⟨_, _, _, rfl, hk⟩⟩
  · obtain ⟨m, h1, h2, rfl⟩ := toV_sle hx; exact ⟨_, rfl, fun K hk => ⟨_, _, _, rfl, hk⟩⟩
  · simp only [toV, Option.some.injEq] at hx; subst hx; exact ⟨_, rfl, fun K hk => ⟨_, _, _, rfl, hk⟩⟩
theorem mm_ok {mx : Bool} {a b v : CV} {x y : Value} (hx : toV ns a = some x) (hy : toV ns b = some y) (h : fMM mx a b = some v) : Does ns v (vMinMax mx x y) := by
  unfold fMM at h
  split at h
  · cases h
    simp only [toV, Option.some.injEq] at hx hy
    subst hx; subst hy
    exact ⟨_, rfl, fun K hk => ⟨_, _, _, _, rfl, rfl, hk⟩⟩
  · cases h
end
end Go.Px

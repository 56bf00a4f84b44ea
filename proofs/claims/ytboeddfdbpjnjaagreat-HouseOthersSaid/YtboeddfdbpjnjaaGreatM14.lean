/- Texts of this claim, one behind the other. -/
import Derived.Test.YtboeddfdbpjnjaaGreatM10
import Derived.Test.YtboeddfdbpjnjaaGreatM13
/- The wire's reader of numbers. -/
set_option linter.unusedSimpArgs false
set_option linter.unusedVariables false
namespace Go.Pw
open Go Go.Proofs

/-- What a reader ends with: a value and the place behind it, or why not. -/
inductive Rd (α : Type) where
  | ok (n : α) (next : Nat)
  | bad (e : Int)
/-- A number read: i: which letter; n: what came so far. -/
def rdN (s : List UInt8) : Nat → Nat → Nat → Nat → Rd Nat
  | 0, i, n, at_ => .bad 11
  | fuel + 1, i, n, at_ => match s[at_]? with
    | none => .bad 10
    | some c =>
      if 128 ≤ c.toNat then (if i = 7 then .bad 11 else rdN s fuel (i + 1) (n + c.toNat % 128 * 128 ^ i) (at_ + 1))
      else if (c.toNat = 0 ∧ 0 < i) ∨ 9007199254740992 < n + c.toNat % 128 * 128 ^ i then .bad 11 else .ok (n + c.toNat % 128 * 128 ^ i) (at_ + 1)
def rdNum (s : List UInt8) (at_ : Nat) : Rd Nat := rdN s 8 0 0 at_

section
variable {P : Program} {K : Value → Prop}
theorem vBin_shl {t : TypeId} {n k : Int} (h0 : 0 ≤ n) (hk : 0 ≤ k) (hk2 : k ≤ 49) (h1 : n < 128) : vBin P .shl t (.int .i64 n) (.int .i64 k) K ↔ K (.int .i64 (n * 2 ^ k.toNat)) := by
  refine vBin_of fun _ _ => ?_
  have e : min k.toNat 64 = k.toNat := by omega
  have b : 2 ^ k.toNat ≤ 2 ^ 49 := Nat.pow_le_pow_right (by omega) (by omega)
  have b2 : (2 : Int) ^ k.toNat ≤ 562949953421312 := by
    have : ((2 ^ k.toNat : Nat) : Int) ≤ ((2 ^ 49 : Nat) : Int) := Int.ofNat_le.2 b
    simpa using this
  have b3 : (0 : Int) ≤ (2 : Int) ^ k.toNat := Int.le_of_lt (Int.pow_pos (by omega))
  have b4 : n * 2 ^ k.toNat ≤ 127 * 562949953421312 := Int.mul_le_mul (by omega) b2 b3 (by omega)
  have b5 : 0 ≤ n * 2 ^ k.toNat := Int.mul_nonneg h0 b3
  have hw : IntKind.i64.wrap (n * 2 ^ k.toNat) = n * 2 ^ k.toNat := w64 (by omega) (by omega)
  have hn : ¬ k < 0 := by omega
  simp [eqGuard, binOp, Op.shift, IntKind.bits, hn, e, hw]
  rfl
theorem vBin_orN {t : TypeId} {n M : Nat} (he : n ||| M = n + M) (h2 : n + M < 9223372036854775808) : vBin P .or t (.int .i64 n) (.int .i64 M) K ↔ K (.int .i64 (n + M : Nat)) := by
  have key : (BitVec.ofInt 64 (n : Int) ||| BitVec.ofInt 64 (M : Int)).toNat = n + M := by
    rw [BitVec.toNat_or, ofInt_toNat (by omega) (by omega), ofInt_toNat (by omega) (by omega)]
    exact he
  refine vBin_of fun _ _ => ?_
  show some (Value.int .i64 (IntKind.i64.wrap ((BitVec.ofInt 64 (n : Int) ||| BitVec.ofInt 64 (M : Int)).toNat))) = _
  rw [key, w64 (by omega) (by omega)]
theorem or_dis {n m i : Nat} (h0 : n < 2 ^ i) : n ||| (m * 2 ^ i) = n + m * 2 ^ i := by
  rw [Nat.or_comm, Nat.mul_comm, ← Nat.two_pow_add_eq_or_of_lt h0]
  omega
theorem pow7 (i : Nat) : 2 ^ (7 * i) = 128 ^ i := by rw [Nat.pow_mul]
end

/-- A reader at p. -/
def RdAt (h : PH) (p : Nat) (s : ByteArray) (at_ : Nat) : Prop := h p = some (.cells #[.string s, .int .i64 at_] 135 (0, 0))
def putRd (h : PH) (p : Nat) (s : ByteArray) (at_ : Nat) : PH := ins h p (.cells #[.string s, .int .i64 at_] 135 (0, 0))
def fault (e : Int) : List PanicEntry := [{ v := .iface 178 (.int .i64 e), recovered := false }]
section
variable {h : PH} {R : AEnd → PH → Prop} {p : Nat} {s : ByteArray}
theorem rd_number {at_ : Nat} (hr : RdAt h p s at_) (hz : s.size < 9223372036854775807)
    (hok : ∀ n next, rdNum s.data.toList at_ = .ok n next → R (.ret (.int .i64 n)) (putRd h p s next))
    (hbad : ∀ e j, rdNum s.data.toList at_ = .bad e → R (.pan (fault e)) (putRd h p s j)) :
    ACalls Tryz.prog 60 #[ptr p] h R := by
  refine call60 ?_
  unfold sh60
  have h0 : putRd h p s at_ = h := ins_self hr
  refine lf_intro (fun m s' g => ∃ (i n j : Nat), s' = (.int .i64 0, .int .i64 n, .int .i64 i) ∧ m = 8 - i ∧ i < 8 ∧ n < 128 ^ i ∧ g = putRd h p s j ∧ rdN s.data.toList (8 - i) i n j = rdNum s.data.toList at_) 8 ⟨0, 0, at_, rfl, rfl, by omega, by omega, h0.symm, rfl⟩ ?_
  rintro m s' g ⟨i, n, j, rfl, rfl, hi, hn, rfl, hrd⟩
  have hp : putRd h p s j p = some (.cells #[.string s, .int .i64 j] 135 (0, 0)) := ins_eq _ _ _
  have q0 : (#[Value.string s, .int .i64 j] : Array Value)[0 + 0]? = some (.string s) := rfl
  have q1 : (#[Value.string s, .int .i64 j] : Array Value)[0 + 1]? = some (.int .i64 j) := rfl
  obtain ⟨fu, hfu⟩ : ∃ fu, 8 - i = fu + 1 := ⟨7 - i, by omega⟩
  rw [hfu, rdN] at hrd
  cases hc : s.data.toList[j]? with
  | none =>
    rw [hc] at hrd
    have hjs : s.size ≤ j := by
      have := List.getElem?_eq_none_iff.1 hc
      rw [Array.length_toList] at this
      exact this
    unfold b60_4
    simp only [vNil_p, vFA_p, vLoad_1 hp q0, vLoad_1 hp q1, vLenStr_s, vBin_geq, dIf_b, decide_eq_true_eq, decide_eq_false_iff_not]
    refine ⟨fun _ => ?_, fun hlt => absurd (by omega) hlt⟩
    simp only [vIface_v]
    exact ⟨_, _, rfl, hbad 10 j hrd.symm⟩
  | some c =>
    rw [hc] at hrd
    simp only at hrd
    have hjs : j < s.size := by
      have := (List.getElem?_eq_some_iff.1 hc).1
      rw [Array.length_toList] at this
      exact this
    have hcd : s.data[j]? = some c := by rw [← Array.getElem?_toList]; exact hc
    have hc8 : c.toNat < 256 := c.toNat_lt
    unfold b60_4
    simp only [vNil_p, vFA_p, vLoad_1 hp q0, vLoad_1 hp q1, vLenStr_s, vBin_geq, dIf_b, decide_eq_true_eq, decide_eq_false_iff_not]
    refine ⟨fun hge => absurd hge (by omega), fun _ => ?_⟩
    refine ⟨s, .i64, j, c, rfl, rfl, by omega, by simpa using hcd, ?_⟩
    simp only [vConvI_i, vBin_add]
    rw [w64 (by omega) (by omega), w64 (by omega) (by omega)]
    refine (vStore_1 hp (by simp) rfl).2 ?_
    have hset : ins (putRd h p s j) p (.cells ((#[Value.string s, .int .i64 j] : Array Value).setIfInBounds (0 + 1) (.int .i64 ((j : Int) + 1))) 135 (0, 0)) = putRd h p s (j + 1) := by
      show ins (ins _ _ _) _ _ = _
      rw [ins_ins]; rfl
    rw [hset]
    rw [vBin_and127 _ (by omega) (by omega)]
    simp only [vBin_mul]
    rw [w64 (by omega) (by omega), vBin_shl (by omega) (by omega) (by omega) (by omega)]
    have e1 : ((c.toNat : Int) % 128 * 2 ^ ((7 : Int) * (i : Int)).toNat) = ((c.toNat % 128 * 2 ^ (7 * i) : Nat) : Int) := by
      rw [show ((7 : Int) * (i : Int)).toNat = 7 * i by omega]; simp
    have hb : (c.toNat % 128) * 2 ^ (7 * i) ≤ 127 * 2 ^ 49 := Nat.mul_le_mul (by omega) (Nat.pow_le_pow_right (by omega) (by omega))
    have hn2 : n < 2 ^ (7 * i) := by rw [pow7]; exact hn
    have hn3 : 2 ^ (7 * i) ≤ 2 ^ 49 := Nat.pow_le_pow_right (by omega) (by omega)
    rw [e1, vBin_orN (or_dis hn2) (by omega)]
    rw [pow7] at hb hn2 hn3 ⊢
    generalize hN : n + c.toNat % 128 * 128 ^ i = N at hrd ⊢
    have hNb : N ≤ 72057594037927936 := by omega
    simp only [vBin_geq, dIf_b, decide_eq_true_eq, decide_eq_false_iff_not]
    refine ⟨fun hge => ?_, fun hlt => ?_⟩
    · rw [if_pos (by omega)] at hrd
      simp only [vBin_eql, dIf_b, decide_eq_true_eq, decide_eq_false_iff_not]
      refine ⟨fun h7 => ?_, fun h7 => ?_⟩
      · rw [if_pos (by omega)] at hrd
        exact ⟨_, _, rfl, hbad 11 (j + 1) hrd.symm⟩
      · rw [if_neg (by omega)] at hrd
        rw [w64 (by omega) (by omega)]
        refine ⟨by trivial, 8 - (i + 1), by omega, i + 1, N, j + 1, rfl, rfl, by omega, ?_, rfl, ?_⟩
        · have e5 : 128 ^ (i + 1) = 128 * 128 ^ i := by rw [Nat.pow_succ, Nat.mul_comm]
          have e6 : c.toNat % 128 * 128 ^ i ≤ 127 * 128 ^ i := Nat.mul_le_mul_right _ (by omega)
          omega
        · rw [show 8 - (i + 1) = fu by omega]; exact hrd
    · rw [if_neg (by omega)] at hrd
      obtain ⟨b0, hb0⟩ : ∃ b0, b0 = decide ((c.toNat : Int) = 0) := ⟨_, rfl⟩
      obtain ⟨b1, hb1⟩ : ∃ b1, b1 = decide (0 < (i : Int)) := ⟨_, rfl⟩
      obtain ⟨b2, hb2⟩ : ∃ b2, b2 = decide (9007199254740992 < (N : Int)) := ⟨_, rfl⟩
      have n0 : ∀ {K : Value → Prop}, vBin Tryz.prog .eql 3 (.int .i64 (c.toNat : Int)) (.int .i64 0) K ↔ K (.bool b0) := fun {K} => by rw [hb0]; exact vBin_eql _ _ _ _
      have n1 : ∀ {K : Value → Prop}, vBin Tryz.prog .gtr 3 (.int .i64 (i : Int)) (.int .i64 0) K ↔ K (.bool b1) := fun {K} => by rw [hb1]; exact vBin_gtr _ _ _ _
      have n2 : ∀ {K : Value → Prop}, vBin Tryz.prog .gtr 3 (.int .i64 (N : Int)) (.int .i64 9007199254740992) K ↔ K (.bool b2) := fun {K} => by rw [hb2]; exact vBin_gtr _ _ _ _
      have hT : (b0 && b1 || b2) = true → rdNum s.data.toList at_ = .bad 11 := fun hh => by
        rw [hb0, hb1, hb2] at hh
        simp only [Bool.or_eq_true, Bool.and_eq_true, decide_eq_true_eq] at hh
        rw [if_pos (by omega)] at hrd
        exact hrd.symm
      have hF : (b0 && b1 || b2) = false → rdNum s.data.toList at_ = .ok N (j + 1) := fun hh => by
        rw [hb0, hb1, hb2] at hh
        simp only [Bool.or_eq_false_iff, Bool.and_eq_false_iff, decide_eq_false_iff_not] at hh
        rw [if_neg (by omega)] at hrd
        exact hrd.symm
      clear hb0 hb1 hb2 hrd
      have bad : rdNum s.data.toList at_ = .bad 11 → ∃ t v, Value.iface 178 (.int .i64 11) = .iface t v ∧ R (.pan [{ v := .iface t v, recovered := false }]) (putRd h p s (j + 1)) := fun hh => ⟨_, _, rfl, hbad 11 (j + 1) hh⟩
      have good : rdNum s.data.toList at_ = .ok N (j + 1) → exq (fun ρ => ρ 2) (.int .i64 (N : Int)) (fun r h_1 => R (.ret (r 2)) h_1) (putRd h p s (j + 1)) := fun hh => by
        intro r hr
        rw [show r 2 = _ from hr]
        exact hok N (j + 1) hh
      cases b0 <;> cases b1 <;> cases b2 <;> simp only [n0, n1, n2, boolOf_b, gq_b, vPick_b, cond_true, cond_false, dIf_b, Bool.false_eq_true, Bool.true_eq_false, ne_eq, not_true_eq_false, not_false_eq_true, false_implies, forall_const, true_and, and_true, gq_n, boolOf_u, vIface_v] <;>
        first | exact good (hF rfl) | exact bad (hT rfl)
end
end Go.Pw
/- GetInt and GetText: what is read, or why not. -/
set_option linter.unusedSimpArgs false
set_option linter.unusedVariables false
namespace Go.Pw
open Go Go.Proofs

section
variable {h : PH} {R : AEnd → PH → Prop} {K : Value → Prop}
theorem caught_ok {e : Int} (hR : R (.ret (.int .i64 e)) h) : ACalls Tryz.prog 59 #[.iface 178 (.int .i64 e)] h R := by
  refine call59 ?_
  unfold sh59
  refine ⟨.tuple #[.int .i64 e, .bool true], by kernel_rfl, ?_⟩
  simp [hR]
theorem any_neq (e : Int) : vBin Tryz.prog .neq 20 (.iface 178 (.int .i64 e)) .nilIface K ↔ K (.bool true) := vBin_of fun x y => by kernel_rfl
theorem any_nil : vBin Tryz.prog .neq 20 .nilIface .nilIface K ↔ K (.bool false) := vBin_of fun x y => by cases x <;> cases y <;> kernel_rfl

variable {g : PH} {e : TypeId} {a b c : Nat} {v4 v5 v6 : Value}
end
end Go.Pw
/- GetText: a text that is read, or why not. -/
set_option linter.unusedSimpArgs false
set_option linter.unusedVariables false
namespace Go.Pw
open Go Go.Proofs

section
variable {h : PH} {R : AEnd → PH → Prop} {K : Value → Prop} {p : Nat} {s : ByteArray}
theorem rdN_le {s : List UInt8} : ∀ (fuel i n at_ m next : Nat), rdN s fuel i n at_ = .ok m next → next ≤ s.length
  | 0, i, n, at_, m, next, h => by simp [rdN] at h
  | fuel + 1, i, n, at_, m, next, h => by
    rw [rdN] at h
    cases hc : s[at_]? with
    | none => rw [hc] at h; cases h
    | some c =>
      rw [hc] at h
      simp only at h
      have hl := (List.getElem?_eq_some_iff.1 hc).1
      split at h
      · split at h
        · cases h
        · exact rdN_le fuel _ _ _ _ _ h
      · split at h
        · cases h
        · cases h; omega
theorem rd_bytes {j n : Nat} (hr : RdAt h p s j) (hz : s.size < 4611686018427387904) (hj : j < 4611686018427387904) (hn : n ≤ 1048576)
    (hok : ¬ s.size < j + n → R (.ret (.string (s.extract j (j + n)))) (putRd h p s (j + n))) (hbad : s.size < j + n → R (.pan (fault 10)) h) :
    ACalls Tryz.prog 61 #[ptr p, .int .i64 n] h R := by
  refine call61 ?_
  unfold sh61
  have q0 : (#[Value.string s, .int .i64 j] : Array Value)[0 + 0]? = some (.string s) := rfl
  have q1 : (#[Value.string s, .int .i64 j] : Array Value)[0 + 1]? = some (.int .i64 j) := rfl
  simp only [vNil_p, vFA_p, vLoad_1 hr q0, vLoad_1 hr q1, vLenStr_s, vBin_sub]
  rw [w64 (by omega) (by omega)]
  simp only [vBin_gtr, dIf_b, decide_eq_true_eq, decide_eq_false_iff_not]
  refine ⟨fun hgt => ⟨_, _, rfl, hbad (by omega)⟩, fun hle => ?_⟩
  simp only [vBin_add]
  rw [w64 (by omega) (by omega)]
  refine (vStore_1 hr (by simp) rfl).2 ?_
  have hset : ins h p (.cells ((#[Value.string s, .int .i64 j] : Array Value).setIfInBounds (0 + 1) (.int .i64 ((j : Int) + (n : Int)))) 135 (0, 0)) = putRd h p s (j + n) := rfl
  rw [hset]
  have hp : putRd h p s (j + n) p = some (.cells #[.string s, .int .i64 (j + n : Nat)] 135 (0, 0)) := ins_eq _ _ _
  have r0 : (#[Value.string s, .int .i64 (j + n : Nat)] : Array Value)[0 + 0]? = some (.string s) := rfl
  have r1 : (#[Value.string s, .int .i64 (j + n : Nat)] : Array Value)[0 + 1]? = some (.int .i64 (j + n : Nat)) := rfl
  simp only [vLoad_1 hp r0, vLoad_1 hp r1, vBin_sub]
  rw [w64 (by omega) (by omega)]
  refine ⟨s, rfl, .i64, _, rfl, by omega, by omega, .i64, _, rfl, by omega, by omega, ?_⟩
  rw [Int.toNat_natCast, show (((j + n : Nat) : Int) - (n : Int)).toNat = j by omega]
  exact hok (by omega)
variable {g : PH} {e : TypeId} {a b c : Nat} {v4 v5 v6 : Value}
end
end Go.Pw
/- The numbers of an account's record, read one behind the other. -/
set_option linter.unusedSimpArgs false
set_option linter.unusedVariables false
namespace Go.Pw
open Go Go.Proofs

theorem rdN_bad {s : List UInt8} : ∀ (fuel i n at_ : Nat) (e : Int), rdN s fuel i n at_ = .bad e → e = 10 ∨ e = 11
  | 0, i, n, at_, e, h => by rw [rdN] at h; cases h; exact .inr rfl
  | fuel + 1, i, n, at_, e, h => by
    rw [rdN] at h
    cases hc : s[at_]? with
    | none => rw [hc] at h; cases h; exact .inl rfl
    | some c =>
      rw [hc] at h
      simp only at h
      split at h
      · split at h
        · cases h; exact .inr rfl
        · exact rdN_bad fuel _ _ _ _ h
      · split at h
        · cases h; exact .inr rfl
        · cases h
end Go.Pw
/- Ledger.read: an account read from its record. (Under way.) -/
set_option linter.unusedSimpArgs false
set_option linter.unusedVariables false
namespace Go.Pw
open Go Go.Proofs

end Go.Pw
/- ledger.Of: the ledger of records. (Under way.) -/
set_option linter.unusedSimpArgs false
set_option linter.unusedVariables false
namespace Go.Pw
open Go Go.Proofs

/-- The slice of records l lies at v. -/
def RecsAt (h : PH) (v : Value) (l : List (ByteArray × ByteArray)) : Prop :=
  ∃ p cap, v = .slice p l.length cap ∧ l.length ≤ cap ∧ ∀ i a, l[i]? = some a → ∃ b off c e fr, p = some ⟨b, off, none⟩ ∧ h b = some (.cells c e fr) ∧ off + i * 2 + 2 ≤ c.size ∧ c.extract (off + i * 2) (off + i * 2 + 2) = #[.string a.1, .string a.2]

end Go.Pw
/- ledger.Of: the whole. -/
set_option linter.unusedSimpArgs false
set_option linter.unusedVariables false
namespace Go.Pw
open Go Go.Proofs

end Go.Pw
/- A slice of records, told and compared. -/
set_option linter.unusedSimpArgs false
set_option linter.unusedVariables false
namespace Go.Pw
open Go Go.Proofs

section
variable {h : PH} {R : AEnd → PH → Prop}
theorem RecsAt.ld {v : Value} {l : List (ByteArray × ByteArray)} (hv : RecsAt h v l) {i : Nat} {a : ByteArray × ByteArray} (ha : l[i]? = some a) : ∀ {K : Value → Prop}, (vIxS 2 v (.int .i64 i) fun t => vLoad (some 2) t h K) ↔ K (.agg #[.string a.1, .string a.2]) := fun {K} => by
  obtain ⟨p, cap, rfl, hcap, hel⟩ := hv
  obtain ⟨b, off, c, e, fr, rfl, hb, hs, he⟩ := hel i a ha
  have hi := (List.getElem?_eq_some_iff.1 ha).1
  rw [vIxS_p, show off + (i : Int).toNat * 2 = off + i * 2 by omega, vLoad_n hb hs, he]
  exact ⟨fun hh => hh.2.2, fun hh => ⟨by omega, by omega, hh⟩⟩
/-- The records of a ledger. -/
def recsOf (L : Led) (n : Nat) : List (ByteArray × ByteArray) := (List.range n).map fun i => (keyB i, ⟨(payB L i).toArray⟩)
end
end Go.Pw
/- The reference's reader of numbers and texts. -/
set_option linter.unusedSimpArgs false
set_option linter.unusedVariables false
namespace Go.Pw
open Go Go.Proofs

section
variable {h : PH} {R : AEnd → PH → Prop} {s : ByteArray}
theorem rInt_ok {at_ : Nat} (hz : s.size < 4611686018427387000) (ha : at_ < 4611686018427387904)
    (hR : R (.ret (match rdNum s.data.toList at_ with
      | .ok n next => .tuple #[.int .i64 n, .int .i64 next, .int .i64 0]
      | .bad e => .tuple #[.int .i64 0, .int .i64 0, .int .i64 e])) h) : ACalls Tryz.prog 41 #[.string s, .int .i64 at_] h R := by
  refine call41 ?_
  unfold sh41
  refine lf_intro (fun m s' g => ∃ (i n : Nat), s' = (.int .i64 0, .int .i64 0, .int .i64 0, .int .i64 n, .int .i64 (128 ^ i : Nat), .int .i64 i) ∧ m = 8 - i ∧ i ≤ 8 ∧ n < 128 ^ i ∧ g = h ∧ rdN s.data.toList (8 - i) i n (at_ + i) = rdNum s.data.toList at_) 8 ⟨0, 0, rfl, rfl, by omega, by omega, rfl, rfl⟩ ?_
  rintro m s' g ⟨i, n, rfl, rfl, hi, hn, rfl, hrd⟩
  by_cases h8 : i < 8
  · obtain ⟨fu, hfu⟩ : ∃ fu, 8 - i = fu + 1 := ⟨7 - i, by omega⟩
    rw [hfu, rdN] at hrd
    have hp : 128 ^ i ≤ 128 ^ 7 := Nat.pow_le_pow_right (by omega) (by omega)
    have hi8 : (i : Int) < 8 := by omega
    unfold b41_3
    simp only [vBin_lss, hi8, decide_true, dIf_b]
    refine ⟨fun _ => ?_, fun e => absurd e (by simp)⟩
    simp only [vBin_add]
    rw [w64 (by omega) (by omega)]
    simp only [vLenStr_s, vBin_geq, dIf_b, decide_eq_true_eq, decide_eq_false_iff_not]
    cases hc : s.data.toList[at_ + i]? with
    | none =>
      rw [hc] at hrd
      have hjs : s.size ≤ at_ + i := by
        have := List.getElem?_eq_none_iff.1 hc
        rw [Array.length_toList] at this
        exact this
      refine ⟨fun _ => ?_, fun hlt => absurd (by omega) hlt⟩
      intro r hr
      simp only [Prod.mk.injEq] at hr
      rw [hr.1, hr.2.1, hr.2.2]
      rw [← hrd] at hR
      exact hR
    | some c =>
      rw [hc] at hrd
      simp only at hrd
      have hjs : at_ + i < s.size := by
        have := (List.getElem?_eq_some_iff.1 hc).1
        rw [Array.length_toList] at this
        exact this
      have hcd : s.data[at_ + i]? = some c := by rw [← Array.getElem?_toList]; exact hc
      have hc8 : c.toNat < 256 := c.toNat_lt
      refine ⟨fun hge => absurd hge (by omega), fun _ => ?_⟩
      refine ⟨s, .i64, _, c, rfl, rfl, by omega, by rw [show ((at_ : Int) + (i : Int)).toNat = at_ + i by omega]; exact hcd, ?_⟩
      simp only [vConvI_i]
      rw [w64 (by omega) (by omega), vBin_rem _ _ _ _ (by omega)]
      have e1 : ((c.toNat : Int).tmod 128) = ((c.toNat % 128 : Nat) : Int) := by rw [Int.tmod_eq_emod_of_nonneg (by omega)]; omega
      have hb : (c.toNat % 128) * 128 ^ i ≤ 127 * 128 ^ 7 := Nat.mul_le_mul (by omega) hp
      have e2 : ((c.toNat % 128 : Nat) : Int) * ((128 ^ i : Nat) : Int) = ((c.toNat % 128 * 128 ^ i : Nat) : Int) := by rw [Int.natCast_mul]
      rw [e1]
      simp only [vBin_mul]
      rw [e2, w64 (by omega) (by omega)]
      simp only [vBin_add]
      have e3 : (n : Int) + ((c.toNat % 128 * 128 ^ i : Nat) : Int) = ((n + c.toNat % 128 * 128 ^ i : Nat) : Int) := by omega
      rw [e3, w64 (by omega) (by omega)]
      have e5 : 128 ^ (i + 1) = 128 * 128 ^ i := by rw [Nat.pow_succ, Nat.mul_comm]
      have e6 : c.toNat % 128 * 128 ^ i ≤ 127 * 128 ^ i := Nat.mul_le_mul_right _ (by omega)
      have e7 : ((128 ^ i : Nat) : Int) * 128 = ((128 ^ (i + 1) : Nat) : Int) := by rw [e5]; omega
      rw [e7, w64 (by omega) (by omega)]
      generalize hN : n + c.toNat % 128 * 128 ^ i = N at hrd ⊢
      simp only [vBin_geq, dIf_b, decide_eq_true_eq, decide_eq_false_iff_not]
      refine ⟨fun hge => ?_, fun hlt => ?_⟩
      · rw [if_pos (by omega)] at hrd
        rw [w64 (by omega) (by omega)]
        refine ⟨by trivial, 8 - (i + 1), by omega, i + 1, N, rfl, rfl, by omega, by omega, by trivial, ?_⟩
        by_cases h7 : i = 7
        · rw [if_pos h7] at hrd
          subst h7
          rw [← hrd]
          rfl
        · rw [if_neg h7] at hrd
          rw [show 8 - (i + 1) = fu by omega, show at_ + (i + 1) = at_ + i + 1 by omega]
          exact hrd
      · rw [if_neg (by omega)] at hrd
        obtain ⟨b0, hb0⟩ : ∃ b0, b0 = decide ((c.toNat : Int) = 0) := ⟨_, rfl⟩
        obtain ⟨b1, hb1⟩ : ∃ b1, b1 = decide (0 < (i : Int)) := ⟨_, rfl⟩
        obtain ⟨b2, hb2⟩ : ∃ b2, b2 = decide (9007199254740992 < (N : Int)) := ⟨_, rfl⟩
        have n0 : ∀ {K : Value → Prop}, vBin Tryz.prog .eql 3 (.int .i64 (c.toNat : Int)) (.int .i64 0) K ↔ K (.bool b0) := fun {K} => by rw [hb0]; exact vBin_eql _ _ _ _
        have n1 : ∀ {K : Value → Prop}, vBin Tryz.prog .gtr 3 (.int .i64 (i : Int)) (.int .i64 0) K ↔ K (.bool b1) := fun {K} => by rw [hb1]; exact vBin_gtr _ _ _ _
        have n2 : ∀ {K : Value → Prop}, vBin Tryz.prog .gtr 3 (.int .i64 (N : Int)) (.int .i64 9007199254740992) K ↔ K (.bool b2) := fun {K} => by rw [hb2]; exact vBin_gtr _ _ _ _
        have hT : (b0 && b1 || b2) = true → rdNum s.data.toList at_ = .bad 11 := fun hh => by
          rw [hb0, hb1, hb2] at hh
          simp only [Bool.or_eq_true, Bool.and_eq_true, decide_eq_true_eq] at hh
          rw [if_pos (by omega)] at hrd
          exact hrd.symm
        have hF : (b0 && b1 || b2) = false → rdNum s.data.toList at_ = .ok N (at_ + i + 1) := fun hh => by
          rw [hb0, hb1, hb2] at hh
          simp only [Bool.or_eq_false_iff, Bool.and_eq_false_iff, decide_eq_false_iff_not] at hh
          rw [if_neg (by omega)] at hrd
          exact hrd.symm
        clear hb0 hb1 hb2 hrd
        have bad : rdNum s.data.toList at_ = .bad 11 → exq (fun ρ => (ρ 4, ρ 5, ρ 6)) (Value.int .i64 0, Value.int .i64 0, Value.int .i64 11) (fun r h_2 => R (.ret (.tuple #[(r 4), (r 5), (r 6)])) h_2) g := fun hh => by
          intro r hr
          simp only [Prod.mk.injEq] at hr
          rw [hr.1, hr.2.1, hr.2.2]
          rw [hh] at hR
          exact hR
        have good : rdNum s.data.toList at_ = .ok N (at_ + i + 1) → exq (fun ρ => (ρ 4, ρ 5, ρ 6)) (Value.int .i64 (N : Int), Value.int .i64 (IntKind.i64.wrap (((at_ : Int) + (i : Int)) + 1)), Value.int .i64 0) (fun r h_2 => R (.ret (.tuple #[(r 4), (r 5), (r 6)])) h_2) g := fun hh => by
          intro r hr
          simp only [Prod.mk.injEq] at hr
          rw [hr.1, hr.2.1, hr.2.2, w64 (by omega) (by omega)]
          rw [hh] at hR
          exact hR
        have hw : IntKind.i64.wrap ((at_ : Int) + (i : Int)) = (at_ : Int) + (i : Int) := w64 (by omega) (by omega)
        cases b0 <;> cases b1 <;> cases b2 <;> simp only [n0, n1, n2, boolOf_b, gq_b, vPick_b, cond_true, cond_false, dIf_b, Bool.false_eq_true, Bool.true_eq_false, ne_eq, not_true_eq_false, not_false_eq_true, false_implies, forall_const, true_and, and_true, gq_n, boolOf_u, vBin_add, hw] <;>
          first | exact good (hF rfl) | exact bad (hT rfl)
  · have e8 : i = 8 := by omega
    subst e8
    unfold b41_3
    simp only [vBin_lss, dIf_b]
    refine ⟨fun e => absurd e (by decide), fun _ => ?_⟩
    intro r hr
    rw [← hrd] at hR
    exact hR

end
end Go.Pw

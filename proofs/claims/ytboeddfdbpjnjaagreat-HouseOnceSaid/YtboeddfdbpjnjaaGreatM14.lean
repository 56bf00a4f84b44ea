/- Texts of this claim, one behind the other. -/
import Derived.Test.YtboeddfdbpjnjaaGreatM10
import Derived.Test.YtboeddfdbpjnjaaGreatM13
/- The wire's reader of numbers. -/
set_option linter.unusedSimpArgs false
set_option linter.unusedVariables false
namespace Go.Pw
open Go Go.Proofs

/-- What a reader ends with: a value and the place behind it, or why not. -/
inductive Rd (α : Type) where
  | ok (n : α) (next : Nat)
  | bad (e : Int)
/-- A number read: i: which letter; n: what came so far. -/
def rdN (s : List UInt8) : Nat → Nat → Nat → Nat → Rd Nat
  | 0, i, n, at_ => .bad 11
  | fuel + 1, i, n, at_ => match s[at_]? with
    | none => .bad 10
    | some c =>
      if 128 ≤ c.toNat then (if i = 7 then .bad 11 else rdN s fuel (i + 1) (n + c.toNat % 128 * 128 ^ i) (at_ + 1))
      else if (c.toNat = 0 ∧ 0 < i) ∨ 9007199254740992 < n + c.toNat % 128 * 128 ^ i then .bad 11 else .ok (n + c.toNat % 128 * 128 ^ i) (at_ + 1)
def rdNum (s : List UInt8) (at_ : Nat) : Rd Nat := rdN s 8 0 0 at_

section
variable {P : Program} {K : Value → Prop}
theorem vBin_shl {t : TypeId} {n k : Int} (h0 : 0 ≤ n) (hk : 0 ≤ k) (hk2 : k ≤ 49) (h1 : n < 128) : vBin P .shl t (.int .i64 n) (.int .i64 k) K ↔ K (.int .i64 (n * 2 ^ k.toNat)) := by
  refine vBin_of fun _ _ => ?_
  have e : min k.toNat 64 = k.toNat := by omega
  have b : 2 ^ k.toNat ≤ 2 ^ 49 := Nat.pow_le_pow_right (by omega) (by omega)
  have b2 : (2 : Int) ^ k.toNat ≤ 562949953421312 := by
    have : ((2 ^ k.toNat : Nat) : Int) ≤ ((2 ^ 49 : Nat) : Int) := Int.ofNat_le.2 b
    simpa using this
  have b3 : (0 : Int) ≤ (2 : Int) ^ k.toNat := Int.le_of_lt (Int.pow_pos (by omega))
  have b4 : n * 2 ^ k.toNat ≤ 127 * 562949953421312 := Int.mul_le_mul (by omega) b2 b3 (by omega)
  have b5 : 0 ≤ n * 2 ^ k.toNat := Int.mul_nonneg h0 b3
  have hw : IntKind.i64.wrap (n * 2 ^ k.toNat) = n * 2 ^ k.toNat := w64 (by omega) (by omega)
  have hn : ¬ k < 0 := by omega
  simp [eqGuard, binOp, Op.shift, IntKind.bits, hn, e, hw]
  rfl
theorem vBin_orN {t : TypeId} {n M : Nat} (he : n ||| M = n + M) (h2 : n + M < 9223372036854775808) : vBin P .or t (.int .i64 n) (.int .i64 M) K ↔ K (.int .i64 (n + M : Nat)) := by
  have key : (BitVec.ofInt 64 (n : Int) ||| BitVec.ofInt 64 (M : Int)).toNat = n + M := by
    rw [BitVec.toNat_or, ofInt_toNat (by omega) (by omega), ofInt_toNat (by omega) (by omega)]
    exact he
  refine vBin_of fun _ _ => ?_
  show some (Value.int .i64 (IntKind.i64.wrap ((BitVec.ofInt 64 (n : Int) ||| BitVec.ofInt 64 (M : Int)).toNat))) = _
  rw [key, w64 (by omega) (by omega)]
theorem or_dis {n m i : Nat} (h0 : n < 2 ^ i) : n ||| (m * 2 ^ i) = n + m * 2 ^ i := by
  rw [Nat.or_comm, Nat.mul_comm, ← Nat.two_pow_add_eq_or_of_lt h0]
  omega
theorem pow7 (i : Nat) : 2 ^ (7 * i) = 128 ^ i := by rw [Nat.pow_mul]
end

/-- A reader at p. -/
def RdAt (h : PH) (p : Nat) (s : ByteArray) (at_ : Nat) : Prop := h p = some (.cells #[.string s, .int .i64 at_] 135 (0, 0))
def putRd (h : PH) (p : Nat) (s : ByteArray) (at_ : Nat) : PH := ins h p (.cells #[.string s, .int .i64 at_] 135 (0, 0))
def fault (e : Int) : List PanicEntry := [{ v := .iface 178 (.int .i64 e), recovered := false }]
section
variable {h : PH} {R : AEnd → PH → Prop} {p : Nat} {s : ByteArray}
theorem rd_number {at_ : Nat} (hr : RdAt h p s at_) (hz : s.size < 9223372036854775807)
    (hok : ∀ n next, rdNum s.data.toList at_ = .ok n next → R (.ret (.int .i64 n)) (putRd h p s next))
    (hbad : ∀ e j, rdNum s.data.toList at_ = .bad e → R (.pan (fault e)) (putRd h p s j)) :
    ACalls Tryz.prog 60 #[ptr p] h R := by
  refine call60 ?_
  unfold sh60
  have h0 : putRd h p s at_ = h := ins_self hr
  refine lf_intro (fun m s' g => ∃ (i n j : Nat), s' = (.int .i64 0, .int .i64 n, .int .i64 i) ∧ m = 8 - i ∧ i < 8 ∧ n < 128 ^ i ∧ g = putRd h p s j ∧ rdN s.data.toList (8 - i) i n j = rdNum s.data.toList at_) 8 ⟨0, 0, at_, rfl, rfl, by omega, by omega, h0.symm, rfl⟩ ?_
  rintro m s' g ⟨i, n, j, rfl, rfl, hi, hn, rfl, hrd⟩
  have hp : putRd h p s j p = some (.cells #[.string s, .int .i64 j] 135 (0, 0)) := ins_eq _ _ _
  have q0 : (#[Value.string s, .int .i64 j] : Array Value)[0 + 0]? = some (.string s) := rfl
  have q1 : (#[Value.string s, .int .i64 j] : Array Value)[0 + 1]? = some (.int .i64 j) := rfl
  obtain ⟨fu, hfu⟩ : ∃ fu, 8 - i = fu + 1 := ⟨7 - i, by omega⟩
  rw [hfu, rdN] at hrd
  cases hc : s.data.toList[j]? with
  | none =>
    rw [hc] at hrd
    have hjs : s.size ≤ j := by
      have := List.getElem?_eq_none_iff.1 hc
      rw [Array.length_toList] at this
      exact this
    unfold b60_4
    simp only [vNil_p, vFA_p, vLoad_1 hp q0, vLoad_1 hp q1, vLenStr_s, vBin_geq, dIf_b, decide_eq_true_eq, decide_eq_false_iff_not]
    refine ⟨fun _ => ?_, fun hlt => absurd (by omega) hlt⟩
    simp only [vIface_v]
    exact ⟨_, _, rfl, hbad 10 j hrd.symm⟩
  | some c =>
    rw [hc] at hrd
    simp only at hrd
    have hjs : j < s.size := by
      have := (List.getElem?_eq_some_iff.1 hc).1
      rw [Array.length_toList] at this
      exact this
    have hcd : s.data[j]? = some c := by rw [← Array.getElem?_toList]; exact hc
    have hc8 : c.toNat < 256 := c.toNat_lt
    unfold b60_4
    simp only [vNil_p, vFA_p, vLoad_1 hp q0, vLoad_1 hp q1, vLenStr_s, vBin_geq, dIf_b, decide_eq_true_eq, decide_eq_false_iff_not]
    refine ⟨fun hge => absurd hge (by omega), fun _ => ?_⟩
    refine ⟨s, .i64, j, c, rfl, rfl, by omega, by simpa using hcd, ?_⟩
    simp only [vConvI_i, vBin_add]
    rw [w64 (by omega) (by omega), w64 (by omega) (by omega)]
    refine (vStore_1 hp (by simp) rfl).2 ?_
    have hset : ins (putRd h p s j) p (.cells ((#[Value.string s, .int .i64 j] : Array Value).setIfInBounds (0 + 1) (.int .i64 ((j : Int) + 1))) 135 (0, 0)) = putRd h p s (j + 1) := by
      show ins (ins _ _ _) _ _ = _
      rw [ins_ins]; rfl
    rw [hset]
    rw [vBin_and127 _ (by omega) (by omega)]
    simp only [vBin_mul]
    rw [w64 (by omega) (by omega), vBin_shl (by omega) (by omega) (by omega) (by omega)]
    have e1 : ((c.toNat : Int) % 128 * 2 ^ ((7 : Int) * (i : Int)).toNat) = ((c.toNat % 128 * 2 ^ (7 * i) : Nat) : Int) := by
      rw [show ((7 : Int) * (i : Int)).toNat = 7 * i by omega]; simp
    have hb : (c.toNat % 128) * 2 ^ (7 * i) ≤ 127 * 2 ^ 49 := Nat.mul_le_mul (by omega) (Nat.pow_le_pow_right (by omega) (by omega))
    have hn2 : n < 2 ^ (7 * i) := by rw [pow7]; exact hn
    have hn3 : 2 ^ (7 * i) ≤ 2 ^ 49 := Nat.pow_le_pow_right (by omega) (by omega)
    rw [e1, vBin_orN (or_dis hn2) (by omega)]
    rw [pow7] at hb hn2 hn3 ⊢
    generalize hN : n + c.toNat % 128 * 128 ^ i = N at hrd ⊢
    have hNb : N ≤ 72057594037927936 := by omega
    simp only [vBin_geq, dIf_b, decide_eq_true_eq, decide_eq_false_iff_not]
    refine ⟨fun hge => ?_, fun hlt => ?_⟩
    · rw [if_pos (by omega)] at hrd
      simp only [vBin_eql, dIf_b, decide_eq_true_eq, decide_eq_false_iff_not]
      refine ⟨fun h7 => ?_, fun h7 => ?_⟩
      · rw [if_pos (by omega)] at hrd
        exact ⟨_, _, rfl, hbad 11 (j + 1) hrd.symm⟩
      · rw [if_neg (by omega)] at hrd
        rw [w64 (by omega) (by omega)]
        refine ⟨by trivial, 8 - (i + 1), by omega, i + 1, N, j + 1, rfl, rfl, by omega, ?_, rfl, ?_⟩
        · have e5 : 128 ^ (i + 1) = 128 * 128 ^ i := by rw [Nat.pow_succ, Nat.mul_comm]
          have e6 : c.toNat % 128 * 128 ^ i ≤ 127 * 128 ^ i := Nat.mul_le_mul_right _ (by omega)
          omega
        · rw [show 8 - (i + 1) = fu by omega]; exact hrd
    · rw [if_neg (by omega)] at hrd
      obtain ⟨b0, hb0⟩ : ∃ b0, b0 = decide ((c.toNat : Int) = 0) := ⟨_, rfl⟩
      obtain ⟨b1, hb1⟩ : ∃ b1, b1 = decide (0 < (i : Int)) := ⟨_, rfl⟩
      obtain ⟨b2, hb2⟩ : ∃ b2, b2 = decide (9007199254740992 < (N : Int)) := ⟨_, rfl⟩
      have n0 : ∀ {K : Value → Prop}, vBin Tryz.prog .eql 3 (.int .i64 (c.toNat : Int)) (.int .i64 0) K ↔ K (.bool b0) := fun {K} => by rw [hb0]; exact vBin_eql _ _ _ _
      have n1 : ∀ {K : Value → Prop}, vBin Tryz.prog .gtr 3 (.int .i64 (i : Int)) (.int .i64 0) K ↔ K (.bool b1) := fun {K} => by rw [hb1]; exact vBin_gtr _ _ _ _
      have n2 : ∀ {K : Value → Prop}, vBin Tryz.prog .gtr 3 (.int .i64 (N : Int)) (.int .i64 9007199254740992) K ↔ K (.bool b2) := fun {K} => by rw [hb2]; exact vBin_gtr _ _ _ _
      have hT : (b0 && b1 || b2) = true → rdNum s.data.toList at_ = .bad 11 := fun hh => by
        rw [hb0, hb1, hb2] at hh
        simp only [Bool.or_eq_true, Bool.and_eq_true, decide_eq_true_eq] at hh
        rw [if_pos (by omega)] at hrd
        exact hrd.symm
      have hF : (b0 && b1 || b2) = false → rdNum s.data.toList at_ = .ok N (j + 1) := fun hh => by
        rw [hb0, hb1, hb2] at hh
        simp only [Bool.or_eq_false_iff, Bool.and_eq_false_iff, decide_eq_false_iff_not] at hh
        rw [if_neg (by omega)] at hrd
        exact hrd.symm
      clear hb0 hb1 hb2 hrd
      have bad : rdNum s.data.toList at_ = .bad 11 → ∃ t v, Value.iface 178 (.int .i64 11) = .iface t v ∧ R (.pan [{ v := .iface t v, recovered := false }]) (putRd h p s (j + 1)) := fun hh => ⟨_, _, rfl, hbad 11 (j + 1) hh⟩
      have good : rdNum s.data.toList at_ = .ok N (j + 1) → exq (fun ρ => ρ 2) (.int .i64 (N : Int)) (fun r h_1 => R (.ret (r 2)) h_1) (putRd h p s (j + 1)) := fun hh => by
        intro r hr
        rw [show r 2 = _ from hr]
        exact hok N (j + 1) hh
      cases b0 <;> cases b1 <;> cases b2 <;> simp only [n0, n1, n2, boolOf_b, gq_b, vPick_b, cond_true, cond_false, dIf_b, Bool.false_eq_true, Bool.true_eq_false, ne_eq, not_true_eq_false, not_false_eq_true, false_implies, forall_const, true_and, and_true, gq_n, boolOf_u, vIface_v] <;>
        first | exact good (hF rfl) | exact bad (hT rfl)
end
end Go.Pw
/- GetInt and GetText: what is read, or why not. -/
set_option linter.unusedSimpArgs false
set_option linter.unusedVariables false
namespace Go.Pw
open Go Go.Proofs

section
variable {h : PH} {R : AEnd → PH → Prop} {K : Value → Prop}
theorem caught_ok {e : Int} (hR : R (.ret (.int .i64 e)) h) : ACalls Tryz.prog 59 #[.iface 178 (.int .i64 e)] h R := by
  refine call59 ?_
  unfold sh59
  refine ⟨.tuple #[.int .i64 e, .bool true], by kernel_rfl, ?_⟩
  simp [hR]
theorem any_neq (e : Int) : vBin Tryz.prog .neq 20 (.iface 178 (.int .i64 e)) .nilIface K ↔ K (.bool true) := vBin_of fun x y => by kernel_rfl
theorem any_nil : vBin Tryz.prog .neq 20 .nilIface .nilIface K ↔ K (.bool false) := vBin_of fun x y => by cases x <;> cases y <;> kernel_rfl

/-- Three cells of one's own. -/
structure S3 (h g : PH) (e : TypeId) (a b c : Nat) (v4 v5 v6 : Value) : Prop where
  sub : Sub h g
  a0 : h a = none
  b0 : h b = none
  c0 : h c = none
  ga : g a = some (.cells #[v4] e (0, 0))
  gb : g b = some (.cells #[v5] 3 (0, 0))
  gc : g c = some (.cells #[v6] 30 (0, 0))
  ab : a ≠ b
  ac : a ≠ c
  bc : b ≠ c
variable {g : PH} {e : TypeId} {a b c : Nat} {v4 v5 v6 : Value}
theorem S3.up {g' : PH} (s : S3 h g e a b c v4 v5 v6) (hs : Sub g g') : S3 h g' e a b c v4 v5 v6 := ⟨s.sub.trans hs, s.a0, s.b0, s.c0, hs _ _ s.ga, hs _ _ s.gb, hs _ _ s.gc, s.ab, s.ac, s.bc⟩
theorem S3.other (s : S3 h g e a b c v4 v5 v6) {p : Nat} {o : Obj} (hp : h p = none) (ha : a ≠ p) (hb : b ≠ p) (hc : c ≠ p) : S3 h (ins g p o) e a b c v4 v5 v6 :=
  ⟨Sub.put s.sub hp, s.a0, s.b0, s.c0, by rw [ins_ne _ _ ha]; exact s.ga, by rw [ins_ne _ _ hb]; exact s.gb, by rw [ins_ne _ _ hc]; exact s.gc, s.ab, s.ac, s.bc⟩
theorem S3.st4 {K : PH → Prop} (s : S3 h g e a b c v4 v5 v6) {v : Value} (ho : v.oneCell' = true) (hk : S3 h (ins g a (.cells #[v] e (0, 0))) e a b c v v5 v6 → K (ins g a (.cells #[v] e (0, 0)))) : vStore 1 (.pointer (some ⟨a, 0, none⟩)) v g K := by
  refine (vStore_1 s.ga (by simp) ho).2 ?_
  exact hk ⟨Sub.put s.sub s.a0, s.a0, s.b0, s.c0, ins_eq _ _ _, by rw [ins_ne _ _ (fun e => s.ab e.symm)]; exact s.gb, by rw [ins_ne _ _ (fun e => s.ac e.symm)]; exact s.gc, s.ab, s.ac, s.bc⟩
theorem S3.st5 {K : PH → Prop} (s : S3 h g e a b c v4 v5 v6) {v : Value} (ho : v.oneCell' = true) (hk : S3 h (ins g b (.cells #[v] 3 (0, 0))) e a b c v4 v v6 → K (ins g b (.cells #[v] 3 (0, 0)))) : vStore 1 (.pointer (some ⟨b, 0, none⟩)) v g K := by
  refine (vStore_1 s.gb (by simp) ho).2 ?_
  exact hk ⟨Sub.put s.sub s.b0, s.a0, s.b0, s.c0, by rw [ins_ne _ _ s.ab]; exact s.ga, ins_eq _ _ _, by rw [ins_ne _ _ (fun e => s.bc e.symm)]; exact s.gc, s.ab, s.ac, s.bc⟩
theorem S3.st6 {K : PH → Prop} (s : S3 h g e a b c v4 v5 v6) {v : Value} (ho : v.oneCell' = true) (hk : S3 h (ins g c (.cells #[v] 30 (0, 0))) e a b c v4 v5 v → K (ins g c (.cells #[v] 30 (0, 0)))) : vStore 1 (.pointer (some ⟨c, 0, none⟩)) v g K := by
  refine (vStore_1 s.gc (by simp) ho).2 ?_
  exact hk ⟨Sub.put s.sub s.c0, s.a0, s.b0, s.c0, by rw [ins_ne _ _ s.ac]; exact s.ga, by rw [ins_ne _ _ s.bc]; exact s.gb, ins_eq _ _ _, s.ab, s.ac, s.bc⟩
theorem S3.ld4 (s : S3 h g e a b c v4 v5 v6) : vLoad none (.pointer (some ⟨a, 0, none⟩)) g K ↔ K v4 := vLoad_1 s.ga rfl
theorem S3.ld5 (s : S3 h g e a b c v4 v5 v6) : vLoad none (.pointer (some ⟨b, 0, none⟩)) g K ↔ K v5 := vLoad_1 s.gb rfl
theorem S3.ld6 (s : S3 h g e a b c v4 v5 v6) : vLoad none (.pointer (some ⟨c, 0, none⟩)) g K ↔ K v6 := vLoad_1 s.gc rfl
theorem S3.new {z : Value} {o2 o3 : Value} (ha : h a = none) (hb : ins h a (.cells #[z] e (0, 0)) b = none) (hc : ins (ins h a (.cells #[z] e (0, 0))) b (.cells #[o2] 3 (0, 0)) c = none) :
    S3 h (ins (ins (ins h a (.cells #[z] e (0, 0))) b (.cells #[o2] 3 (0, 0))) c (.cells #[o3] 30 (0, 0))) e a b c z o2 o3 := by
  obtain ⟨hb1, hba⟩ := fresh_of hb
  obtain ⟨hc1, hcb⟩ := fresh_of hc
  obtain ⟨hc2, hca⟩ := fresh_of hc1
  exact ⟨Sub.put (Sub.put (Sub.put (Sub.refl h) ha) hb1) hc2, ha, hb1, hc2, by rw [ins_ne _ _ (fun e => hca e.symm), ins_ne _ _ (fun e => hba e.symm)]; exact ins_eq _ _ _, by rw [ins_ne _ _ (fun e => hcb e.symm)]; exact ins_eq _ _ _, ins_eq _ _ _, fun e => hba e.symm, fun e => hca e.symm, fun e => hcb e.symm⟩

/-- What the closure of GetInt makes of a fault. -/
theorem door_int {v5 : Value} (s : S3 h g 3 a b c v4 v5 v6) (er : Int) (hR : R (.ret (.tuple #[.int .i64 0, .int .i64 0, .int .i64 er])) h) :
    d54 (ptr a) (ptr b) (ptr c) (ptr a) (ptr b) (ptr c) (fun e h' => ∃ g, Sub g h' ∧ R e g) (.iface 178 (.int .i64 er)) g := by
  unfold d54
  rw [any_neq]
  simp only [dIf_b]
  refine ⟨fun _ => ?_, fun e => absurd e (by simp)⟩
  refine caught_ok ?_
  simp only [AEnd.elim]
  refine s.st4 rfl fun s => s.st5 rfl fun s => s.st6 rfl fun s => ?_
  rw [s.ld4, s.ld5, s.ld6]
  exact ⟨h, s.sub, hR⟩
theorem door_int_nil (s : S3 h g 3 a b c v4 v5 v6) (hR : R (.ret (.tuple #[v4, v5, v6])) h) :
    d54 (ptr a) (ptr b) (ptr c) (ptr a) (ptr b) (ptr c) (fun e h' => ∃ g, Sub g h' ∧ R e g) .nilIface g := by
  unfold d54
  rw [any_nil]
  simp only [dIf_b]
  refine ⟨fun e => absurd e (by simp), fun _ => ?_⟩
  rw [s.ld4, s.ld5, s.ld6]
  exact ⟨h, s.sub, hR⟩

theorem getInt_ok {s : ByteArray} {at_ : Int} (hz : s.size < 9223372036854775807)
    (hR : R (.ret (if at_ < 0 ∨ (s.size : Int) < at_ then .tuple #[.int .i64 0, .int .i64 0, .int .i64 1] else match rdNum s.data.toList at_.toNat with
      | .ok n next => .tuple #[.int .i64 n, .int .i64 next, .int .i64 0]
      | .bad e => .tuple #[.int .i64 0, .int .i64 0, .int .i64 e])) h) : ACalls Tryz.prog 54 #[.string s, .int .i64 at_] h R := by
  refine ACalls.drop (call54 ?_)
  unfold sh54
  refine vNew_i fun a ha => vNew_i fun b hb => vNew_i fun c hc => ?_
  have s3 := S3.new (o3 := .int .i64 0) ha hb hc
  revert s3
  generalize (ins (ins (ins h a (.cells #[.int .i64 0] 3 (0, 0))) b (.cells #[.int .i64 0] 3 (0, 0))) c (.cells #[.int .i64 0] 30 (0, 0))) = g
  intro s3
  have early : (at_ < 0 ∨ (s.size : Int) < at_) → vStore 1 (.pointer (some ⟨a, 0, none⟩)) (.int .i64 0) g fun h_8 => vStore 1 (.pointer (some ⟨b, 0, none⟩)) (.int .i64 0) h_8 fun h_9 => vStore 1 (.pointer (some ⟨c, 0, none⟩)) (.int .i64 1) h_9 fun h_10 =>
      vLoad none (.pointer (some ⟨a, 0, none⟩)) h_10 fun rv => vLoad none (.pointer (some ⟨b, 0, none⟩)) h_10 fun rv_1 => vLoad none (.pointer (some ⟨c, 0, none⟩)) h_10 fun rv_2 => ∃ g, Sub g h_10 ∧ R (.ret (.tuple #[rv, rv_1, rv_2])) g := fun hh => by
    rw [if_pos hh] at hR
    refine s3.st4 rfl fun s => s.st5 rfl fun s => s.st6 rfl fun s => ?_
    rw [s.ld4, s.ld5, s.ld6]
    exact ⟨h, s.sub, hR⟩
  by_cases h1 : at_ < 0
  · simp only [vBin_lss, h1, decide_true, boolOf_b, gq_b, Bool.true_eq_false, false_implies, ne_eq, not_false_eq_true, forall_const, true_and, not_true_eq_false, boolOf_u, gq_n, vPick_b, cond_true, dIf_b]
    first | exact early (.inl h1) | exact ⟨early (.inl h1), by simp⟩
  · by_cases h2 : (s.size : Int) < at_
    · simp only [vBin_lss, h1, decide_false, decide_true, boolOf_b, gq_b, Bool.true_eq_false, false_implies, ne_eq, not_false_eq_true, forall_const, true_and, and_true, not_true_eq_false, boolOf_u, gq_n, vPick_b, cond_false, dIf_b, vLenStr_s, vBin_gtr, h2]
      first | exact early (.inr h2) | exact ⟨early (.inr h2), by simp⟩
    · obtain ⟨n, rfl⟩ : ∃ n : Nat, at_ = n := ⟨at_.toNat, by omega⟩
      rw [if_neg (by omega), Int.toNat_natCast] at hR
      simp only [vBin_lss, h1, decide_false, decide_true, boolOf_b, gq_b, Bool.true_eq_false, Bool.false_eq_true, false_implies, ne_eq, not_false_eq_true, forall_const, true_and, and_true, not_true_eq_false, boolOf_u, gq_n, vPick_b, cond_false, dIf_b, vLenStr_s, vBin_gtr, h2]
      clear early
      refine ⟨#[.string s, .int .i64 n], rfl, ?_⟩
      refine vNew_i fun p hp => ?_
      refine vStore_to (ins_eq _ _ _) (by rfl) (by rfl) (by rfl) ?_
      rw [ins_ins]
      have hph : h p = none := s3.sub.fresh hp
      have hpa : a ≠ p := fun e => by rw [← e, s3.ga] at hp; cases hp
      have hpb : b ≠ p := fun e => by rw [← e, s3.gb] at hp; cases hp
      have hpc : c ≠ p := fun e => by rw [← e, s3.gc] at hp; cases hp
      refine rd_number (s := s) (at_ := n) (ins_eq _ _ _) hz (fun m next hrd => ?_) (fun er j hrd => ?_)
      · rw [hrd] at hR
        simp only [AEnd.elim]
        have s4 : S3 h (putRd (ins g p (.cells #[.string s, .int .i64 n] 135 (0, 0))) p s next) 3 a b c (.int .i64 0) (.int .i64 0) (.int .i64 0) := (s3.other hph hpa hpb hpc).other hph hpa hpb hpc
        have hpp : putRd (ins g p (.cells #[.string s, .int .i64 n] 135 (0, 0))) p s next p = some (.cells #[.string s, .int .i64 next] 135 (0, 0)) := ins_eq _ _ _
        revert s4 hpp
        generalize putRd (ins g p (.cells #[.string s, .int .i64 n] 135 (0, 0))) p s next = g4
        intro s4 hpp
        refine s4.st4 rfl fun s5 => ?_
        rw [s5.ld4]
        have hp5 : ∀ v o, ins (ins g4 a o) a v p = some (.cells #[.string s, .int .i64 next] 135 (0, 0)) := fun v o => by rw [ins_ins, ins_ne _ _ (fun e => hpa e.symm)]; exact hpp
        have hp4 : ∀ o, ins g4 a o p = some (.cells #[.string s, .int .i64 next] 135 (0, 0)) := fun o => by rw [ins_ne _ _ (fun e => hpa e.symm)]; exact hpp
        simp only [vFA_p]
        rw [vLoad_1 (hp4 _) (v := .int .i64 next) rfl]
        refine s5.st4 rfl fun s6 => ?_
        refine ⟨by rw [vLoad_1 (hp5 _ _) (v := .int .i64 next) rfl], ?_⟩
        refine s6.st5 rfl fun s7 => s7.st6 rfl fun s8 => ?_
        exact door_int_nil s8 hR
      · rw [hrd] at hR
        simp only [AEnd.elim]
        exact ⟨_, rfl, door_int ((s3.other hph hpa hpb hpc).other hph hpa hpb hpc) er hR⟩
end
end Go.Pw
/- GetText: a text that is read, or why not. -/
set_option linter.unusedSimpArgs false
set_option linter.unusedVariables false
namespace Go.Pw
open Go Go.Proofs

section
variable {h : PH} {R : AEnd → PH → Prop} {K : Value → Prop} {p : Nat} {s : ByteArray}
theorem rdN_le {s : List UInt8} : ∀ (fuel i n at_ m next : Nat), rdN s fuel i n at_ = .ok m next → next ≤ s.length
  | 0, i, n, at_, m, next, h => by simp [rdN] at h
  | fuel + 1, i, n, at_, m, next, h => by
    rw [rdN] at h
    cases hc : s[at_]? with
    | none => rw [hc] at h; cases h
    | some c =>
      rw [hc] at h
      simp only at h
      have hl := (List.getElem?_eq_some_iff.1 hc).1
      split at h
      · split at h
        · cases h
        · exact rdN_le fuel _ _ _ _ _ h
      · split at h
        · cases h
        · cases h; omega
theorem rd_bytes {j n : Nat} (hr : RdAt h p s j) (hz : s.size < 4611686018427387904) (hj : j < 4611686018427387904) (hn : n ≤ 1048576)
    (hok : ¬ s.size < j + n → R (.ret (.string (s.extract j (j + n)))) (putRd h p s (j + n))) (hbad : s.size < j + n → R (.pan (fault 10)) h) :
    ACalls Tryz.prog 61 #[ptr p, .int .i64 n] h R := by
  refine call61 ?_
  unfold sh61
  have q0 : (#[Value.string s, .int .i64 j] : Array Value)[0 + 0]? = some (.string s) := rfl
  have q1 : (#[Value.string s, .int .i64 j] : Array Value)[0 + 1]? = some (.int .i64 j) := rfl
  simp only [vNil_p, vFA_p, vLoad_1 hr q0, vLoad_1 hr q1, vLenStr_s, vBin_sub]
  rw [w64 (by omega) (by omega)]
  simp only [vBin_gtr, dIf_b, decide_eq_true_eq, decide_eq_false_iff_not]
  refine ⟨fun hgt => ⟨_, _, rfl, hbad (by omega)⟩, fun hle => ?_⟩
  simp only [vBin_add]
  rw [w64 (by omega) (by omega)]
  refine (vStore_1 hr (by simp) rfl).2 ?_
  have hset : ins h p (.cells ((#[Value.string s, .int .i64 j] : Array Value).setIfInBounds (0 + 1) (.int .i64 ((j : Int) + (n : Int)))) 135 (0, 0)) = putRd h p s (j + n) := rfl
  rw [hset]
  have hp : putRd h p s (j + n) p = some (.cells #[.string s, .int .i64 (j + n : Nat)] 135 (0, 0)) := ins_eq _ _ _
  have r0 : (#[Value.string s, .int .i64 (j + n : Nat)] : Array Value)[0 + 0]? = some (.string s) := rfl
  have r1 : (#[Value.string s, .int .i64 (j + n : Nat)] : Array Value)[0 + 1]? = some (.int .i64 (j + n : Nat)) := rfl
  simp only [vLoad_1 hp r0, vLoad_1 hp r1, vBin_sub]
  rw [w64 (by omega) (by omega)]
  refine ⟨s, rfl, .i64, _, rfl, by omega, by omega, .i64, _, rfl, by omega, by omega, ?_⟩
  rw [Int.toNat_natCast, show (((j + n : Nat) : Int) - (n : Int)).toNat = j by omega]
  exact hok (by omega)
variable {g : PH} {e : TypeId} {a b c : Nat} {v4 v5 v6 : Value}
end
end Go.Pw
/- The numbers of an account's record, read one behind the other. -/
set_option linter.unusedSimpArgs false
set_option linter.unusedVariables false
namespace Go.Pw
open Go Go.Proofs

/-- A number at a place, and the next place; 0 and a place that is not, where there is none that may be. -/
def numAt (s : ByteArray) (at_ : Nat) : Nat × Nat := if s.size < at_ then (0, s.size + 1) else match rdNum s.data.toList at_ with
  | .ok n next => if 1099511627776 < n then (0, s.size + 1) else (n, next)
  | .bad _ => (0, s.size + 1)
theorem rdN_bad {s : List UInt8} : ∀ (fuel i n at_ : Nat) (e : Int), rdN s fuel i n at_ = .bad e → e = 10 ∨ e = 11
  | 0, i, n, at_, e, h => by rw [rdN] at h; cases h; exact .inr rfl
  | fuel + 1, i, n, at_, e, h => by
    rw [rdN] at h
    cases hc : s[at_]? with
    | none => rw [hc] at h; cases h; exact .inl rfl
    | some c =>
      rw [hc] at h
      simp only at h
      split at h
      · split at h
        · cases h; exact .inr rfl
        · exact rdN_bad fuel _ _ _ _ h
      · split at h
        · cases h; exact .inr rfl
        · cases h
section
variable {h : PH} {R : AEnd → PH → Prop} {ps pa : Nat} {s : ByteArray}
theorem num_ok {at_ : Nat} (hs : h ps = some (.cells #[.string s] 9 (0, 0))) (ha : h pa = some (.cells #[.int .i64 at_] 3 (0, 0))) (hz : s.size < 4611686018427387000) (hat : at_ ≤ s.size + 1)
    (hR : R (.ret (.int .i64 (numAt s at_).1)) (ins h pa (.cells #[.int .i64 (numAt s at_).2] 3 (0, 0)))) :
    ACalls Tryz.prog 140 #[ptr ps, ptr pa] h R := by
  refine call140 ?_
  unfold sh140
  rw [vLoad_1 hs (v := .string s) rfl, vLoad_1 ha (v := .int .i64 at_) rfl]
  refine getInt_ok (by omega) ?_
  have st : ∀ {K : PH → Prop} {n : Nat}, K (ins h pa (.cells #[.int .i64 n] 3 (0, 0))) → vStore 1 (ptr pa) (.int .i64 n) h K := fun {K n} hk => (vStore_1 ha (by simp) rfl).2 hk
  have bad : numAt s at_ = (0, s.size + 1) → (vLoad none (ptr ps) h fun t19 => vLenStr t19 fun t20 => vBin Tryz.prog .add 3 t20 (.int .i64 1) fun t21 => vStore 1 (ptr pa) t21 h fun h_4 => R (.ret (.int .i64 0)) h_4) := fun hh => by
    rw [vLoad_1 hs (v := .string s) rfl]
    simp only [vLenStr_s, vBin_add]
    rw [w64 (by omega) (by omega), show ((s.size : Int) + 1) = ((s.size + 1 : Nat) : Int) by omega]
    refine st ?_
    rw [hh] at hR
    exact hR
  unfold numAt at bad hR
  by_cases h1 : s.size < at_
  · rw [if_pos h1] at bad
    rw [if_pos (.inr (by omega))]
    simp [AEnd.elim]
    exact bad rfl
  · rw [if_neg h1] at bad hR
    rw [if_neg (by omega)]
    rw [Int.toNat_natCast]
    cases hr : rdNum s.data.toList at_ with
    | bad e =>
      rw [hr] at bad hR
      simp only [AEnd.elim, vExt_30, vExt_31, vExt_32, vBin_neq]
      have he : e ≠ 0 := by rcases rdN_bad _ _ _ _ _ hr with h | h <;> omega
      simp [he]
      exact bad rfl
    | ok n next =>
      rw [hr] at bad hR
      simp only at bad hR
      simp only [AEnd.elim, vExt_30, vExt_31, vExt_32, vBin_neq]
      by_cases hb : 1099511627776 < n
      · rw [if_pos hb] at bad
        have : (1099511627776 : Int) < (n : Int) := by omega
        simp [this]
        exact bad rfl
      · rw [if_neg hb] at hR
        have : ¬ (1099511627776 : Int) < (n : Int) := by omega
        simp [this]
        exact st hR
end
end Go.Pw
/- Ledger.read: an account read from its record. (Under way.) -/
set_option linter.unusedSimpArgs false
set_option linter.unusedVariables false
namespace Go.Pw
open Go Go.Proofs

/-- While an account is read: the ledger L' stands at x, b; the text at ps; the place at pa. -/
structure RS (h : PH) (x b ps pa : Nat) (s : ByteArray) (g : PH) (L' : Led) (at_ : Nat) : Prop where
  sub : Sub (putLed h b L') g
  gs : g ps = some (.cells #[.string s] 9 (0, 0))
  ga : g pa = some (.cells #[.int .i64 at_] 3 (0, 0))
  hps : h ps = none
  hpa : h pa = none
  psb : ps ≠ b
  pab : pa ≠ b
  sa : ps ≠ pa
  led : LedAt g x b L'

section
variable {h g : PH} {x b ps pa : Nat} {s : ByteArray} {L' : Led} {at_ : Nat}
theorem RS.num {K : Value → PH → Prop} {Kp : List PanicEntry → PH → Prop} (r : RS h x b ps pa s g L' at_) (hz : s.size < 4611686018427387000) (hat : at_ ≤ s.size + 1)
    (hk : ∀ g', RS h x b ps pa s g' L' (numAt s at_).2 → K (.int .i64 (numAt s at_).1) g') : vCallV Tryz.prog (.func (.func 140) #[] #[ptr ps, ptr pa]) #[] g K Kp := by
  refine ⟨_, _, _, rfl, ?_⟩
  refine num_ok r.gs r.ga hz hat ?_
  simp only [AEnd.elim]
  have hn : putLed h b L' pa = none := by unfold putLed; rw [ins_ne _ _ r.pab]; exact r.hpa
  have hxa : pa ≠ x := fun e => by have := r.led.hx; rw [← e, r.ga] at this; simp at this
  refine hk _ ⟨Sub.put r.sub hn, by rw [ins_ne _ _ r.sa]; exact r.gs, ins_eq _ _ _, r.hps, r.hpa, r.psb, r.pab, r.sa, ⟨by rw [ins_ne _ _ (fun e => hxa e.symm)]; exact r.led.hx, by rw [ins_ne _ _ (fun e => r.pab e.symm)]; exact r.led.hb, r.led.ne⟩⟩
theorem RS.set {K : PH → Prop} (r : RS h x b ps pa s g L' at_) {i j : Nat} {v : Int} (hi : i < L'.n) (hj : j < 11) (hk : ∀ g', RS h x b ps pa s g' (L'.set i j v) at_ → K g') : vStore 1 (.pointer (some ⟨b, i * 12 + j, none⟩)) (.int .i64 v) g K := by
  rw [r.led.st hi hj]
  refine hk _ ⟨Sub.over r.sub, by unfold putLed; rw [ins_ne _ _ r.psb]; exact r.gs, by unfold putLed; rw [ins_ne _ _ r.pab]; exact r.ga, r.hps, r.hpa, r.psb, r.pab, r.sa, r.led.after i j v⟩
end

end Go.Pw
/- ledger.Of: the ledger of records. (Under way.) -/
set_option linter.unusedSimpArgs false
set_option linter.unusedVariables false
namespace Go.Pw
open Go Go.Proofs

/-- The slice of records l lies at v. -/
def RecsAt (h : PH) (v : Value) (l : List (ByteArray × ByteArray)) : Prop :=
  ∃ p cap, v = .slice p l.length cap ∧ l.length ≤ cap ∧ ∀ i a, l[i]? = some a → ∃ b off c e fr, p = some ⟨b, off, none⟩ ∧ h b = some (.cells c e fr) ∧ off + i * 2 + 2 ≤ c.size ∧ c.extract (off + i * 2) (off + i * 2 + 2) = #[.string a.1, .string a.2]

end Go.Pw
/- ledger.Of: the whole. -/
set_option linter.unusedSimpArgs false
set_option linter.unusedVariables false
namespace Go.Pw
open Go Go.Proofs

end Go.Pw
/- A slice of records, told and compared. -/
set_option linter.unusedSimpArgs false
set_option linter.unusedVariables false
namespace Go.Pw
open Go Go.Proofs

section
variable {h : PH} {R : AEnd → PH → Prop}
theorem RecsAt.ld {v : Value} {l : List (ByteArray × ByteArray)} (hv : RecsAt h v l) {i : Nat} {a : ByteArray × ByteArray} (ha : l[i]? = some a) : ∀ {K : Value → Prop}, (vIxS 2 v (.int .i64 i) fun t => vLoad (some 2) t h K) ↔ K (.agg #[.string a.1, .string a.2]) := fun {K} => by
  obtain ⟨p, cap, rfl, hcap, hel⟩ := hv
  obtain ⟨b, off, c, e, fr, rfl, hb, hs, he⟩ := hel i a ha
  have hi := (List.getElem?_eq_some_iff.1 ha).1
  rw [vIxS_p, show off + (i : Int).toNat * 2 = off + i * 2 by omega, vLoad_n hb hs, he]
  exact ⟨fun hh => hh.2.2, fun hh => ⟨by omega, by omega, hh⟩⟩
theorem RecsAt.sub {g : PH} {v : Value} {l : List (ByteArray × ByteArray)} (hv : RecsAt h v l) (hs : Sub h g) : RecsAt g v l := by
  obtain ⟨p, cap, e, hcap, hel⟩ := hv
  refine ⟨p, cap, e, hcap, fun i a ha => ?_⟩
  obtain ⟨b, off, c, e, fr, q1, q2, q3⟩ := hel i a ha
  exact ⟨b, off, c, e, fr, q1, hs _ _ q2, q3⟩
theorem RecsAt.len {v : Value} {l : List (ByteArray × ByteArray)} (hv : RecsAt h v l) {K : Value → Prop} : vLenS v K ↔ K (.int .i64 l.length) := by
  obtain ⟨p, cap, rfl, _⟩ := hv
  exact vLenS_s _ _ _
/-- The records of a ledger. -/
def recsOf (L : Led) (n : Nat) : List (ByteArray × ByteArray) := (List.range n).map fun i => (keyB i, ⟨(payB L i).toArray⟩)
theorem same_gen {v v' : Value} {l l' : List (ByteArray × ByteArray)} (hv : RecsAt h v l) (hv' : RecsAt h v' l') (hz : l.length < 4611686018427387904) (hT : l = l' → R (.ret (.bool true)) h) (hF : l ≠ l' → R (.ret (.bool false)) h) :
    ACalls Tryz.prog 15 #[v, v'] h R := by
  refine call15 ?_
  unfold sh15
  simp only [hv.len, hv'.len, vBin_neq, dIf_b]
  refine ⟨fun hn => hF fun e => by rw [e] at hn; simp at hn, fun he => ?_⟩
  have hll : l.length = l'.length := by
    have : ((l.length : Int) = (l'.length : Int)) := by simpa using he
    omega
  refine lf_intro (fun m s' g' => ∃ i : Nat, s' = (.bool false, .int .i64 i) ∧ m = l.length - i ∧ i ≤ l.length ∧ g' = h ∧ ∀ j, j < i → l[j]? = l'[j]?) l.length ⟨0, rfl, rfl, by omega, rfl, fun j hj => absurd hj (by omega)⟩ ?_
  rintro m s' g' ⟨i, rfl, rfl, hi, rfl, hall⟩
  by_cases hin : i < l.length
  · obtain ⟨a, ha⟩ : ∃ a, l[i]? = some a := ⟨_, List.getElem?_eq_getElem hin⟩
    obtain ⟨b, hb⟩ : ∃ b, l'[i]? = some b := ⟨_, List.getElem?_eq_getElem (by omega)⟩
    have key : ∀ (kn : (Value × Value) → (Value × Value) → PH → Prop) Kp x0 (xr : Value → PH → Prop), (a = b → kn (v, v') (.bool false, .int .i64 ((i : Int) + 1)) g') → (a ≠ b → xr (.bool false) g') →
        b15_4 Kp x0 xr (v, v') kn (.bool false, .int .i64 i) g' := by
      intro kn Kp x0 xr k1 k2
      unfold b15_4
      have hlt : (i : Int) < (l.length : Int) := by omega
      simp only [hv.len, vBin_lss, hlt, decide_true, dIf_b]
      refine ⟨fun _ => ?_, fun e => absurd e (by simp)⟩
      rw [hv.ld ha, hv'.ld hb, rec_neq]
      simp only [dIf_b, vBin_add]
      rw [w64 (by omega) (by omega)]
      refine ⟨fun hne => k2 fun e => by rw [e] at hne; simp at hne, fun heq => k1 ?_⟩
      have : a.1 = b.1 ∧ a.2 = b.2 := by simpa using heq
      exact Prod.ext this.1 this.2
    refine key _ _ _ _ (fun e => ⟨rfl, l.length - (i + 1), by omega, i + 1, rfl, rfl, by omega, rfl, fun j hj => ?_⟩) (fun ne => ?_)
    · by_cases ej : j = i
      · subst ej; rw [ha, hb, e]
      · exact hall j (by omega)
    · intro r hr
      rw [show r 4 = _ from hr]
      exact hF fun e => ne (by rw [e, hb] at ha; cases ha; rfl)
  · have e : i = l.length := by omega
    subst e
    unfold b15_4
    have hnl : ¬ ((l.length : Int) < (l.length : Int)) := by omega
    simp only [hv.len, vBin_lss, hnl, decide_false, dIf_b]
    refine ⟨fun e => absurd e (by simp), fun _ => ?_⟩
    intro r hr
    exact hT (List.ext_getElem? fun j => by
      by_cases hj : j < l.length
      · exact hall j hj
      · rw [List.getElem?_eq_none (by omega), List.getElem?_eq_none (by omega)])

end
end Go.Pw

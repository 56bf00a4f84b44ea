/- Texts of this claim, one behind the other. -/
import Derived.Test.YtbidgpchoamdfaaM3
import Derived.Test.YtbidgpchoamdfaaM4
import Derived.Test.YtbidgpchoamdfaaM8
import Derived.Test.YtbidgpchoamdfaaM10
/- The wire's reader of numbers. -/
set_option linter.unusedSimpArgs false
set_option linter.unusedVariables false
namespace Go.Pw
open Go Go.Proofs

/-- What a reader ends with: a value and the place behind it, or why not. -/
inductive Rd (α : Type) where
  | ok (n : α) (next : Nat)
  | bad (e : Int)
/-- A number read: i: which letter; n: what came so far. -/
def rdN (s : List UInt8) : Nat → Nat → Nat → Nat → Rd Nat
  | 0, i, n, at_ => .bad 11
  | fuel + 1, i, n, at_ => match s[at_]? with
    | none => .bad 10
    | some c =>
      if 128 ≤ c.toNat then (if i = 7 then .bad 11 else rdN s fuel (i + 1) (n + c.toNat % 128 * 128 ^ i) (at_ + 1))
      else if (c.toNat = 0 ∧ 0 < i) ∨ 9007199254740992 < n + c.toNat % 128 * 128 ^ i then .bad 11 else .ok (n + c.toNat % 128 * 128 ^ i) (at_ + 1)
def rdNum (s : List UInt8) (at_ : Nat) : Rd Nat := rdN s 8 0 0 at_

section
variable {P : Program} {K : Value → Prop}
theorem vBin_shl {t : TypeId} {n k : Int} (h0 : 0 ≤ n) (hk : 0 ≤ k) (hk2 : k ≤ 49) (h1 : n < 128) : vBin P .shl t (.int .i64 n) (.int .i64 k) K ↔ K (.int .i64 (n * 2 ^ k.toNat)) := by
  refine vBin_of fun _ _ => ?_
  have e : min k.toNat 64 = k.toNat := by omega
  have b : 2 ^ k.toNat ≤ 2 ^ 49 := Nat.pow_le_pow_right (by omega) (by omega)
  have b2 : (2 : Int) ^ k.toNat ≤ 562949953421312 := by
    have : ((2 ^ k.toNat : Nat) : Int) ≤ ((2 ^ 49 : Nat) : Int) := Int.ofNat_le.2 b
    simpa using this
  have b3 : (0 : Int) ≤ (2 : Int) ^ k.toNat := Int.le_of_lt (Int.pow_pos (by omega))
  have b4 : n * 2 ^ k.toNat ≤ 127 * 562949953421312 := Int.mul_le_mul (by omega) b2 b3 (by omega)
  have b5 : 0 ≤ n * 2 ^ k.toNat := Int.mul_nonneg h0 b3
  have hw : IntKind.i64.wrap (n * 2 ^ k.toNat) = n * 2 ^ k.toNat := w64 (by omega) (by omega)
  have hn : ¬ k < 0 := by omega
  simp [eqGuard, binOp, Op.shift, IntKind.bits, hn, e, hw]
  rfl
theorem vBin_orN {t : TypeId} {n M : Nat} (he : n ||| M = n + M) (h2 : n + M < 9223372036854775808) : vBin P .or t (.int .i64 n) (.int .i64 M) K ↔ K (.int .i64 (n + M : Nat)) := by
  have key : (BitVec.ofInt 64 (n : Int) ||| BitVec.ofInt 64 (M : Int)).toNat = n + M := by
    rw [BitVec.toNat_or, ofInt_toNat (by omega) (by omega), ofInt_toNat (by omega) (by omega)]
    exact he
  refine vBin_of fun _ _ => ?_
  show some (Value.int .i64 (IntKind.i64.wrap ((BitVec.ofInt 64 (n : Int) ||| BitVec.ofInt 64 (M : Int)).toNat))) = _
  rw [key, w64 (by omega) (by omega)]
theorem or_dis {n m i : Nat} (h0 : n < 2 ^ i) : n ||| (m * 2 ^ i) = n + m * 2 ^ i := by
  rw [Nat.or_comm, Nat.mul_comm, ← Nat.two_pow_add_eq_or_of_lt h0]
  omega
theorem pow7 (i : Nat) : 2 ^ (7 * i) = 128 ^ i := by rw [Nat.pow_mul]
end

/-- A reader at p. -/
def RdAt (h : PH) (p : Nat) (s : ByteArray) (at_ : Nat) : Prop := h p = some (.cells #[.string s, .int .i64 at_] 111 (0, 0))
def putRd (h : PH) (p : Nat) (s : ByteArray) (at_ : Nat) : PH := ins h p (.cells #[.string s, .int .i64 at_] 111 (0, 0))
def fault (e : Int) : List PanicEntry := [{ v := .iface 113 (.int .i64 e), recovered := false }]
theorem putRd_put (h : PH) (p : Nat) (s s' : ByteArray) (i j : Nat) : putRd (putRd h p s i) p s' j = putRd h p s' j := ins_ins _ _ _ _

section
variable {h : PH} {R : AEnd → PH → Prop} {p : Nat} {s : ByteArray}
theorem rd_number {at_ : Nat} (hr : RdAt h p s at_) (hz : s.size < 9223372036854775807)
    (hok : ∀ n next, rdNum s.data.toList at_ = .ok n next → R (.ret (.int .i64 n)) (putRd h p s next))
    (hbad : ∀ e j, rdNum s.data.toList at_ = .bad e → R (.pan (fault e)) (putRd h p s j)) :
    ACalls Try.prog 67 #[ptr p] h R := by
  refine call67 ?_
  unfold sh67
  have h0 : putRd h p s at_ = h := ins_self hr
  refine lf_intro (fun m s' g => ∃ (i n j : Nat), s' = (.int .i64 0, .int .i64 n, .int .i64 i) ∧ m = 8 - i ∧ i < 8 ∧ n < 128 ^ i ∧ g = putRd h p s j ∧ rdN s.data.toList (8 - i) i n j = rdNum s.data.toList at_) 8 ⟨0, 0, at_, rfl, rfl, by omega, by omega, h0.symm, rfl⟩ ?_
  rintro m s' g ⟨i, n, j, rfl, rfl, hi, hn, rfl, hrd⟩
  have hp : putRd h p s j p = some (.cells #[.string s, .int .i64 j] 111 (0, 0)) := ins_eq _ _ _
  have q0 : (#[Value.string s, .int .i64 j] : Array Value)[0 + 0]? = some (.string s) := rfl
  have q1 : (#[Value.string s, .int .i64 j] : Array Value)[0 + 1]? = some (.int .i64 j) := rfl
  obtain ⟨fu, hfu⟩ : ∃ fu, 8 - i = fu + 1 := ⟨7 - i, by omega⟩
  rw [hfu, rdN] at hrd
  cases hc : s.data.toList[j]? with
  | none =>
    rw [hc] at hrd
    have hjs : s.size ≤ j := by
      have := List.getElem?_eq_none_iff.1 hc
      rw [Array.length_toList] at this
      exact this
    unfold b67_4
    simp only [vNil_p, vFA_p, vLoad_1 hp q0, vLoad_1 hp q1, vLenStr_s, vBin_geq, dIf_b, decide_eq_true_eq, decide_eq_false_iff_not]
    refine ⟨fun _ => ?_, fun hlt => absurd (by omega) hlt⟩
    simp only [vIface_v]
    exact ⟨_, _, rfl, hbad 10 j hrd.symm⟩
  | some c =>
    rw [hc] at hrd
    simp only at hrd
    have hjs : j < s.size := by
      have := (List.getElem?_eq_some_iff.1 hc).1
      rw [Array.length_toList] at this
      exact this
    have hcd : s.data[j]? = some c := by rw [← Array.getElem?_toList]; exact hc
    have hc8 : c.toNat < 256 := c.toNat_lt
    unfold b67_4
    simp only [vNil_p, vFA_p, vLoad_1 hp q0, vLoad_1 hp q1, vLenStr_s, vBin_geq, dIf_b, decide_eq_true_eq, decide_eq_false_iff_not]
    refine ⟨fun hge => absurd hge (by omega), fun _ => ?_⟩
    refine ⟨s, .i64, j, c, rfl, rfl, by omega, by simpa using hcd, ?_⟩
    simp only [vConvI_i, vBin_add]
    rw [w64 (by omega) (by omega), w64 (by omega) (by omega)]
    refine (vStore_1 hp (by simp) rfl).2 ?_
    have hset : ins (putRd h p s j) p (.cells ((#[Value.string s, .int .i64 j] : Array Value).setIfInBounds (0 + 1) (.int .i64 ((j : Int) + 1))) 111 (0, 0)) = putRd h p s (j + 1) := by
      show ins (ins _ _ _) _ _ = _
      rw [ins_ins]; rfl
    rw [hset]
    rw [vBin_and127 _ (by omega) (by omega)]
    simp only [vBin_mul]
    rw [w64 (by omega) (by omega), vBin_shl (by omega) (by omega) (by omega) (by omega)]
    have e1 : ((c.toNat : Int) % 128 * 2 ^ ((7 : Int) * (i : Int)).toNat) = ((c.toNat % 128 * 2 ^ (7 * i) : Nat) : Int) := by
      rw [show ((7 : Int) * (i : Int)).toNat = 7 * i by omega]; simp
    have hb : (c.toNat % 128) * 2 ^ (7 * i) ≤ 127 * 2 ^ 49 := Nat.mul_le_mul (by omega) (Nat.pow_le_pow_right (by omega) (by omega))
    have hn2 : n < 2 ^ (7 * i) := by rw [pow7]; exact hn
    have hn3 : 2 ^ (7 * i) ≤ 2 ^ 49 := Nat.pow_le_pow_right (by omega) (by omega)
    rw [e1, vBin_orN (or_dis hn2) (by omega)]
    rw [pow7] at hb hn2 hn3 ⊢
    generalize hN : n + c.toNat % 128 * 128 ^ i = N at hrd ⊢
    have hNb : N ≤ 72057594037927936 := by omega
    simp only [vBin_geq, dIf_b, decide_eq_true_eq, decide_eq_false_iff_not]
    refine ⟨fun hge => ?_, fun hlt => ?_⟩
    · rw [if_pos (by omega)] at hrd
      simp only [vBin_eql, dIf_b, decide_eq_true_eq, decide_eq_false_iff_not]
      refine ⟨fun h7 => ?_, fun h7 => ?_⟩
      · rw [if_pos (by omega)] at hrd
        exact ⟨_, _, rfl, hbad 11 (j + 1) hrd.symm⟩
      · rw [if_neg (by omega)] at hrd
        rw [w64 (by omega) (by omega)]
        refine ⟨by trivial, 8 - (i + 1), by omega, i + 1, N, j + 1, rfl, rfl, by omega, ?_, rfl, ?_⟩
        · have e5 : 128 ^ (i + 1) = 128 * 128 ^ i := by rw [Nat.pow_succ, Nat.mul_comm]
          have e6 : c.toNat % 128 * 128 ^ i ≤ 127 * 128 ^ i := Nat.mul_le_mul_right _ (by omega)
          omega
        · rw [show 8 - (i + 1) = fu by omega]; exact hrd
    · rw [if_neg (by omega)] at hrd
      obtain ⟨b0, hb0⟩ : ∃ b0, b0 = decide ((c.toNat : Int) = 0) := ⟨_, rfl⟩
      obtain ⟨b1, hb1⟩ : ∃ b1, b1 = decide (0 < (i : Int)) := ⟨_, rfl⟩
      obtain ⟨b2, hb2⟩ : ∃ b2, b2 = decide (9007199254740992 < (N : Int)) := ⟨_, rfl⟩
      have n0 : ∀ {K : Value → Prop}, vBin Try.prog .eql 3 (.int .i64 (c.toNat : Int)) (.int .i64 0) K ↔ K (.bool b0) := fun {K} => by rw [hb0]; exact vBin_eql _ _ _ _
      have n1 : ∀ {K : Value → Prop}, vBin Try.prog .gtr 3 (.int .i64 (i : Int)) (.int .i64 0) K ↔ K (.bool b1) := fun {K} => by rw [hb1]; exact vBin_gtr _ _ _ _
      have n2 : ∀ {K : Value → Prop}, vBin Try.prog .gtr 3 (.int .i64 (N : Int)) (.int .i64 9007199254740992) K ↔ K (.bool b2) := fun {K} => by rw [hb2]; exact vBin_gtr _ _ _ _
      have hT : (b0 && b1 || b2) = true → rdNum s.data.toList at_ = .bad 11 := fun hh => by
        rw [hb0, hb1, hb2] at hh
        simp only [Bool.or_eq_true, Bool.and_eq_true, decide_eq_true_eq] at hh
        rw [if_pos (by omega)] at hrd
        exact hrd.symm
      have hF : (b0 && b1 || b2) = false → rdNum s.data.toList at_ = .ok N (j + 1) := fun hh => by
        rw [hb0, hb1, hb2] at hh
        simp only [Bool.or_eq_false_iff, Bool.and_eq_false_iff, decide_eq_false_iff_not] at hh
        rw [if_neg (by omega)] at hrd
        exact hrd.symm
      clear hb0 hb1 hb2 hrd
      have bad : rdNum s.data.toList at_ = .bad 11 → ∃ t v, Value.iface 113 (.int .i64 11) = .iface t v ∧ R (.pan [{ v := .iface t v, recovered := false }]) (putRd h p s (j + 1)) := fun hh => ⟨_, _, rfl, hbad 11 (j + 1) hh⟩
      have good : rdNum s.data.toList at_ = .ok N (j + 1) → exq (fun ρ => ρ 2) (.int .i64 (N : Int)) (fun r h_1 => R (.ret (r 2)) h_1) (putRd h p s (j + 1)) := fun hh => by
        intro r hr
        rw [show r 2 = _ from hr]
        exact hok N (j + 1) hh
      cases b0 <;> cases b1 <;> cases b2 <;> simp only [n0, n1, n2, boolOf_b, gq_b, vPick_b, cond_true, cond_false, dIf_b, Bool.false_eq_true, Bool.true_eq_false, ne_eq, not_true_eq_false, not_false_eq_true, false_implies, forall_const, true_and, and_true, gq_n, boolOf_u, vIface_v] <;>
        first | exact good (hF rfl) | exact bad (hT rfl)
end
end Go.Pw
/- GetInt and GetText: what is read, or why not. -/
set_option linter.unusedSimpArgs false
set_option linter.unusedVariables false
namespace Go.Pw
open Go Go.Proofs

section
variable {h : PH} {R : AEnd → PH → Prop} {K : Value → Prop}
theorem caught_ok {e : Int} (hR : R (.ret (.int .i64 e)) h) : ACalls Try.prog 66 #[.iface 113 (.int .i64 e)] h R := by
  refine call66 ?_
  unfold sh66
  refine ⟨.tuple #[.int .i64 e, .bool true], by kernel_rfl, ?_⟩
  simp [hR]
theorem any_neq (e : Int) : vBin Try.prog .neq 20 (.iface 113 (.int .i64 e)) .nilIface K ↔ K (.bool true) := vBin_of fun x y => by kernel_rfl
theorem any_nil : vBin Try.prog .neq 20 .nilIface .nilIface K ↔ K (.bool false) := vBin_of fun x y => by cases x <;> cases y <;> kernel_rfl

/-- Three cells of one's own. -/
structure S3 (h g : PH) (e : TypeId) (a b c : Nat) (v4 v5 v6 : Value) : Prop where
  sub : Sub h g
  a0 : h a = none
  b0 : h b = none
  c0 : h c = none
  ga : g a = some (.cells #[v4] e (0, 0))
  gb : g b = some (.cells #[v5] 3 (0, 0))
  gc : g c = some (.cells #[v6] 29 (0, 0))
  ab : a ≠ b
  ac : a ≠ c
  bc : b ≠ c
variable {g : PH} {e : TypeId} {a b c : Nat} {v4 v5 v6 : Value}
theorem S3.up {g' : PH} (s : S3 h g e a b c v4 v5 v6) (hs : Sub g g') : S3 h g' e a b c v4 v5 v6 := ⟨s.sub.trans hs, s.a0, s.b0, s.c0, hs _ _ s.ga, hs _ _ s.gb, hs _ _ s.gc, s.ab, s.ac, s.bc⟩
theorem S3.other (s : S3 h g e a b c v4 v5 v6) {p : Nat} {o : Obj} (hp : h p = none) (ha : a ≠ p) (hb : b ≠ p) (hc : c ≠ p) : S3 h (ins g p o) e a b c v4 v5 v6 :=
  ⟨Sub.put s.sub hp, s.a0, s.b0, s.c0, by rw [ins_ne _ _ ha]; exact s.ga, by rw [ins_ne _ _ hb]; exact s.gb, by rw [ins_ne _ _ hc]; exact s.gc, s.ab, s.ac, s.bc⟩
theorem S3.st4 {K : PH → Prop} (s : S3 h g e a b c v4 v5 v6) {v : Value} (ho : v.oneCell' = true) (hk : S3 h (ins g a (.cells #[v] e (0, 0))) e a b c v v5 v6 → K (ins g a (.cells #[v] e (0, 0)))) : vStore 1 (.pointer (some ⟨a, 0, none⟩)) v g K := by
  refine (vStore_1 s.ga (by simp) ho).2 ?_
  exact hk ⟨Sub.put s.sub s.a0, s.a0, s.b0, s.c0, ins_eq _ _ _, by rw [ins_ne _ _ (fun e => s.ab e.symm)]; exact s.gb, by rw [ins_ne _ _ (fun e => s.ac e.symm)]; exact s.gc, s.ab, s.ac, s.bc⟩
theorem S3.st5 {K : PH → Prop} (s : S3 h g e a b c v4 v5 v6) {v : Value} (ho : v.oneCell' = true) (hk : S3 h (ins g b (.cells #[v] 3 (0, 0))) e a b c v4 v v6 → K (ins g b (.cells #[v] 3 (0, 0)))) : vStore 1 (.pointer (some ⟨b, 0, none⟩)) v g K := by
  refine (vStore_1 s.gb (by simp) ho).2 ?_
  exact hk ⟨Sub.put s.sub s.b0, s.a0, s.b0, s.c0, by rw [ins_ne _ _ s.ab]; exact s.ga, ins_eq _ _ _, by rw [ins_ne _ _ (fun e => s.bc e.symm)]; exact s.gc, s.ab, s.ac, s.bc⟩
theorem S3.st6 {K : PH → Prop} (s : S3 h g e a b c v4 v5 v6) {v : Value} (ho : v.oneCell' = true) (hk : S3 h (ins g c (.cells #[v] 29 (0, 0))) e a b c v4 v5 v → K (ins g c (.cells #[v] 29 (0, 0)))) : vStore 1 (.pointer (some ⟨c, 0, none⟩)) v g K := by
  refine (vStore_1 s.gc (by simp) ho).2 ?_
  exact hk ⟨Sub.put s.sub s.c0, s.a0, s.b0, s.c0, by rw [ins_ne _ _ s.ac]; exact s.ga, by rw [ins_ne _ _ s.bc]; exact s.gb, ins_eq _ _ _, s.ab, s.ac, s.bc⟩
theorem S3.ld4 (s : S3 h g e a b c v4 v5 v6) : vLoad none (.pointer (some ⟨a, 0, none⟩)) g K ↔ K v4 := vLoad_1 s.ga rfl
theorem S3.ld5 (s : S3 h g e a b c v4 v5 v6) : vLoad none (.pointer (some ⟨b, 0, none⟩)) g K ↔ K v5 := vLoad_1 s.gb rfl
theorem S3.ld6 (s : S3 h g e a b c v4 v5 v6) : vLoad none (.pointer (some ⟨c, 0, none⟩)) g K ↔ K v6 := vLoad_1 s.gc rfl
theorem S3.new {z : Value} {o2 o3 : Value} (ha : h a = none) (hb : ins h a (.cells #[z] e (0, 0)) b = none) (hc : ins (ins h a (.cells #[z] e (0, 0))) b (.cells #[o2] 3 (0, 0)) c = none) :
    S3 h (ins (ins (ins h a (.cells #[z] e (0, 0))) b (.cells #[o2] 3 (0, 0))) c (.cells #[o3] 29 (0, 0))) e a b c z o2 o3 := by
  obtain ⟨hb1, hba⟩ := fresh_of hb
  obtain ⟨hc1, hcb⟩ := fresh_of hc
  obtain ⟨hc2, hca⟩ := fresh_of hc1
  exact ⟨Sub.put (Sub.put (Sub.put (Sub.refl h) ha) hb1) hc2, ha, hb1, hc2, by rw [ins_ne _ _ (fun e => hca e.symm), ins_ne _ _ (fun e => hba e.symm)]; exact ins_eq _ _ _, by rw [ins_ne _ _ (fun e => hcb e.symm)]; exact ins_eq _ _ _, ins_eq _ _ _, fun e => hba e.symm, fun e => hca e.symm, fun e => hcb e.symm⟩

/-- What the closure of GetInt makes of a fault. -/
theorem door_int {v5 : Value} (s : S3 h g 3 a b c v4 v5 v6) (er : Int) (hR : R (.ret (.tuple #[.int .i64 0, .int .i64 0, .int .i64 er])) h) :
    d58 (ptr a) (ptr b) (ptr c) (ptr a) (ptr b) (ptr c) (fun e h' => ∃ g, Sub g h' ∧ R e g) (.iface 113 (.int .i64 er)) g := by
  unfold d58
  rw [any_neq]
  simp only [dIf_b]
  refine ⟨fun _ => ?_, fun e => absurd e (by simp)⟩
  refine caught_ok ?_
  simp only [AEnd.elim]
  refine s.st4 rfl fun s => s.st5 rfl fun s => s.st6 rfl fun s => ?_
  rw [s.ld4, s.ld5, s.ld6]
  exact ⟨h, s.sub, hR⟩
theorem door_int_nil (s : S3 h g 3 a b c v4 v5 v6) (hR : R (.ret (.tuple #[v4, v5, v6])) h) :
    d58 (ptr a) (ptr b) (ptr c) (ptr a) (ptr b) (ptr c) (fun e h' => ∃ g, Sub g h' ∧ R e g) .nilIface g := by
  unfold d58
  rw [any_nil]
  simp only [dIf_b]
  refine ⟨fun e => absurd e (by simp), fun _ => ?_⟩
  rw [s.ld4, s.ld5, s.ld6]
  exact ⟨h, s.sub, hR⟩

theorem getInt_ok {s : ByteArray} {at_ : Int} (hz : s.size < 9223372036854775807)
    (hR : R (.ret (if at_ < 0 ∨ (s.size : Int) < at_ then .tuple #[.int .i64 0, .int .i64 0, .int .i64 1] else match rdNum s.data.toList at_.toNat with
      | .ok n next => .tuple #[.int .i64 n, .int .i64 next, .int .i64 0]
      | .bad e => .tuple #[.int .i64 0, .int .i64 0, .int .i64 e])) h) : ACalls Try.prog 58 #[.string s, .int .i64 at_] h R := by
  refine ACalls.drop (call58 ?_)
  unfold sh58
  refine vNew_i fun a ha => vNew_i fun b hb => vNew_i fun c hc => ?_
  have s3 := S3.new (o3 := .int .i64 0) ha hb hc
  revert s3
  generalize (ins (ins (ins h a (.cells #[.int .i64 0] 3 (0, 0))) b (.cells #[.int .i64 0] 3 (0, 0))) c (.cells #[.int .i64 0] 29 (0, 0))) = g
  intro s3
  have early : (at_ < 0 ∨ (s.size : Int) < at_) → vStore 1 (.pointer (some ⟨a, 0, none⟩)) (.int .i64 0) g fun h_8 => vStore 1 (.pointer (some ⟨b, 0, none⟩)) (.int .i64 0) h_8 fun h_9 => vStore 1 (.pointer (some ⟨c, 0, none⟩)) (.int .i64 1) h_9 fun h_10 =>
      vLoad none (.pointer (some ⟨a, 0, none⟩)) h_10 fun rv => vLoad none (.pointer (some ⟨b, 0, none⟩)) h_10 fun rv_1 => vLoad none (.pointer (some ⟨c, 0, none⟩)) h_10 fun rv_2 => ∃ g, Sub g h_10 ∧ R (.ret (.tuple #[rv, rv_1, rv_2])) g := fun hh => by
    rw [if_pos hh] at hR
    refine s3.st4 rfl fun s => s.st5 rfl fun s => s.st6 rfl fun s => ?_
    rw [s.ld4, s.ld5, s.ld6]
    exact ⟨h, s.sub, hR⟩
  by_cases h1 : at_ < 0
  · simp only [vBin_lss, h1, decide_true, boolOf_b, gq_b, Bool.true_eq_false, false_implies, ne_eq, not_false_eq_true, forall_const, true_and, not_true_eq_false, boolOf_u, gq_n, vPick_b, cond_true, dIf_b]
    first | exact early (.inl h1) | exact ⟨early (.inl h1), by simp⟩
  · by_cases h2 : (s.size : Int) < at_
    · simp only [vBin_lss, h1, decide_false, decide_true, boolOf_b, gq_b, Bool.true_eq_false, false_implies, ne_eq, not_false_eq_true, forall_const, true_and, and_true, not_true_eq_false, boolOf_u, gq_n, vPick_b, cond_false, dIf_b, vLenStr_s, vBin_gtr, h2]
      first | exact early (.inr h2) | exact ⟨early (.inr h2), by simp⟩
    · obtain ⟨n, rfl⟩ : ∃ n : Nat, at_ = n := ⟨at_.toNat, by omega⟩
      rw [if_neg (by omega), Int.toNat_natCast] at hR
      simp only [vBin_lss, h1, decide_false, decide_true, boolOf_b, gq_b, Bool.true_eq_false, Bool.false_eq_true, false_implies, ne_eq, not_false_eq_true, forall_const, true_and, and_true, not_true_eq_false, boolOf_u, gq_n, vPick_b, cond_false, dIf_b, vLenStr_s, vBin_gtr, h2]
      clear early
      refine ⟨#[.string s, .int .i64 n], rfl, ?_⟩
      refine vNew_i fun p hp => ?_
      refine vStore_to (ins_eq _ _ _) (by rfl) (by rfl) (by rfl) ?_
      rw [ins_ins]
      have hph : h p = none := s3.sub.fresh hp
      have hpa : a ≠ p := fun e => by rw [← e, s3.ga] at hp; cases hp
      have hpb : b ≠ p := fun e => by rw [← e, s3.gb] at hp; cases hp
      have hpc : c ≠ p := fun e => by rw [← e, s3.gc] at hp; cases hp
      refine rd_number (s := s) (at_ := n) (ins_eq _ _ _) hz (fun m next hrd => ?_) (fun er j hrd => ?_)
      · rw [hrd] at hR
        simp only [AEnd.elim]
        have s4 : S3 h (putRd (ins g p (.cells #[.string s, .int .i64 n] 111 (0, 0))) p s next) 3 a b c (.int .i64 0) (.int .i64 0) (.int .i64 0) := (s3.other hph hpa hpb hpc).other hph hpa hpb hpc
        have hpp : putRd (ins g p (.cells #[.string s, .int .i64 n] 111 (0, 0))) p s next p = some (.cells #[.string s, .int .i64 next] 111 (0, 0)) := ins_eq _ _ _
        revert s4 hpp
        generalize putRd (ins g p (.cells #[.string s, .int .i64 n] 111 (0, 0))) p s next = g4
        intro s4 hpp
        refine s4.st4 rfl fun s5 => ?_
        rw [s5.ld4]
        have hp5 : ∀ v o, ins (ins g4 a o) a v p = some (.cells #[.string s, .int .i64 next] 111 (0, 0)) := fun v o => by rw [ins_ins, ins_ne _ _ (fun e => hpa e.symm)]; exact hpp
        have hp4 : ∀ o, ins g4 a o p = some (.cells #[.string s, .int .i64 next] 111 (0, 0)) := fun o => by rw [ins_ne _ _ (fun e => hpa e.symm)]; exact hpp
        simp only [vFA_p]
        rw [vLoad_1 (hp4 _) (v := .int .i64 next) rfl]
        refine s5.st4 rfl fun s6 => ?_
        refine ⟨by rw [vLoad_1 (hp5 _ _) (v := .int .i64 next) rfl], ?_⟩
        refine s6.st5 rfl fun s7 => s7.st6 rfl fun s8 => ?_
        exact door_int_nil s8 hR
      · rw [hrd] at hR
        simp only [AEnd.elim]
        exact ⟨_, rfl, door_int ((s3.other hph hpa hpb hpc).other hph hpa hpb hpc) er hR⟩
end
end Go.Pw
/- GetText: a text that is read, or why not. -/
set_option linter.unusedSimpArgs false
set_option linter.unusedVariables false
namespace Go.Pw
open Go Go.Proofs

def rdTxt (s : ByteArray) (at_ : Nat) : Rd ByteArray := match rdNum s.data.toList at_ with
  | .bad e => .bad e
  | .ok n next => if 1048576 < n then .bad 4 else if s.size < next + n then .bad 10 else .ok (s.extract next (next + n)) (next + n)

section
variable {h : PH} {R : AEnd → PH → Prop} {K : Value → Prop} {p : Nat} {s : ByteArray}
theorem rdN_le {s : List UInt8} : ∀ (fuel i n at_ m next : Nat), rdN s fuel i n at_ = .ok m next → next ≤ s.length
  | 0, i, n, at_, m, next, h => by simp [rdN] at h
  | fuel + 1, i, n, at_, m, next, h => by
    rw [rdN] at h
    cases hc : s[at_]? with
    | none => rw [hc] at h; cases h
    | some c =>
      rw [hc] at h
      simp only at h
      have hl := (List.getElem?_eq_some_iff.1 hc).1
      split at h
      · split at h
        · cases h
        · exact rdN_le fuel _ _ _ _ _ h
      · split at h
        · cases h
        · cases h; omega
theorem rd_bytes {j n : Nat} (hr : RdAt h p s j) (hz : s.size < 4611686018427387904) (hj : j < 4611686018427387904) (hn : n ≤ 1048576)
    (hok : ¬ s.size < j + n → R (.ret (.string (s.extract j (j + n)))) (putRd h p s (j + n))) (hbad : s.size < j + n → R (.pan (fault 10)) h) :
    ACalls Try.prog 70 #[ptr p, .int .i64 n] h R := by
  refine call70 ?_
  unfold sh70
  have q0 : (#[Value.string s, .int .i64 j] : Array Value)[0 + 0]? = some (.string s) := rfl
  have q1 : (#[Value.string s, .int .i64 j] : Array Value)[0 + 1]? = some (.int .i64 j) := rfl
  simp only [vNil_p, vFA_p, vLoad_1 hr q0, vLoad_1 hr q1, vLenStr_s, vBin_sub]
  rw [w64 (by omega) (by omega)]
  simp only [vBin_gtr, dIf_b, decide_eq_true_eq, decide_eq_false_iff_not]
  refine ⟨fun hgt => ⟨_, _, rfl, hbad (by omega)⟩, fun hle => ?_⟩
  simp only [vBin_add]
  rw [w64 (by omega) (by omega)]
  refine (vStore_1 hr (by simp) rfl).2 ?_
  have hset : ins h p (.cells ((#[Value.string s, .int .i64 j] : Array Value).setIfInBounds (0 + 1) (.int .i64 ((j : Int) + (n : Int)))) 111 (0, 0)) = putRd h p s (j + n) := rfl
  rw [hset]
  have hp : putRd h p s (j + n) p = some (.cells #[.string s, .int .i64 (j + n : Nat)] 111 (0, 0)) := ins_eq _ _ _
  have r0 : (#[Value.string s, .int .i64 (j + n : Nat)] : Array Value)[0 + 0]? = some (.string s) := rfl
  have r1 : (#[Value.string s, .int .i64 (j + n : Nat)] : Array Value)[0 + 1]? = some (.int .i64 (j + n : Nat)) := rfl
  simp only [vLoad_1 hp r0, vLoad_1 hp r1, vBin_sub]
  rw [w64 (by omega) (by omega)]
  refine ⟨s, rfl, .i64, _, rfl, by omega, by omega, .i64, _, rfl, by omega, by omega, ?_⟩
  rw [Int.toNat_natCast, show (((j + n : Nat) : Int) - (n : Int)).toNat = j by omega]
  exact hok (by omega)
theorem rd_text {at_ : Nat} (hr : RdAt h p s at_) (hz : s.size < 4611686018427387904) (ha : at_ < 4611686018427387904)
    (hok : ∀ t next, rdTxt s at_ = .ok t next → R (.ret (.string t)) (putRd h p s next))
    (hbad : ∀ e j, rdTxt s at_ = .bad e → R (.pan (fault e)) (putRd h p s j)) :
    ACalls Try.prog 69 #[ptr p] h R := by
  refine call69 ?_
  unfold sh69
  refine rd_number hr (by omega) (fun n next hrd => ?_) (fun e j hrd => ?_)
  · have hnx : next ≤ s.size := by
      have := rdN_le _ _ _ _ _ _ hrd
      rw [Array.length_toList] at this
      exact this
    simp only [AEnd.elim, vBin_gtr, dIf_b, decide_eq_true_eq, decide_eq_false_iff_not]
    unfold rdTxt at hok hbad
    rw [hrd] at hok hbad
    simp only at hok hbad
    refine ⟨fun hgt => ?_, fun hle => ?_⟩
    · exact ⟨_, _, rfl, hbad 4 next (by rw [if_pos (by omega)])⟩
    · rw [if_neg (by omega)] at hok hbad
      refine rd_bytes (j := next) (n := n) (ins_eq _ _ _) hz (by omega) (by omega) (fun hh => ?_) (fun hh => ?_)
      · simp only [AEnd.elim]
        rw [putRd_put]
        exact hok _ _ (by rw [if_neg hh])
      · simp only [AEnd.elim]
        exact hbad 10 next (by rw [if_pos hh])
  · simp only [AEnd.elim]
    exact hbad e j (by unfold rdTxt; rw [hrd])
variable {g : PH} {e : TypeId} {a b c : Nat} {v4 v5 v6 : Value}
/-- What the closure of GetText makes of a fault. -/
theorem door_txt {v5 : Value} (s : S3 h g 9 a b c v4 v5 v6) (er : Int) (hR : R (.ret (.tuple #[.string ⟨#[]⟩, .int .i64 0, .int .i64 er])) h) :
    d59 (ptr a) (ptr b) (ptr c) (ptr a) (ptr b) (ptr c) (fun e h' => ∃ g, Sub g h' ∧ R e g) (.iface 113 (.int .i64 er)) g := by
  unfold d59
  rw [any_neq]
  simp only [dIf_b]
  refine ⟨fun _ => ?_, fun e => absurd e (by simp)⟩
  refine caught_ok ?_
  simp only [AEnd.elim]
  refine s.st4 rfl fun s => s.st5 rfl fun s => s.st6 rfl fun s => ?_
  rw [s.ld4, s.ld5, s.ld6]
  exact ⟨h, s.sub, hR⟩
theorem door_txt_nil (s : S3 h g 9 a b c v4 v5 v6) (hR : R (.ret (.tuple #[v4, v5, v6])) h) :
    d59 (ptr a) (ptr b) (ptr c) (ptr a) (ptr b) (ptr c) (fun e h' => ∃ g, Sub g h' ∧ R e g) .nilIface g := by
  unfold d59
  rw [any_nil]
  simp only [dIf_b]
  refine ⟨fun e => absurd e (by simp), fun _ => ?_⟩
  rw [s.ld4, s.ld5, s.ld6]
  exact ⟨h, s.sub, hR⟩

theorem getText_ok {s : ByteArray} {at_ : Int} (hz : s.size < 4611686018427387904)
    (hR : R (.ret (if at_ < 0 ∨ (s.size : Int) < at_ then .tuple #[.string ⟨#[]⟩, .int .i64 0, .int .i64 1] else match rdTxt s at_.toNat with
      | .ok t next => .tuple #[.string t, .int .i64 next, .int .i64 0]
      | .bad e => .tuple #[.string ⟨#[]⟩, .int .i64 0, .int .i64 e])) h) : ACalls Try.prog 59 #[.string s, .int .i64 at_] h R := by
  refine ACalls.drop (call59 ?_)
  unfold sh59
  refine vNew_i fun a ha => vNew_i fun b hb => vNew_i fun c hc => ?_
  have s3 := S3.new (o3 := .int .i64 0) ha hb hc
  revert s3
  generalize (ins (ins (ins h a (.cells #[.string ⟨#[]⟩] 9 (0, 0))) b (.cells #[.int .i64 0] 3 (0, 0))) c (.cells #[.int .i64 0] 29 (0, 0))) = g
  intro s3
  have early : (at_ < 0 ∨ (s.size : Int) < at_) → vStore 1 (.pointer (some ⟨a, 0, none⟩)) (.string ⟨#[]⟩) g fun h_8 => vStore 1 (.pointer (some ⟨b, 0, none⟩)) (.int .i64 0) h_8 fun h_9 => vStore 1 (.pointer (some ⟨c, 0, none⟩)) (.int .i64 1) h_9 fun h_10 =>
      vLoad none (.pointer (some ⟨a, 0, none⟩)) h_10 fun rv => vLoad none (.pointer (some ⟨b, 0, none⟩)) h_10 fun rv_1 => vLoad none (.pointer (some ⟨c, 0, none⟩)) h_10 fun rv_2 => ∃ g, Sub g h_10 ∧ R (.ret (.tuple #[rv, rv_1, rv_2])) g := fun hh => by
    rw [if_pos hh] at hR
    refine s3.st4 rfl fun s => s.st5 rfl fun s => s.st6 rfl fun s => ?_
    rw [s.ld4, s.ld5, s.ld6]
    exact ⟨h, s.sub, hR⟩
  by_cases h1 : at_ < 0
  · simp only [vBin_lss, h1, decide_true, boolOf_b, gq_b, Bool.true_eq_false, false_implies, ne_eq, not_false_eq_true, forall_const, true_and, not_true_eq_false, boolOf_u, gq_n, vPick_b, cond_true, dIf_b]
    first | exact early (.inl h1) | exact ⟨early (.inl h1), by simp⟩
  · by_cases h2 : (s.size : Int) < at_
    · simp only [vBin_lss, h1, decide_false, decide_true, boolOf_b, gq_b, Bool.true_eq_false, false_implies, ne_eq, not_false_eq_true, forall_const, true_and, and_true, not_true_eq_false, boolOf_u, gq_n, vPick_b, cond_false, dIf_b, vLenStr_s, vBin_gtr, h2]
      first | exact early (.inr h2) | exact ⟨early (.inr h2), by simp⟩
    · obtain ⟨n, rfl⟩ : ∃ n : Nat, at_ = n := ⟨at_.toNat, by omega⟩
      rw [if_neg (by omega), Int.toNat_natCast] at hR
      simp only [vBin_lss, h1, decide_false, decide_true, boolOf_b, gq_b, Bool.true_eq_false, Bool.false_eq_true, false_implies, ne_eq, not_false_eq_true, forall_const, true_and, and_true, not_true_eq_false, boolOf_u, gq_n, vPick_b, cond_false, dIf_b, vLenStr_s, vBin_gtr, h2]
      clear early
      refine ⟨#[.string s, .int .i64 n], rfl, ?_⟩
      refine vNew_i fun p hp => ?_
      refine vStore_to (ins_eq _ _ _) (by rfl) (by rfl) (by rfl) ?_
      rw [ins_ins]
      have hph : h p = none := s3.sub.fresh hp
      have hpa : a ≠ p := fun e => by rw [← e, s3.ga] at hp; cases hp
      have hpb : b ≠ p := fun e => by rw [← e, s3.gb] at hp; cases hp
      have hpc : c ≠ p := fun e => by rw [← e, s3.gc] at hp; cases hp
      refine rd_text (s := s) (at_ := n) (ins_eq _ _ _) hz (by omega) (fun m next hrd => ?_) (fun er j hrd => ?_)
      · rw [hrd] at hR
        simp only [AEnd.elim]
        have s4 : S3 h (putRd (ins g p (.cells #[.string s, .int .i64 n] 111 (0, 0))) p s next) 9 a b c (.string ⟨#[]⟩) (.int .i64 0) (.int .i64 0) := (s3.other hph hpa hpb hpc).other hph hpa hpb hpc
        have hpp : putRd (ins g p (.cells #[.string s, .int .i64 n] 111 (0, 0))) p s next p = some (.cells #[.string s, .int .i64 next] 111 (0, 0)) := ins_eq _ _ _
        revert s4 hpp
        generalize putRd (ins g p (.cells #[.string s, .int .i64 n] 111 (0, 0))) p s next = g4
        intro s4 hpp
        refine s4.st4 rfl fun s5 => ?_
        rw [s5.ld4]
        have hp5 : ∀ v o, ins (ins g4 a o) a v p = some (.cells #[.string s, .int .i64 next] 111 (0, 0)) := fun v o => by rw [ins_ins, ins_ne _ _ (fun e => hpa e.symm)]; exact hpp
        have hp4 : ∀ o, ins g4 a o p = some (.cells #[.string s, .int .i64 next] 111 (0, 0)) := fun o => by rw [ins_ne _ _ (fun e => hpa e.symm)]; exact hpp
        simp only [vFA_p]
        rw [vLoad_1 (hp4 _) (v := .int .i64 next) rfl]
        refine s5.st4 rfl fun s6 => ?_
        refine ⟨by rw [vLoad_1 (hp5 _ _) (v := .int .i64 next) rfl], ?_⟩
        refine s6.st5 rfl fun s7 => s7.st6 rfl fun s8 => ?_
        exact door_txt_nil s8 hR
      · rw [hrd] at hR
        simp only [AEnd.elim]
        exact ⟨_, rfl, door_txt ((s3.other hph hpa hpb hpc).other hph hpa hpb hpc) er hR⟩
end
end Go.Pw
/- The numbers of an account's record, read one behind the other. -/
set_option linter.unusedSimpArgs false
set_option linter.unusedVariables false
namespace Go.Pw
open Go Go.Proofs

/-- A number at a place, and the next place; 0 and a place that is not, where there is none that may be. -/
def numAt (s : ByteArray) (at_ : Nat) : Nat × Nat := if s.size < at_ then (0, s.size + 1) else match rdNum s.data.toList at_ with
  | .ok n next => if 1099511627776 < n then (0, s.size + 1) else (n, next)
  | .bad _ => (0, s.size + 1)
theorem numAt_le (s : ByteArray) (at_ : Nat) : (numAt s at_).1 ≤ 1099511627776 ∧ (numAt s at_).2 ≤ s.size + 1 := by
  unfold numAt
  split
  · exact ⟨by omega, by omega⟩
  · split
    · rename_i n next hr
      have := rdN_le _ _ _ _ _ _ hr
      rw [Array.length_toList] at this
      have hz : s.data.size = s.size := rfl
      split
      · exact ⟨by simp, by simp⟩
      · exact ⟨by omega, by simp only; omega⟩
    · exact ⟨by simp, by simp⟩
theorem rdN_bad {s : List UInt8} : ∀ (fuel i n at_ : Nat) (e : Int), rdN s fuel i n at_ = .bad e → e = 10 ∨ e = 11
  | 0, i, n, at_, e, h => by rw [rdN] at h; cases h; exact .inr rfl
  | fuel + 1, i, n, at_, e, h => by
    rw [rdN] at h
    cases hc : s[at_]? with
    | none => rw [hc] at h; cases h; exact .inl rfl
    | some c =>
      rw [hc] at h
      simp only at h
      split at h
      · split at h
        · cases h; exact .inr rfl
        · exact rdN_bad fuel _ _ _ _ h
      · split at h
        · cases h; exact .inr rfl
        · cases h
def atN (s : ByteArray) : Nat → Nat
  | 0 => 0
  | k + 1 => (numAt s (atN s k)).2
def vN (s : ByteArray) (k : Nat) : Nat := (numAt s (atN s k)).1
theorem atN_le (s : ByteArray) : ∀ k, atN s k ≤ s.size + 1
  | 0 => by simp [atN]
  | k + 1 => (numAt_le s _).2

section
variable {h : PH} {R : AEnd → PH → Prop} {ps pa : Nat} {s : ByteArray}
theorem num_ok {at_ : Nat} (hs : h ps = some (.cells #[.string s] 9 (0, 0))) (ha : h pa = some (.cells #[.int .i64 at_] 3 (0, 0))) (hz : s.size < 4611686018427387000) (hat : at_ ≤ s.size + 1)
    (hR : R (.ret (.int .i64 (numAt s at_).1)) (ins h pa (.cells #[.int .i64 (numAt s at_).2] 3 (0, 0)))) :
    ACalls Try.prog 57 #[ptr ps, ptr pa] h R := by
  refine call57 ?_
  unfold sh57
  rw [vLoad_1 hs (v := .string s) rfl, vLoad_1 ha (v := .int .i64 at_) rfl]
  refine getInt_ok (by omega) ?_
  have st : ∀ {K : PH → Prop} {n : Nat}, K (ins h pa (.cells #[.int .i64 n] 3 (0, 0))) → vStore 1 (ptr pa) (.int .i64 n) h K := fun {K n} hk => (vStore_1 ha (by simp) rfl).2 hk
  have bad : numAt s at_ = (0, s.size + 1) → (vLoad none (ptr ps) h fun t19 => vLenStr t19 fun t20 => vBin Try.prog .add 3 t20 (.int .i64 1) fun t21 => vStore 1 (ptr pa) t21 h fun h_4 => R (.ret (.int .i64 0)) h_4) := fun hh => by
    rw [vLoad_1 hs (v := .string s) rfl]
    simp only [vLenStr_s, vBin_add]
    rw [w64 (by omega) (by omega), show ((s.size : Int) + 1) = ((s.size + 1 : Nat) : Int) by omega]
    refine st ?_
    rw [hh] at hR
    exact hR
  unfold numAt at bad hR
  by_cases h1 : s.size < at_
  · rw [if_pos h1] at bad
    rw [if_pos (.inr (by omega))]
    simp [AEnd.elim]
    exact bad rfl
  · rw [if_neg h1] at bad hR
    rw [if_neg (by omega)]
    rw [Int.toNat_natCast]
    cases hr : rdNum s.data.toList at_ with
    | bad e =>
      rw [hr] at bad hR
      simp only [AEnd.elim, vExt_30, vExt_31, vExt_32, vBin_neq]
      have he : e ≠ 0 := by rcases rdN_bad _ _ _ _ _ hr with h | h <;> omega
      simp [he]
      exact bad rfl
    | ok n next =>
      rw [hr] at bad hR
      simp only at bad hR
      simp only [AEnd.elim, vExt_30, vExt_31, vExt_32, vBin_neq]
      by_cases hb : 1099511627776 < n
      · rw [if_pos hb] at bad
        have : (1099511627776 : Int) < (n : Int) := by omega
        simp [this]
        exact bad rfl
      · rw [if_neg hb] at hR
        have : ¬ (1099511627776 : Int) < (n : Int) := by omega
        simp [this]
        exact st hR
end
end Go.Pw
/- Ledger.read: an account read from its record. (Under way.) -/
set_option linter.unusedSimpArgs false
set_option linter.unusedVariables false
namespace Go.Pw
open Go Go.Proofs

/-- While an account is read: the ledger L' stands at x, b; the text at ps; the place at pa. -/
structure RS (h : PH) (x b ps pa : Nat) (s : ByteArray) (g : PH) (L' : Led) (at_ : Nat) : Prop where
  sub : Sub (putLed h b L') g
  gs : g ps = some (.cells #[.string s] 9 (0, 0))
  ga : g pa = some (.cells #[.int .i64 at_] 3 (0, 0))
  hps : h ps = none
  hpa : h pa = none
  psb : ps ≠ b
  pab : pa ≠ b
  sa : ps ≠ pa
  led : LedAt g x b L'

section
variable {h g : PH} {x b ps pa : Nat} {s : ByteArray} {L' : Led} {at_ : Nat}
theorem RS.num {K : Value → PH → Prop} {Kp : List PanicEntry → PH → Prop} (r : RS h x b ps pa s g L' at_) (hz : s.size < 4611686018427387000) (hat : at_ ≤ s.size + 1)
    (hk : ∀ g', RS h x b ps pa s g' L' (numAt s at_).2 → K (.int .i64 (numAt s at_).1) g') : vCallV Try.prog (.func (.func 57) #[] #[ptr ps, ptr pa]) #[] g K Kp := by
  refine ⟨_, _, _, rfl, ?_⟩
  refine num_ok r.gs r.ga hz hat ?_
  simp only [AEnd.elim]
  have hn : putLed h b L' pa = none := by unfold putLed; rw [ins_ne _ _ r.pab]; exact r.hpa
  have hxa : pa ≠ x := fun e => by have := r.led.hx; rw [← e, r.ga] at this; simp at this
  refine hk _ ⟨Sub.put r.sub hn, by rw [ins_ne _ _ r.sa]; exact r.gs, ins_eq _ _ _, r.hps, r.hpa, r.psb, r.pab, r.sa, ⟨by rw [ins_ne _ _ (fun e => hxa e.symm)]; exact r.led.hx, by rw [ins_ne _ _ (fun e => r.pab e.symm)]; exact r.led.hb, r.led.ne⟩⟩
theorem RS.set {K : PH → Prop} (r : RS h x b ps pa s g L' at_) {i j : Nat} {v : Int} (hi : i < L'.n) (hj : j < 11) (hk : ∀ g', RS h x b ps pa s g' (L'.set i j v) at_ → K g') : vStore 1 (.pointer (some ⟨b, i * 12 + j, none⟩)) (.int .i64 v) g K := by
  rw [r.led.st hi hj]
  refine hk _ ⟨Sub.over r.sub, by unfold putLed; rw [ins_ne _ _ r.psb]; exact r.gs, by unfold putLed; rw [ins_ne _ _ r.pab]; exact r.ga, r.hps, r.hpa, r.psb, r.pab, r.sa, r.led.after i j v⟩
end

/-- What is read of the numbers: the stamp, cash, held; then k goods; then k of what is locked. -/
def ldG (L : Led) (i : Nat) (s : ByteArray) : Nat → Led
  | 0 => ((L.set i 10 (vN s 0)).set i 0 (vN s 1)).set i 1 (vN s 2)
  | k + 1 => (ldG L i s k).set i (2 + k) (vN s (3 + k))
def ldK (L : Led) (i : Nat) (s : ByteArray) (g : Nat) : Nat → Led
  | 0 => ldG L i s g
  | k + 1 => (ldK L i s g k).set i (6 + k) (vN s (3 + g + k))
theorem ldG_gn (L : Led) (i : Nat) (s : ByteArray) : ∀ k, (ldG L i s k).n = L.n ∧ (ldG L i s k).goods = L.goods
  | 0 => ⟨rfl, rfl⟩
  | k + 1 => ldG_gn L i s k
theorem ldK_gn (L : Led) (i : Nat) (s : ByteArray) (g : Nat) : ∀ k, (ldK L i s g k).n = L.n ∧ (ldK L i s g k).goods = L.goods
  | 0 => ldG_gn L i s g
  | k + 1 => ldK_gn L i s g k

open Classical in
/-- An account may be: the text comes, ends the record, is short; held is at most cash; a reply has a stamp. -/
noncomputable def mayRead (M : Led) (i : Nat) (s : ByteArray) (at_ : Nat) : Option ByteArray := if s.size < at_ then none else match rdTxt s at_ with
  | .bad _ => none
  | .ok t next => if next = s.size ∧ t.size ≤ 256 ∧ M.f i 1 ≤ M.f i 0 ∧ (M.f i 10 = 0 → t = ⟨#[]⟩) ∧ (∀ j, j < 4 → M.f i (6 + j) ≤ M.f i (2 + j)) then some t else none

section
variable {h g : PH} {R : AEnd → PH → Prop} {x b ps pa : Nat} {s : ByteArray} {M : Led} {at_ : Nat} {i : Nat}
theorem LedAt.ldGoods {K : Value → Prop} (hL : LedAt g x b M) (hi : i < M.n) : vLoad (some 4) (.pointer (some ⟨b, i * 12 + 2, none⟩)) g K ↔ K (.agg (cells4 fun j => M.f i (2 + j))) := by
  rw [vLoad_n hL.hb (by rw [ledCells_size]; omega)]
  have he : (ledCells M).extract (i * 12 + 2) (i * 12 + 2 + 4) = cells4 fun j => M.f i (2 + j) := by
    rw [← entCells_goods, ← ledCells_ent hi, Array.extract_extract]
    congr 1
    omega
  rw [he]
theorem read_last (r : RS h x b ps pa s g M at_) (hi : i < M.n) {t : ByteArray}
    (hno : ¬ (∀ j, j < 4 → M.f i (6 + j) ≤ M.f i (2 + j)) → R (.ret (.bool false)) (putLed h b M)) (hyes : (∀ j, j < 4 → M.f i (6 + j) ≤ M.f i (2 + j)) → R (.ret (.bool true)) (putLed h b (M.setR i t))) :
    lf (b40_18 (fun c h => ∃ g, Sub g h ∧ R (.pan c) g) (fun v h => exq (fun ρ => (ρ 1, ρ 6, ρ 11)) v (fun r_2 h_40 =>
      vNil (r_2 1) fun t131 => vFA 11 t131 fun t132 => vStore 1 t132 (r_2 11) h_40 fun h_41 => ∃ g, Sub g h_41 ∧ R (.ret (.bool true)) g) h) (fun v h => exq (fun ρ => (ρ 1, ρ 6, ρ 11)) v (fun r_2 h_42 => ∃ g, Sub g h_42 ∧ R (.ret (r_2 6)) g) h))
      (.pointer (some ⟨b, i * 12, none⟩), .string t, .agg (cells4 fun j => M.f i (2 + j))) (.bool false, .int .i64 0) g := by
  refine lf_intro (fun m s' g' => ∃ j : Nat, s' = (.bool false, .int .i64 j) ∧ m = 4 - j ∧ j ≤ 4 ∧ g' = g ∧ ∀ k, k < j → M.f i (6 + k) ≤ M.f i (2 + k)) 4 ⟨0, rfl, rfl, by omega, rfl, fun k hk => absurd hk (by omega)⟩ ?_
  rintro m s' g' ⟨j, rfl, rfl, hj, rfl, hall⟩
  by_cases h4 : j < 4
  · have key : ∀ (kn : (Value × Value × Value) → (Value × Value) → PH → Prop) Kp (x4 xr : (Value × Value × Value) → PH → Prop),
        (M.f i (6 + j) ≤ M.f i (2 + j) → kn (.pointer (some ⟨b, i * 12, none⟩), .string t, .agg (cells4 fun j => M.f i (2 + j))) (.bool false, .int .i64 ((j : Int) + 1)) g') →
        (¬ M.f i (6 + j) ≤ M.f i (2 + j) → xr (.pointer (some ⟨b, i * 12, none⟩), .bool false, .string t) g') →
        b40_18 Kp x4 xr (.pointer (some ⟨b, i * 12, none⟩), .string t, .agg (cells4 fun j => M.f i (2 + j))) kn (.bool false, .int .i64 j) g' := by
      intro kn Kp x4 xr h1 h2
      unfold b40_18
      have hlt : (j : Int) < 4 := by omega
      simp only [vBin_lss, hlt, decide_true, dIf_b]
      refine ⟨fun _ => ?_, fun e => absurd e (by simp)⟩
      refine ⟨_, _, _, rfl, rfl, by omega, by omega, ?_⟩
      rw [show (j : Int).toNat * 1 = j by omega]
      refine (cellsAt_one (cells4_get _ h4)).2 ?_
      simp only [vNil_p, vFA_p, Nat.add_zero, vIxA_p]
      refine ⟨by omega, by omega, ?_⟩
      rw [show i * 12 + 6 + (j : Int).toNat * 1 = i * 12 + (6 + j) by omega, r.led.ld hi (by omega)]
      simp only [vBin_gtr, dIf_b, decide_eq_true_eq, decide_eq_false_iff_not, vBin_add]
      rw [w64 (by omega) (by omega)]
      exact ⟨fun hh => h2 (by omega), fun hh => h1 (by omega)⟩
    refine key _ _ _ _ (fun hle => ⟨rfl, 4 - (j + 1), by omega, j + 1, rfl, rfl, by omega, rfl, fun k hk => ?_⟩) (fun hgt => ?_)
    · by_cases e : k = j
      · subst e; exact hle
      · exact hall k (by omega)
    · intro r2 hr
      simp only [Prod.mk.injEq] at hr
      rw [hr.2.1]
      exact ⟨_, r.sub, hno fun hh => hgt (hh j h4)⟩
  · have e4 : j = 4 := by omega
    subst e4
    unfold b40_18
    simp only [vBin_lss, dIf_b]
    refine ⟨fun e => absurd e (by decide), fun _ => ?_⟩
    intro r2 hr
    simp only [Prod.mk.injEq] at hr
    rw [hr.1, hr.2.2]
    simp only [vNil_p, vFA_p]
    rw [r.led.stR hi]
    exact ⟨_, Sub.over r.sub, hyes hall⟩
end

section
variable {h : PH} {R : AEnd → PH → Prop} {x b : Nat} {L : Led} {i : Nat} {s : ByteArray}
theorem read_ok (hL : LedAt h x b L) (hi : i < L.n) (hg1 : 1 ≤ L.goods) (hg4 : L.goods ≤ 4) (hz : s.size < 4611686018427387000)
    (hno : mayRead (ldK L i s L.goods.toNat L.goods.toNat) i s (atN s (3 + L.goods.toNat + L.goods.toNat)) = none → R (.ret (.bool false)) (putLed h b (ldK L i s L.goods.toNat L.goods.toNat)))
    (hyes : ∀ t, mayRead (ldK L i s L.goods.toNat L.goods.toNat) i s (atN s (3 + L.goods.toNat + L.goods.toNat)) = some t → R (.ret (.bool true)) (putLed h b ((ldK L i s L.goods.toNat L.goods.toNat).setR i t))) :
    ACalls Try.prog 40 #[ptr x, .pointer (some ⟨b, i * 12, none⟩), .string s] h R := by
  refine ACalls.drop (call40 ?_)
  unfold sh40
  refine vNew_i fun ps hps => vNew_i fun pa hpa => ?_
  simp only [Value.cells]
  refine (vStore_1 (ins_eq _ _ _) (by simp) rfl).2 ?_
  rw [ins_ins, show (#[Value.int .i64 0] : Array Value).setIfInBounds 0 (.int .i64 0) = #[.int .i64 0] from rfl]
  obtain ⟨hpa1, hpas⟩ := fresh_of hpa
  have hpsb : ps ≠ b := fun e => by rw [e, hL.hb] at hps; cases hps
  have hpab : pa ≠ b := fun e => by rw [e, hL.hb] at hpa1; cases hpa1
  have hpsx : ps ≠ x := fun e => by rw [e, hL.hx] at hps; cases hps
  have hpax : pa ≠ x := fun e => by rw [e, hL.hx] at hpa1; cases hpa1
  have r0 : RS h x b ps pa s (ins (ins h ps (.cells #[.string s] 9 (0, 0))) pa (.cells #[.int .i64 (0 : Nat)] 3 (0, 0))) L (atN s 0) :=
    ⟨by rw [putLed_self hL]; exact Sub.put (Sub.put (Sub.refl h) hps) hpa1, by rw [ins_ne _ _ (fun e => hpas e.symm)]; exact ins_eq _ _ _, ins_eq _ _ _, hps, hpa1, hpsb, hpab, fun e => hpas e.symm,
      hL.sub (Sub.put (Sub.put (Sub.refl h) hps) hpa1)⟩
  revert r0
  show RS h x b ps pa s (ins (ins h ps (.cells #[.string s] 9 (0, 0))) pa (.cells #[.int .i64 0] 3 (0, 0))) L (atN s 0) → _
  generalize ins (ins h ps (.cells #[.string s] 9 (0, 0))) pa (.cells #[.int .i64 0] 3 (0, 0)) = g0
  intro r0
  simp only [vFunc_v]
  refine r0.num hz (atN_le s 0) fun g1 r1 => ?_
  refine r1.num hz (atN_le s 1) fun g2 r2 => ?_
  refine r2.num hz (atN_le s 2) fun g3 r3 => ?_
  simp only [vNil_p, vFA_p, Nat.add_zero]
  refine r3.set hi (by omega) fun g4 r4 => ?_
  refine r4.set (j := 0) hi (by omega) fun g5 r5 => ?_
  refine r5.set hi (by omega) fun g6 r6 => ?_
  have r6' : RS h x b ps pa s g6 (ldG L i s 0) (atN s (3 + 0)) := r6
  rw [vLoad_1 r6.led.hx (v := .int .i64 L.goods) rfl]
  refine lf_intro (fun m s' g' => ∃ j : Nat, s' = .int .i64 j ∧ m = L.goods.toNat - j ∧ j ≤ L.goods.toNat ∧ RS h x b ps pa s g' (ldG L i s j) (atN s (3 + j))) L.goods.toNat ⟨0, rfl, rfl, by omega, r6'⟩ ?_
  rintro m s' g' ⟨j, rfl, rfl, hj, rj⟩
  by_cases hjl : j < L.goods.toNat
  · have key : ∀ (kn : (Value × Value × Value × Value × Value × Value × Value) → Value → PH → Prop) Kp x0, (∀ g2, RS h x b ps pa s g2 (ldG L i s (j + 1)) (atN s (3 + (j + 1))) → kn (ptr x, .pointer (some ⟨b, i * 12, none⟩), ptr ps, .bool false, ptr pa, .func (.func 57) #[] #[ptr ps, ptr pa], .int .i64 L.goods) (.int .i64 ((j : Int) + 1)) g2) →
        b40_5 Kp x0 (ptr x, .pointer (some ⟨b, i * 12, none⟩), ptr ps, .bool false, ptr pa, .func (.func 57) #[] #[ptr ps, ptr pa], .int .i64 L.goods) kn (.int .i64 j) g' := by
      intro kn Kp x0 hk
      unfold b40_5
      have hlt : (j : Int) < L.goods := by omega
      simp only [vBin_lss, hlt, decide_true, dIf_b]
      refine ⟨fun _ => ?_, fun e => absurd e (by simp)⟩
      simp only [vNil_p, vFA_p, Nat.add_zero]
      refine rj.num hz (atN_le s _) fun g2 q2 => ?_
      simp only [vIxA_p]
      refine ⟨by omega, by omega, ?_⟩
      rw [show i * 12 + 2 + (j : Int).toNat * 1 = i * 12 + (2 + j) by omega]
      refine q2.set (by rw [(ldG_gn L i s j).1]; exact hi) (by omega) fun g3 q3 => ?_
      simp only [vBin_add]
      rw [w64 (by omega) (by omega)]
      exact hk g3 q3
    exact key _ _ _ fun g2 q2 => ⟨rfl, L.goods.toNat - (j + 1), by omega, j + 1, rfl, rfl, by omega, q2⟩
  · have hje : j = L.goods.toNat := by omega
    subst hje
    unfold b40_5
    have hnl : ¬ ((L.goods.toNat : Int) < L.goods) := by omega
    simp only [vBin_lss, hnl, decide_false, dIf_b]
    refine ⟨fun e => absurd e (by simp), fun _ => ?_⟩
    intro r hr
    simp only [Prod.mk.injEq] at hr
    obtain ⟨q0, q1, q5, q6, q7, q8⟩ := hr
    rw [q0, q1, q5, q6, q7, q8]
    clear q0 q1 q5 q6 q7 q8
    simp only [vNil_p, vFA_p, Nat.add_zero]
    rw [vLoad_1 rj.led.hx (v := .int .i64 L.goods) (by rw [(ldG_gn L i s L.goods.toNat).2]; rfl)]
    refine lf_intro (fun m s' g' => ∃ j : Nat, s' = .int .i64 j ∧ m = L.goods.toNat - j ∧ j ≤ L.goods.toNat ∧ RS h x b ps pa s g' (ldK L i s L.goods.toNat j) (atN s (3 + L.goods.toNat + j))) L.goods.toNat ⟨0, rfl, rfl, by omega, rj⟩ ?_
    rintro m s' g' ⟨j, rfl, rfl, hj, rk⟩
    by_cases hjl : j < L.goods.toNat
    · have key : ∀ (kn : (Value × Value × Value × Value × Value × Value) → Value → PH → Prop) Kp x0, (∀ g2, RS h x b ps pa s g2 (ldK L i s L.goods.toNat (j + 1)) (atN s (3 + L.goods.toNat + (j + 1))) → kn (.pointer (some ⟨b, i * 12, none⟩), ptr ps, .bool false, ptr pa, .func (.func 57) #[] #[ptr ps, ptr pa], .int .i64 L.goods) (.int .i64 ((j : Int) + 1)) g2) →
          b40_10 Kp x0 (.pointer (some ⟨b, i * 12, none⟩), ptr ps, .bool false, ptr pa, .func (.func 57) #[] #[ptr ps, ptr pa], .int .i64 L.goods) kn (.int .i64 j) g' := by
        intro kn Kp x0 hk
        unfold b40_10
        have hlt : (j : Int) < L.goods := by omega
        simp only [vBin_lss, hlt, decide_true, dIf_b]
        refine ⟨fun _ => ?_, fun e => absurd e (by simp)⟩
        simp only [vNil_p, vFA_p, Nat.add_zero]
        refine rk.num hz (atN_le s _) fun g2 q2 => ?_
        simp only [vIxA_p]
        refine ⟨by omega, by omega, ?_⟩
        rw [show i * 12 + 6 + (j : Int).toNat * 1 = i * 12 + (6 + j) by omega]
        refine q2.set (by rw [(ldK_gn L i s L.goods.toNat j).1]; exact hi) (by omega) fun g3 q3 => ?_
        simp only [vBin_add]
        rw [w64 (by omega) (by omega)]
        exact hk g3 q3
      exact key _ _ _ fun g2 q2 => ⟨rfl, L.goods.toNat - (j + 1), by omega, j + 1, rfl, rfl, by omega, q2⟩
    · have hje : j = L.goods.toNat := by omega
      subst hje
      unfold b40_10
      simp only [vBin_lss, hnl, decide_false, dIf_b]
      refine ⟨fun e => absurd e (by simp), fun _ => ?_⟩
      intro r hr
      simp only [Prod.mk.injEq] at hr
      obtain ⟨q1, q5, q6, q7⟩ := hr
      rw [q1, q5, q6, q7]
      clear q1 q5 q6 q7
      have hiM : i < (ldK L i s L.goods.toNat L.goods.toNat).n := by rw [(ldK_gn L i s L.goods.toNat L.goods.toNat).1]; exact hi
      have hatl := atN_le s (3 + L.goods.toNat + L.goods.toNat)
      clear rj r0 r1 r2 r3 r4 r5 r6 r6'
      generalize atN s (3 + L.goods.toNat + L.goods.toNat) = at_ at *
      generalize ldK L i s L.goods.toNat L.goods.toNat = M at *
      rw [vLoad_1 rk.gs (v := .string s) rfl, vLoad_1 rk.ga (v := .int .i64 at_) rfl]
      refine getText_ok (by omega) ?_
      simp only [AEnd.elim]
      have no : mayRead M i s at_ = none → ∃ g, Sub g g' ∧ R (.ret (.bool false)) g := fun hh => ⟨_, rk.sub, hno hh⟩
      unfold mayRead at no hyes hno
      by_cases h1 : s.size < at_
      · rw [if_pos h1] at no
        rw [if_pos (.inr (by omega))]
        simp only [vExt_30, vExt_31, vExt_32, vBin_neq, Int.reduceEq, decide_false, Bool.not_false, boolOf_b, gq_b, Bool.true_eq_false, false_implies, ne_eq, not_false_eq_true, forall_const, true_and, and_true, not_true_eq_false, boolOf_u, gq_n, vPick_b, cond_true, dIf_b]
        first | exact no rfl | exact ⟨no rfl, by simp⟩
      · rw [if_neg h1] at no hyes
        rw [if_neg (by omega), Int.toNat_natCast]
        cases hr : rdTxt s at_ with
        | bad e =>
          rw [hr] at no
          have he : ¬ e = 0 := by
            unfold rdTxt at hr
            split at hr
            · rename_i e' hr'
              cases hr
              rcases rdN_bad _ _ _ _ _ hr' with h | h <;> omega
            · split at hr
              · cases hr; omega
              · split at hr
                · cases hr; omega
                · cases hr
          simp only [vExt_30, vExt_31, vExt_32, vBin_neq, he, decide_false, Bool.not_false, boolOf_b, gq_b, Bool.true_eq_false, false_implies, ne_eq, not_false_eq_true, forall_const, true_and, and_true, not_true_eq_false, boolOf_u, gq_n, vPick_b, cond_true, dIf_b]
          first | exact no rfl | exact ⟨no rfl, by simp⟩
        | ok t next =>
          rw [hr] at no hyes
          simp only at no hyes
          obtain ⟨b1, hb1⟩ : ∃ b1, b1 = decide ((next : Int) = (s.size : Int)) := ⟨_, rfl⟩
          obtain ⟨b2, hb2⟩ : ∃ b2, b2 = decide ((256 : Int) < (t.size : Int)) := ⟨_, rfl⟩
          obtain ⟨b3, hb3⟩ : ∃ b3, b3 = decide (M.f i 0 < M.f i 1) := ⟨_, rfl⟩
          obtain ⟨b4, hb4⟩ : ∃ b4, b4 = decide (M.f i 10 = 0) := ⟨_, rfl⟩
          obtain ⟨b5, hb5⟩ : ∃ b5, b5 = decide (t = (⟨#[]⟩ : ByteArray)) := ⟨_, rfl⟩
          have n1 : ∀ {K : Value → Prop}, vBin Try.prog .neq 3 (.int .i64 (next : Int)) (.int .i64 (s.size : Int)) K ↔ K (.bool !b1) := fun {K} => by rw [hb1]; exact vBin_neq _ _ _ _
          have n2 : ∀ {K : Value → Prop}, vBin Try.prog .gtr 3 (.int .i64 (t.size : Int)) (.int .i64 256) K ↔ K (.bool b2) := fun {K} => by rw [hb2]; exact vBin_gtr _ _ _ _
          have n3 : ∀ {K : Value → Prop}, vBin Try.prog .gtr 3 (.int .i64 (M.f i 1)) (.int .i64 (M.f i 0)) K ↔ K (.bool b3) := fun {K} => by rw [hb3]; exact vBin_gtr _ _ _ _
          have n4 : ∀ {K : Value → Prop}, vBin Try.prog .eql 3 (.int .i64 (M.f i 10)) (.int .i64 0) K ↔ K (.bool b4) := fun {K} => by rw [hb4]; exact vBin_eql _ _ _ _
          have n5 : ∀ {K : Value → Prop}, vBin Try.prog .neq 9 (.string t) (.string ⟨#[]⟩) K ↔ K (.bool !b5) := fun {K} => by rw [hb5]; exact vBin_sneq _ _ _
          have ne : ∀ {K : Value → Prop}, vBin Try.prog .neq 29 (.int .i64 0) (.int .i64 0) K ↔ K (.bool false) := fun {K} => vBin_neq _ _ _ _
          have ls : ∀ {K : Value → Prop}, vLoad none (ptr ps) g' K ↔ K (.string s) := fun {K} => vLoad_1 rk.gs rfl
          have l1 : ∀ {K : Value → Prop}, vLoad none (.pointer (some ⟨b, i * 12 + 1, none⟩)) g' K ↔ K (.int .i64 (M.f i 1)) := fun {K} => rk.led.ld hiM (by omega)
          have l0 : ∀ {K : Value → Prop}, vLoad none (.pointer (some ⟨b, i * 12, none⟩)) g' K ↔ K (.int .i64 (M.f i 0)) := fun {K} => rk.led.ld0 hiM
          have l10 : ∀ {K : Value → Prop}, vLoad none (.pointer (some ⟨b, i * 12 + 10, none⟩)) g' K ↔ K (.int .i64 (M.f i 10)) := fun {K} => rk.led.ld hiM (by omega)
          have bad : (b1 && !b2 && !b3 && (!b4 || b5)) = false → ∃ g, Sub g g' ∧ R (.ret (.bool false)) g := fun hh => no (by
            rw [if_neg]
            rintro ⟨c1, c2, c3, c4, _⟩
            rw [hb1, hb2, hb3, hb4, hb5] at hh
            have d1 : decide ((next : Int) = (s.size : Int)) = true := by simp; omega
            have d2 : decide ((256 : Int) < (t.size : Int)) = false := by simp; omega
            have d3 : decide (M.f i 0 < M.f i 1) = false := by simp; omega
            rw [d1, d2, d3] at hh
            simp at hh
            exact hh.2 (c4 hh.1))
          have four : (b1 && !b2 && !b3 && (!b4 || b5)) = true → next = s.size ∧ t.size ≤ 256 ∧ M.f i 1 ≤ M.f i 0 ∧ (M.f i 10 = 0 → t = ⟨#[]⟩) := fun hh => by
            rw [hb1, hb2, hb3, hb4, hb5] at hh
            simp only [Bool.and_eq_true, Bool.or_eq_true, Bool.not_eq_true', decide_eq_true_eq, decide_eq_false_iff_not] at hh
            obtain ⟨⟨⟨c1, c2⟩, c3⟩, c4⟩ := hh
            exact ⟨by omega, by omega, by omega, fun hz => c4.resolve_left fun hn => hn hz⟩
          have good := fun (hh : (b1 && !b2 && !b3 && (!b4 || b5)) = true) => read_last (R := R) (t := t) rk hiM
            (fun hn => hno (by rw [hr]; simp only; rw [if_neg h1, if_neg (fun hc => hn hc.2.2.2.2)]))
            (fun hy => hyes t (by rw [if_pos ⟨(four hh).1, (four hh).2.1, (four hh).2.2.1, (four hh).2.2.2, hy⟩]))
          have lg := fun (K : Value → Prop) => rk.led.ldGoods (K := K) hiM
          clear hb1 hb2 hb3 hb4 hb5 no hno hyes four
          cases b1 <;> cases b2 <;> cases b3 <;> cases b4 <;> cases b5 <;>
            simp only [vExt_30, vExt_31, vExt_32, ne, boolOf_b, gq_b, Bool.false_eq_true, Bool.true_eq_false, Bool.not_false, Bool.not_true, forall_const, ne_eq, not_true_eq_false, not_false_eq_true, false_implies, and_true, true_and, ls, vLenStr_s, n1, n2, n3, n4, n5, vPick_b, cond_false, cond_true, boolOf_u, gq_n, vNil_p, vFA_p, Nat.add_zero, l0, l1, l10, dIf_b, lg] <;>
            first | exact bad rfl | exact good rfl
end
end Go.Pw
/- ledger.Of: the ledger of records. (Under way.) -/
set_option linter.unusedSimpArgs false
set_option linter.unusedVariables false
namespace Go.Pw
open Go Go.Proofs

/-- The slice of records l lies at v. -/
def RecsAt (h : PH) (v : Value) (l : List (ByteArray × ByteArray)) : Prop :=
  ∃ p cap, v = .slice p l.length cap ∧ l.length ≤ cap ∧ ∀ i a, l[i]? = some a → ∃ b off c e fr, p = some ⟨b, off, none⟩ ∧ h b = some (.cells c e fr) ∧ off + i * 2 + 2 ≤ c.size ∧ c.extract (off + i * 2) (off + i * 2 + 2) = #[.string a.1, .string a.2]

open Classical in
/-- The ledger behind k records, if they may be. -/
noncomputable def ofL (c g : Int) (l : List (ByteArray × ByteArray)) : Nat → Option Led
  | 0 => some (newLed c g)
  | k + 1 => match ofL c g l k, l[k]? with
    | some L, some a => if a.1 = keyB k then (match mayRead (ldK L k a.2 g.toNat g.toNat) k a.2 (atN a.2 (3 + g.toNat + g.toNat)) with
        | some t => some ((ldK L k a.2 g.toNat g.toNat).setR k t)
        | none => none) else none
    | _, _ => none
theorem ofL_gn {c g : Int} {l : List (ByteArray × ByteArray)} : ∀ (k : Nat) (L : Led), ofL c g l k = some L → L.n = c.toNat ∧ L.goods = g
  | 0, L, h => by cases h; exact ⟨rfl, rfl⟩
  | k + 1, L, h => by
    rw [ofL] at h
    split at h
    · rename_i M a hM ha
      obtain ⟨h1, h2⟩ := ofL_gn k M hM
      split at h
      · split at h
        · cases h
          obtain ⟨h3, h4⟩ := ldK_gn M k a.2 g.toNat g.toNat
          exact ⟨h3.trans h1, h4.trans h2⟩
        · cases h
      · cases h
    · cases h
theorem ofL_mono {c g : Int} {l : List (ByteArray × ByteArray)} {k : Nat} (h : ofL c g l k = none) : ∀ m, ofL c g l (k + m) = none
  | 0 => h
  | m + 1 => by
    show ofL c g l (k + m + 1) = none
    rw [ofL, ofL_mono h m]

section
variable {h : PH} {R : AEnd → PH → Prop}
theorem of_round {x b : Nat} {L : Led} {g' : PH} {c g : Int} {l : List (ByteArray × ByteArray)} {k : Nat} {p : Option Addr} {cap : Nat} (hL : LedAt g' x b L) (hc16 : c ≤ 16) (hg1 : 1 ≤ g) (hg4 : g ≤ 4)
    (hk : k < l.length) (hlc : (l.length : Int) = c) (hof : ofL c g l k = some L) (hsz : ∀ a ∈ l, a.2.size < 4611686018427387000)
    (hel : ∀ i a, l[i]? = some a → ∃ b off c e fr, p = some ⟨b, off, none⟩ ∧ g' b = some (.cells c e fr) ∧ off + i * 2 + 2 ≤ c.size ∧ c.extract (off + i * 2) (off + i * 2 + 2) = #[.string a.1, .string a.2])
    (kn : (Value × Value × Value) → (Value × Value × Value) → PH → Prop) (Kp : List PanicEntry → PH → Prop) (x0 xr : (Value × Value × Value) → PH → Prop)
    (hno : ofL c g l (k + 1) = none → ∀ g2 M, Sub (putLed g' b M) g2 → xr (.pointer none, .int .i64 92, ptr x) g2)
    (hyes : ∀ M, ofL c g l (k + 1) = some M → ∀ g2, Sub (putLed g' b M) g2 → LedAt g2 x b M → kn (ptr x, .slice p l.length cap, .int .i64 l.length) (.pointer none, .int .i64 0, .int .i64 ((k : Int) + 1)) g2) :
    b17_7 Kp x0 xr (ptr x, .slice p l.length cap, .int .i64 l.length) kn (.pointer none, .int .i64 0, .int .i64 k) g' := by
  obtain ⟨a, ha⟩ : ∃ a, l[k]? = some a := ⟨_, List.getElem?_eq_getElem hk⟩
  obtain ⟨q, off, cs, e, fr, rfl, hq, hqs, hqe⟩ := hel k a ha
  obtain ⟨hLn, hLg⟩ := ofL_gn k L hof
  have hsa := hsz a (List.mem_of_getElem? ha)
  unfold b17_7
  have hlt : (k : Int) < (l.length : Int) := by omega
  simp only [vBin_lss, hlt, decide_true, dIf_b]
  refine ⟨fun _ => ?_, fun e => absurd e (by simp)⟩
  simp only [vIxS_p]
  refine ⟨by omega, by omega, ?_⟩
  rw [show off + (k : Int).toNat * 2 = off + k * 2 by omega, vLoad_n hq hqs, hqe]
  refine vNew_i fun d hd => ?_
  refine vStore_to (ins_eq _ _ _) (by rfl) (by rfl) (by rfl) ?_
  rw [ins_ins]
  have hdd : ins g' d (.cells #[.string a.1, .string a.2] 32 (0, 0)) d = some (.cells #[.string a.1, .string a.2] 32 (0, 0)) := ins_eq _ _ _
  have hsd : Sub g' (ins g' d (.cells #[.string a.1, .string a.2] 32 (0, 0))) := sub_ins _ hd
  revert hdd hsd
  generalize ins g' d (.cells #[.string a.1, .string a.2] 32 (0, 0)) = G
  intro hdd hsd
  have hLG : LedAt G x b L := hL.sub hsd
  have hsub : ∀ M, Sub (putLed g' b M) (putLed G b M) := fun M => Sub.both hsd
  simp only [vFA_p, Nat.add_zero]
  rw [vLoad_1 hdd (v := .string a.1) rfl]
  refine key_ok (by omega) ?_
  simp only [AEnd.elim]
  refine ⟨by rw [vLoad_1 hdd (v := .string a.1) rfl], ?_⟩
  simp only [vBin_sneq]
  have hself : putLed G b L = G := putLed_self hLG
  by_cases hkey : a.1 = keyB k
  · simp only [hkey, decide_true, Bool.not_true, boolOf_b, gq_b, Bool.false_eq_true, forall_const, not_true_eq_false, false_implies, and_true, true_and, ne_eq, vNil_p, vFA_p, Nat.zero_add]
    rw [vLoad_1 hLG.hx (v := .slice (some ⟨b, 0, none⟩) L.n L.n) rfl]
    simp only [vIxS_p, Nat.zero_add]
    refine ⟨by omega, by omega, ?_⟩
    rw [show (k : Int).toNat * 12 = k * 12 by omega]
    rw [vLoad_1 hdd (v := .string a.2) rfl]
    have hst : ofL c g l (k + 1) = (match mayRead (ldK L k a.2 g.toNat g.toNat) k a.2 (atN a.2 (3 + g.toNat + g.toNat)) with
        | some t => some ((ldK L k a.2 g.toNat g.toNat).setR k t)
        | none => none) := by
      rw [ofL, hof, ha]
      simp only [if_pos hkey]
    refine read_ok (i := k) hLG (by omega) (by omega) (by omega) hsa (fun hh => ?_) (fun t hh => ?_)
    · rw [hLg] at hh ⊢
      rw [hh] at hst
      simp only [AEnd.elim, vUn_not, Bool.not_false, vPick_b, cond_false, dIf_b, true_implies, forall_const, Bool.true_eq_false, false_implies, and_true]
      exact hno hst _ _ (hsub _)
    · rw [hLg] at hh ⊢
      rw [hh] at hst
      simp only [AEnd.elim, vUn_not, Bool.not_true, vPick_b, cond_false, dIf_b, Bool.false_eq_true, false_implies, true_and, forall_const, vBin_add]
      rw [w64 (by omega) (by omega)]
      obtain ⟨h3, h4⟩ := ldK_gn L k a.2 g.toNat g.toNat
      exact hyes _ hst _ (hsub _) (hLG.put h4 h3)
  · have hst : ofL c g l (k + 1) = none := by
      rw [ofL, hof, ha]
      simp only [if_neg hkey]
    have := hno hst G L (by rw [show putLed g' b L = g' from putLed_self hL]; exact hsd)
    simp only [hkey, decide_false, Bool.not_false, boolOf_b, gq_b, Bool.true_eq_false, false_implies, ne_eq, not_false_eq_true, forall_const, true_and, and_true, boolOf_u, gq_n, vPick_b, cond_true, dIf_b]
    exact this

theorem small_set {L : Led} (hs : L.small) {i j : Nat} {v : Int} (h0 : 0 ≤ v) (h1 : v ≤ 1099511627776) : (L.set i j v).small where
  num a c ha hc := by simp only [Led.set]; split <;> first | exact ⟨h0, h1⟩ | exact hs.num a c ha hc
  cl := hs.cl
  gd := hs.gd
  rep := hs.rep
theorem vN_bd (s : ByteArray) (k : Nat) : 0 ≤ ((vN s k : Nat) : Int) ∧ ((vN s k : Nat) : Int) ≤ 1099511627776 := by
  have := (numAt_le s (atN s k)).1
  unfold vN
  omega
theorem small_ldG {L : Led} (hs : L.small) (i : Nat) (s : ByteArray) : ∀ k, (ldG L i s k).small
  | 0 => small_set (small_set (small_set hs (vN_bd s 0).1 (vN_bd s 0).2) (vN_bd s 1).1 (vN_bd s 1).2) (vN_bd s 2).1 (vN_bd s 2).2
  | k + 1 => small_set (small_ldG hs i s k) (vN_bd s _).1 (vN_bd s _).2
theorem small_ldK {L : Led} (hs : L.small) (i : Nat) (s : ByteArray) (g : Nat) : ∀ k, (ldK L i s g k).small
  | 0 => small_ldG hs i s g
  | k + 1 => small_set (small_ldK hs i s g k) (vN_bd s _).1 (vN_bd s _).2
theorem mayRead_size {M : Led} {i : Nat} {s : ByteArray} {at_ : Nat} {t : ByteArray} (h : mayRead M i s at_ = some t) : t.size ≤ 256 := by
  unfold mayRead at h
  split at h
  · cases h
  · split at h
    · cases h
    · split at h
      · rename_i hc
        cases h
        exact hc.2.1
      · cases h
theorem ofL_small {c g : Int} {l : List (ByteArray × ByteArray)} (hc : c ≤ 16) (hg1 : 1 ≤ g) (hg : g ≤ 4) : ∀ (k : Nat) (L : Led), ofL c g l k = some L → L.small
  | 0, L, h => by cases h; exact (inv_new hc hg hg1).small
  | k + 1, L, h => by
    rw [ofL] at h
    split at h
    · rename_i M a hM ha
      have hs := ofL_small hc hg1 hg k M hM
      split at h
      · split at h
        · rename_i t ht
          cases h
          have := small_ldK hs k a.2 g.toNat g.toNat
          exact ⟨this.num, this.cl, this.gd, fun j hj => by
            simp only [Led.setR]
            split
            · exact mayRead_size ht
            · exact this.rep j hj⟩
        · cases h
      · cases h
    · cases h

def totOK (L : Led) : Prop := cashOf L ≤ 1099511627776 ∧ ∀ j, j < 4 → goodOf L j ≤ 1099511627776
open Classical in
/-- The ledger of records, if there is one. -/
noncomputable def ofR (c g : Int) (l : List (ByteArray × ByteArray)) : Option Led := if (l.length : Int) = c then (match ofL c g l c.toNat with
  | some L => if totOK L then some L else none
  | none => none) else none

def sums (L : Led) : List Int := [cashOf L, goodOf L 0, goodOf L 1, goodOf L 2, goodOf L 3]
theorem sums_tot (L : Led) : (∀ v ∈ sums L, v ≤ 1099511627776) ↔ totOK L := by
  unfold sums totOK
  simp only [List.mem_cons, List.not_mem_nil, or_false, forall_eq_or_imp, forall_eq]
  constructor
  · rintro ⟨h, h0, h1, h2, h3⟩
    refine ⟨h, fun j hj => ?_⟩
    match j, hj with
    | 0, _ => exact h0
    | 1, _ => exact h1
    | 2, _ => exact h2
    | 3, _ => exact h3
  · rintro ⟨h, h0⟩
    exact ⟨h, h0 0 (by omega), h0 1 (by omega), h0 2 (by omega), h0 3 (by omega)⟩

theorem of_sums {g' : PH} {L : Led} {p : Value} {h0 : PH} {sv : Value} (ob : OB 3 1 h0 5 ((sums L).map iv) g' sv) (hs : L.small) {Kp : List PanicEntry → PH → Prop} {x2 xr : (Value × Value × Value) → PH → Prop}
    (hno : ¬ totOK L → xr (.pointer none, .int .i64 92, p) g') (hyes : totOK L → x2 (.pointer none, .int .i64 0, p) g') :
    lf (b17_14 Kp x2 xr) (p, sv, .int .i64 5) (.pointer none, .int .i64 0, .int .i64 0) g' := by
  obtain ⟨q, c, cap, rfl, hq, hsz, hget⟩ := ob_get ob (by omega)
  refine lf_intro (fun m s' g2 => ∃ j : Nat, s' = (.pointer none, .int .i64 0, .int .i64 j) ∧ m = 5 - j ∧ j ≤ 5 ∧ g2 = g' ∧ ∀ k v, k < j → (sums L)[k]? = some v → v ≤ 1099511627776) 5 ⟨0, rfl, rfl, by omega, rfl, fun k v hk => absurd hk (by omega)⟩ ?_
  rintro m s' g2 ⟨j, rfl, rfl, hj, rfl, hall⟩
  by_cases h5 : j < 5
  · obtain ⟨v, hv⟩ : ∃ v, (sums L)[j]? = some v := ⟨_, List.getElem?_eq_getElem (by simpa [sums] using h5)⟩
    have hcj : c[j]? = some (.int .i64 v) := by rw [hget j (by omega), List.getElem?_map, hv]; rfl
    have key : ∀ (kn : (Value × Value × Value) → (Value × Value × Value) → PH → Prop), (v ≤ 1099511627776 → kn (p, .slice (some ⟨q, 0, none⟩) 5 cap, .int .i64 5) (.pointer none, .int .i64 0, .int .i64 ((j : Int) + 1)) g2) → (¬ v ≤ 1099511627776 → xr (.pointer none, .int .i64 92, p) g2) →
        b17_14 Kp x2 xr (p, .slice (some ⟨q, 0, none⟩) 5 cap, .int .i64 5) kn (.pointer none, .int .i64 0, .int .i64 j) g2 := by
      intro kn h1 h2
      unfold b17_14
      have hlt : (j : Int) < 5 := by omega
      simp only [vBin_lss, hlt, decide_true, dIf_b]
      refine ⟨fun _ => ?_, fun e => absurd e (by simp)⟩
      simp only [vIxS_p]
      refine ⟨by omega, by omega, ?_⟩
      rw [vLoad_1 hq (v := .int .i64 v) (by simpa using hcj)]
      simp only [vBin_gtr, dIf_b, decide_eq_true_eq, decide_eq_false_iff_not, vBin_add]
      rw [w64 (by omega) (by omega)]
      exact ⟨fun hh => h2 (by omega), fun hh => h1 (by omega)⟩
    refine key _ (fun hle => ⟨rfl, 5 - (j + 1), by omega, j + 1, rfl, rfl, by omega, rfl, fun k u hk hu => ?_⟩) (fun hgt => hno fun ht => hgt ((sums_tot L).2 ht v (List.mem_of_getElem? hv)))
    by_cases e : k = j
    · subst e; rw [hv] at hu; cases hu; exact hle
    · exact hall k u (by omega) hu
  · have e5 : j = 5 := by omega
    subst e5
    unfold b17_14
    simp only [vBin_lss, dIf_b]
    refine ⟨fun e => absurd e (by decide), fun _ => hyes ((sums_tot L).1 fun v hv => ?_)⟩
    obtain ⟨k, hk⟩ := List.getElem?_of_mem hv
    have hlen : (sums L).length = 5 := rfl
    have := (List.getElem?_eq_some_iff.1 hk).1
    exact hall k v (by omega) hk
end
end Go.Pw
/- ledger.Of: the whole. -/
set_option linter.unusedSimpArgs false
set_option linter.unusedVariables false
namespace Go.Pw
open Go Go.Proofs

section
variable {h : PH} {R : AEnd → PH → Prop}
theorem vSlA_all {K : Value → Prop} {n esz b o : Nat} (hn : n ≠ 0) : vSlA n esz none none (.pointer (some ⟨b, o, none⟩)) K ↔ K (.slice (some ⟨b, o, none⟩) n n) := by
  constructor
  · rintro ⟨b', o', e, hk⟩
    cases e
    simp only [intBetween, if_neg hn, Nat.zero_mul, Nat.add_zero, Nat.sub_zero] at hk
    exact hk
  · intro hk
    refine ⟨b, o, rfl, ?_⟩
    simp only [intBetween, if_neg hn, Nat.zero_mul, Nat.add_zero, Nat.sub_zero]
    exact hk
theorem fill_i1 (a : Int) : Instr.fill (fun i => some (i * 1, 1)) (rep #[Value.int .i64 0] (1 * 1)) [(0, .int .i64 a)] = some #[.int .i64 a] := by
  have e : Array.range 1 = #[0] := by decide
  simp [Instr.fill, rep, Value.cells, e]

theorem of_ok {v : Value} {l : List (ByteArray × ByteArray)} {c g : Int} (hv : RecsAt h v l) (hsz : ∀ a ∈ l, a.2.size < 4611686018427387000)
    (harg : ¬ (1 ≤ c ∧ c ≤ 16 ∧ 1 ≤ g ∧ g ≤ 4) → R (.ret (.tuple #[.pointer none, .int .i64 1])) h)
    (hno : (1 ≤ c ∧ c ≤ 16 ∧ 1 ≤ g ∧ g ≤ 4) → ofR c g l = none → R (.ret (.tuple #[.pointer none, .int .i64 92])) h)
    (hyes : (1 ≤ c ∧ c ≤ 16 ∧ 1 ≤ g ∧ g ≤ 4) → ∀ L, ofR c g l = some L → ∀ x b g', Sub h g' → LedAt g' x b L → h x = none → h b = none → R (.ret (.tuple #[ptr x, .int .i64 0])) g') :
    ACalls Try.prog 17 #[.int .i64 c, .int .i64 g, v] h R := by
  refine ACalls.drop (call17 ?_)
  unfold sh17
  by_cases hcg : 1 ≤ c ∧ c ≤ 16 ∧ 1 ≤ g ∧ g ≤ 4
  · obtain ⟨hc1, hc2, hg1, hg2⟩ := hcg
    have hno := hno ⟨hc1, hc2, hg1, hg2⟩
    have hyes := hyes ⟨hc1, hc2, hg1, hg2⟩
    clear harg
    refine new_ok hc1 hc2 hg1 hg2 fun x b hb hx hne => ?_
    have hL0 : LedAt (ins (ins h b (.cells (ledCells (newLed c g)) 66 (0, 0))) x (.cells #[.int .i64 g, .slice (some ⟨b, 0, none⟩) c.toNat c.toNat] 64 (0, 0))) x b (newLed c g) :=
      ⟨ins_eq _ _ _, by rw [ins_ne _ _ (fun e => hne e.symm)]; exact ins_eq _ _ _, hne⟩
    have hs0 : Sub h (ins (ins h b (.cells (ledCells (newLed c g)) 66 (0, 0))) x (.cells #[.int .i64 g, .slice (some ⟨b, 0, none⟩) c.toNat c.toNat] 64 (0, 0))) := Sub.put (Sub.put (Sub.refl h) hb) hx
    revert hL0 hs0
    generalize (ins (ins h b (.cells (ledCells (newLed c g)) 66 (0, 0))) x (.cells #[.int .i64 g, .slice (some ⟨b, 0, none⟩) c.toNat c.toNat] 64 (0, 0))) = g0
    intro hL0 hs0
    obtain ⟨p, cap, rfl, hcap, hel⟩ := hv
    simp only [AEnd.elim, vExt_20, vExt_21, vBin_neq, decide_true, Bool.not_true, dIf_b, vLenS_s]
    refine ⟨fun e => absurd e (by simp), fun _ => ?_⟩
    by_cases hlc : (l.length : Int) = c
    · simp only [hlc, decide_true, Bool.not_true]
      refine ⟨fun e => absurd e (by simp), fun _ => ?_⟩
      rw [← hlc]
      refine lf_intro (fun m s' g' => ∃ (k : Nat) (L : Led), s' = (.pointer none, .int .i64 0, .int .i64 k) ∧ m = l.length - k ∧ k ≤ l.length ∧ ofL c g l k = some L ∧ Sub h g' ∧ LedAt g' x b L) l.length ⟨0, newLed c g, rfl, rfl, by omega, rfl, hs0, hL0⟩ ?_
      rintro m s' g' ⟨k, L, rfl, rfl, hk, hof, hsub, hL⟩
      have hnoR : ∀ k', ofL c g l k' = none → k' ≤ l.length → R (.ret (.tuple #[.pointer none, .int .i64 92])) h := fun k' hn hk' => hno (by
        unfold ofR
        rw [if_pos hlc]
        have : ofL c g l c.toNat = none := by
          have := ofL_mono hn (l.length - k')
          rw [show k' + (l.length - k') = c.toNat by omega] at this
          exact this
        rw [this])
      by_cases hkl : k < l.length
      · refine of_round (c := c) (g := g) hL hc2 hg1 hg2 hkl hlc hof hsz (fun i a hi => ?_) _ _ _ _ (fun hn g2 M hs2 => ?_) (fun M hM g2 hs2 hL2 => ?_)
        · obtain ⟨b', off, cs, e, fr, q1, q2, q3⟩ := hel i a hi
          exact ⟨b', off, cs, e, fr, q1, hsub _ _ q2, q3⟩
        · intro r hr
          simp only [Prod.mk.injEq] at hr
          rw [hr.1, hr.2.1]
          exact ⟨h, (Sub.put hsub hb).trans hs2, hnoR (k + 1) hn (by omega)⟩
        · exact ⟨rfl, l.length - (k + 1), by omega, k + 1, M, rfl, rfl, by omega, hM, (Sub.put hsub hb).trans hs2, hL2⟩
      · have hke : k = l.length := by omega
        subst hke
        unfold b17_7
        have hnl : ¬ ((l.length : Int) < (l.length : Int)) := by omega
        simp only [vBin_lss, hnl, decide_false, dIf_b]
        refine ⟨fun e => absurd e (by simp), fun _ => ?_⟩
        intro r hr
        simp only [Prod.mk.injEq] at hr
        obtain ⟨r6, r7, r8⟩ := hr
        rw [r6, r7, r8]
        have hsm := ofL_small hc2 hg1 hg2 _ L hof
        have hof' : ofL c g l c.toNat = some L := by rw [show c.toNat = l.length by omega]; exact hof
        refine totals_ok hL hsm ?_
        simp only [AEnd.elim, vExt_20, vExt_21]
        refine vNew_i fun d hd => ?_
        refine vStore_to (cs := cells4 (goodOf L)) (ins_eq _ _ _) (by rfl) (by rfl) (by rfl) ?_
        rw [ins_ins]
        have hdd : ins g' d (.cells (cells4 (goodOf L)) 37 (0, 0)) d = some (.cells (cells4 (goodOf L)) 37 (0, 0)) := ins_eq _ _ _
        have hsd : Sub g' (ins g' d (.cells (cells4 (goodOf L)) 37 (0, 0))) := sub_ins _ hd
        revert hdd hsd
        generalize ins g' d (.cells (cells4 (goodOf L)) 37 (0, 0)) = G
        intro hdd hsd
        refine ⟨by omega, _, fill_i1 _, fun q hq => ?_⟩
        refine (vSlA_all (by decide)).2 ?_
        refine ⟨by omega, by omega, rfl, ?_⟩
        have hdq : d ≠ q := fun e => by rw [← e, hdd] at hq; cases hq
        have ob0 : OB 3 1 G 1 ([cashOf L].map iv) (ins G q (.cells #[.int .i64 (cashOf L)] 3)) (.slice (some ⟨q, 0, none⟩) 1 1) :=
          ⟨sub_ins _ hq, rfl, .inr ⟨q, _, 1, rfl, ins_eq _ _ _, hq, rfl, by omega, rfl⟩⟩
        refine ob_app (m := 4) (news := [goodOf L 0, goodOf L 1, goodOf L 2, goodOf L 3].map iv) ob0 (by simp only [roomBytes]; omega) (by omega) rfl
          (fun K' hk' => .inr (.inr ⟨rfl, d, 0, 4, 4, _, _, _, rfl, ob0.sub _ _ hdd, by show 0 + 4 * 1 ≤ 4; omega, iv_one (l := [goodOf L 0, goodOf L 1, goodOf L 2, goodOf L 3]), hk'⟩)) (fun b' off l' cc hx' gg cap' hs' => by cases hx'; cases hs'; exact hdq) fun h4 s4 ob1 => ?_
        obtain ⟨pp, cc, hs4⟩ := ob_len ob1
        rw [hs4]
        simp only [vLenS_s]
        rw [← hs4]
        have hsub4 : Sub h h4 := (hsub.trans hsd).trans ob1.sub
        refine of_sums (L := L) ob1 hsm (fun hn => ?_) (fun hy => ?_)
        · intro r2 hr2
          simp only [Prod.mk.injEq] at hr2
          rw [hr2.1, hr2.2.1]
          exact ⟨h, hsub4, hno (by unfold ofR; rw [if_pos hlc, hof']; simp only; rw [if_neg hn])⟩
        · intro r2 hr2
          simp only [Prod.mk.injEq] at hr2
          rw [hr2.2.2]
          exact ⟨h4, Sub.refl _, hyes L (by unfold ofR; rw [if_pos hlc, hof']; simp only; rw [if_pos hy]) x b h4 hsub4 ((hL.sub hsd).sub ob1.sub) hx hb⟩
    · simp only [hlc, decide_false, Bool.not_false]
      exact ⟨fun _ => ⟨h, hs0, hno (by unfold ofR; rw [if_neg hlc])⟩, fun e => absurd e (by simp)⟩
  · refine new_bad hcg ?_
    simp only [AEnd.elim, vExt_20, vExt_21, vBin_neq, Int.reduceEq, decide_false, Bool.not_false, dIf_b]
    exact ⟨fun _ => ⟨h, Sub.refl h, harg hcg⟩, fun e => absurd e (by simp)⟩
end
end Go.Pw
/- The reference's reader of numbers and texts. -/
set_option linter.unusedSimpArgs false
set_option linter.unusedVariables false
namespace Go.Pw
open Go Go.Proofs

section
variable {h : PH} {R : AEnd → PH → Prop} {s : ByteArray}
theorem rInt_ok {at_ : Nat} (hz : s.size < 4611686018427387000) (ha : at_ < 4611686018427387904)
    (hR : R (.ret (match rdNum s.data.toList at_ with
      | .ok n next => .tuple #[.int .i64 n, .int .i64 next, .int .i64 0]
      | .bad e => .tuple #[.int .i64 0, .int .i64 0, .int .i64 e])) h) : ACalls Try.prog 60 #[.string s, .int .i64 at_] h R := by
  refine call60 ?_
  unfold sh60
  refine lf_intro (fun m s' g => ∃ (i n : Nat), s' = (.int .i64 0, .int .i64 0, .int .i64 0, .int .i64 n, .int .i64 (128 ^ i : Nat), .int .i64 i) ∧ m = 8 - i ∧ i ≤ 8 ∧ n < 128 ^ i ∧ g = h ∧ rdN s.data.toList (8 - i) i n (at_ + i) = rdNum s.data.toList at_) 8 ⟨0, 0, rfl, rfl, by omega, by omega, rfl, rfl⟩ ?_
  rintro m s' g ⟨i, n, rfl, rfl, hi, hn, rfl, hrd⟩
  by_cases h8 : i < 8
  · obtain ⟨fu, hfu⟩ : ∃ fu, 8 - i = fu + 1 := ⟨7 - i, by omega⟩
    rw [hfu, rdN] at hrd
    have hp : 128 ^ i ≤ 128 ^ 7 := Nat.pow_le_pow_right (by omega) (by omega)
    have hi8 : (i : Int) < 8 := by omega
    unfold b60_3
    simp only [vBin_lss, hi8, decide_true, dIf_b]
    refine ⟨fun _ => ?_, fun e => absurd e (by simp)⟩
    simp only [vBin_add]
    rw [w64 (by omega) (by omega)]
    simp only [vLenStr_s, vBin_geq, dIf_b, decide_eq_true_eq, decide_eq_false_iff_not]
    cases hc : s.data.toList[at_ + i]? with
    | none =>
      rw [hc] at hrd
      have hjs : s.size ≤ at_ + i := by
        have := List.getElem?_eq_none_iff.1 hc
        rw [Array.length_toList] at this
        exact this
      refine ⟨fun _ => ?_, fun hlt => absurd (by omega) hlt⟩
      intro r hr
      simp only [Prod.mk.injEq] at hr
      rw [hr.1, hr.2.1, hr.2.2]
      rw [← hrd] at hR
      exact hR
    | some c =>
      rw [hc] at hrd
      simp only at hrd
      have hjs : at_ + i < s.size := by
        have := (List.getElem?_eq_some_iff.1 hc).1
        rw [Array.length_toList] at this
        exact this
      have hcd : s.data[at_ + i]? = some c := by rw [← Array.getElem?_toList]; exact hc
      have hc8 : c.toNat < 256 := c.toNat_lt
      refine ⟨fun hge => absurd hge (by omega), fun _ => ?_⟩
      refine ⟨s, .i64, _, c, rfl, rfl, by omega, by rw [show ((at_ : Int) + (i : Int)).toNat = at_ + i by omega]; exact hcd, ?_⟩
      simp only [vConvI_i]
      rw [w64 (by omega) (by omega), vBin_rem _ _ _ _ (by omega)]
      have e1 : ((c.toNat : Int).tmod 128) = ((c.toNat % 128 : Nat) : Int) := by rw [Int.tmod_eq_emod_of_nonneg (by omega)]; omega
      have hb : (c.toNat % 128) * 128 ^ i ≤ 127 * 128 ^ 7 := Nat.mul_le_mul (by omega) hp
      have e2 : ((c.toNat % 128 : Nat) : Int) * ((128 ^ i : Nat) : Int) = ((c.toNat % 128 * 128 ^ i : Nat) : Int) := by rw [Int.natCast_mul]
      rw [e1]
      simp only [vBin_mul]
      rw [e2, w64 (by omega) (by omega)]
      simp only [vBin_add]
      have e3 : (n : Int) + ((c.toNat % 128 * 128 ^ i : Nat) : Int) = ((n + c.toNat % 128 * 128 ^ i : Nat) : Int) := by omega
      rw [e3, w64 (by omega) (by omega)]
      have e5 : 128 ^ (i + 1) = 128 * 128 ^ i := by rw [Nat.pow_succ, Nat.mul_comm]
      have e6 : c.toNat % 128 * 128 ^ i ≤ 127 * 128 ^ i := Nat.mul_le_mul_right _ (by omega)
      have e7 : ((128 ^ i : Nat) : Int) * 128 = ((128 ^ (i + 1) : Nat) : Int) := by rw [e5]; omega
      rw [e7, w64 (by omega) (by omega)]
      generalize hN : n + c.toNat % 128 * 128 ^ i = N at hrd ⊢
      simp only [vBin_geq, dIf_b, decide_eq_true_eq, decide_eq_false_iff_not]
      refine ⟨fun hge => ?_, fun hlt => ?_⟩
      · rw [if_pos (by omega)] at hrd
        rw [w64 (by omega) (by omega)]
        refine ⟨by trivial, 8 - (i + 1), by omega, i + 1, N, rfl, rfl, by omega, by omega, by trivial, ?_⟩
        by_cases h7 : i = 7
        · rw [if_pos h7] at hrd
          subst h7
          rw [← hrd]
          rfl
        · rw [if_neg h7] at hrd
          rw [show 8 - (i + 1) = fu by omega, show at_ + (i + 1) = at_ + i + 1 by omega]
          exact hrd
      · rw [if_neg (by omega)] at hrd
        obtain ⟨b0, hb0⟩ : ∃ b0, b0 = decide ((c.toNat : Int) = 0) := ⟨_, rfl⟩
        obtain ⟨b1, hb1⟩ : ∃ b1, b1 = decide (0 < (i : Int)) := ⟨_, rfl⟩
        obtain ⟨b2, hb2⟩ : ∃ b2, b2 = decide (9007199254740992 < (N : Int)) := ⟨_, rfl⟩
        have n0 : ∀ {K : Value → Prop}, vBin Try.prog .eql 3 (.int .i64 (c.toNat : Int)) (.int .i64 0) K ↔ K (.bool b0) := fun {K} => by rw [hb0]; exact vBin_eql _ _ _ _
        have n1 : ∀ {K : Value → Prop}, vBin Try.prog .gtr 3 (.int .i64 (i : Int)) (.int .i64 0) K ↔ K (.bool b1) := fun {K} => by rw [hb1]; exact vBin_gtr _ _ _ _
        have n2 : ∀ {K : Value → Prop}, vBin Try.prog .gtr 3 (.int .i64 (N : Int)) (.int .i64 9007199254740992) K ↔ K (.bool b2) := fun {K} => by rw [hb2]; exact vBin_gtr _ _ _ _
        have hT : (b0 && b1 || b2) = true → rdNum s.data.toList at_ = .bad 11 := fun hh => by
          rw [hb0, hb1, hb2] at hh
          simp only [Bool.or_eq_true, Bool.and_eq_true, decide_eq_true_eq] at hh
          rw [if_pos (by omega)] at hrd
          exact hrd.symm
        have hF : (b0 && b1 || b2) = false → rdNum s.data.toList at_ = .ok N (at_ + i + 1) := fun hh => by
          rw [hb0, hb1, hb2] at hh
          simp only [Bool.or_eq_false_iff, Bool.and_eq_false_iff, decide_eq_false_iff_not] at hh
          rw [if_neg (by omega)] at hrd
          exact hrd.symm
        clear hb0 hb1 hb2 hrd
        have bad : rdNum s.data.toList at_ = .bad 11 → exq (fun ρ => (ρ 4, ρ 5, ρ 6)) (Value.int .i64 0, Value.int .i64 0, Value.int .i64 11) (fun r h_2 => R (.ret (.tuple #[(r 4), (r 5), (r 6)])) h_2) g := fun hh => by
          intro r hr
          simp only [Prod.mk.injEq] at hr
          rw [hr.1, hr.2.1, hr.2.2]
          rw [hh] at hR
          exact hR
        have good : rdNum s.data.toList at_ = .ok N (at_ + i + 1) → exq (fun ρ => (ρ 4, ρ 5, ρ 6)) (Value.int .i64 (N : Int), Value.int .i64 (IntKind.i64.wrap (((at_ : Int) + (i : Int)) + 1)), Value.int .i64 0) (fun r h_2 => R (.ret (.tuple #[(r 4), (r 5), (r 6)])) h_2) g := fun hh => by
          intro r hr
          simp only [Prod.mk.injEq] at hr
          rw [hr.1, hr.2.1, hr.2.2, w64 (by omega) (by omega)]
          rw [hh] at hR
          exact hR
        have hw : IntKind.i64.wrap ((at_ : Int) + (i : Int)) = (at_ : Int) + (i : Int) := w64 (by omega) (by omega)
        cases b0 <;> cases b1 <;> cases b2 <;> simp only [n0, n1, n2, boolOf_b, gq_b, vPick_b, cond_true, cond_false, dIf_b, Bool.false_eq_true, Bool.true_eq_false, ne_eq, not_true_eq_false, not_false_eq_true, false_implies, forall_const, true_and, and_true, gq_n, boolOf_u, vBin_add, hw] <;>
          first | exact good (hF rfl) | exact bad (hT rfl)
  · have e8 : i = 8 := by omega
    subst e8
    unfold b60_3
    simp only [vBin_lss, dIf_b]
    refine ⟨fun e => absurd e (by decide), fun _ => ?_⟩
    intro r hr
    rw [← hrd] at hR
    exact hR

theorem rText_ok {at_ : Nat} (hz : s.size < 4611686018427387000) (ha : at_ < 4611686018427387904)
    (hR : R (.ret (match rdTxt s at_ with
      | .ok t next => .tuple #[.string t, .int .i64 next, .int .i64 0]
      | .bad e => .tuple #[.string ⟨#[]⟩, .int .i64 0, .int .i64 e])) h) : ACalls Try.prog 61 #[.string s, .int .i64 at_] h R := by
  refine call61 ?_
  unfold sh61
  refine rInt_ok hz ha ?_
  unfold rdTxt at hR
  cases hr : rdNum s.data.toList at_ with
  | bad e =>
    rw [hr] at hR
    have he : ¬ e = 0 := by rcases rdN_bad _ _ _ _ _ hr with h | h <;> omega
    simp only [AEnd.elim, vExt_30, vExt_31, vExt_32, vBin_neq, he, decide_false, Bool.not_false, dIf_b]
    exact ⟨fun _ => hR, fun e => absurd e (by simp)⟩
  | ok n next =>
    rw [hr] at hR
    have hnx : next ≤ s.size := by
      have := rdN_le _ _ _ _ _ _ hr
      rw [Array.length_toList] at this
      exact this
    simp only at hR
    simp only [AEnd.elim, vExt_30, vExt_31, vExt_32, vBin_neq, decide_true, Bool.not_true, dIf_b, vBin_gtr, decide_eq_true_eq, decide_eq_false_iff_not, vLenStr_s, vBin_sub]
    refine ⟨fun e => absurd e (by simp), fun _ => ?_⟩
    refine ⟨fun hgt => ?_, fun hle => ?_⟩
    · rw [if_pos (by omega)] at hR
      exact hR
    · rw [if_neg (by omega)] at hR
      rw [w64 (by omega) (by omega)]
      refine ⟨fun hgt => ?_, fun hle2 => ?_⟩
      · rw [if_pos (by omega)] at hR
        exact hR
      · rw [if_neg (by omega)] at hR
        simp only [vBin_add]
        rw [w64 (by omega) (by omega)]
        refine ⟨s, rfl, .i64, _, rfl, by omega, by omega, .i64, _, rfl, by omega, by omega, ?_⟩
        rw [show (((next : Int) + (n : Int))).toNat = next + n by omega, Int.toNat_natCast, show ((next : Int) + (n : Int)) = ((next + n : Nat) : Int) by omega]
        exact hR
end
end Go.Pw
/- The program reads on behind a number that may not be, the reference stops: in the end they say alike. (Plain; no program in sight.) -/
set_option linter.unusedSimpArgs false
set_option linter.unusedVariables false
namespace Go.Pw

/-- k numbers from a place on, and the place behind them; none, if one may not be. -/
def rNums (s : ByteArray) : Nat → Nat → Option (List Nat × Nat)
  | 0, a => some ([], a)
  | k + 1, a => match rdNum s.data.toList a with
    | .ok n next => if 1099511627776 < n then none else match rNums s k next with
      | some (l, e) => some (n :: l, e)
      | none => none
    | .bad _ => none
def itN (s : ByteArray) : Nat → Nat → Nat
  | 0, a => a
  | k + 1, a => itN s k (numAt s a).2
theorem itN_succ (s : ByteArray) : ∀ (k a : Nat), itN s (k + 1) a = (numAt s (itN s k a)).2
  | 0, a => rfl
  | k + 1, a => itN_succ s k (numAt s a).2
theorem itN_atN (s : ByteArray) : ∀ k, itN s k 0 = atN s k
  | 0 => rfl
  | k + 1 => by rw [itN_succ, itN_atN s k]; rfl
theorem numAt_end (s : ByteArray) : numAt s (s.size + 1) = (0, s.size + 1) := by
  unfold numAt; rw [if_pos (by omega)]
theorem itN_end (s : ByteArray) : ∀ k, itN s k (s.size + 1) = s.size + 1
  | 0 => rfl
  | k + 1 => by
    show itN s k (numAt s (s.size + 1)).2 = _
    rw [numAt_end]
    exact itN_end s k
theorem rNums_spec (s : ByteArray) : ∀ (k a : Nat), a ≤ s.size →
    (rNums s k a = none → itN s k a = s.size + 1) ∧ ∀ l e, rNums s k a = some (l, e) → l.length = k ∧ e ≤ s.size ∧ itN s k a = e ∧ ∀ j, j < k → l[j]? = some (numAt s (itN s j a)).1
  | 0, a, ha => by
    refine ⟨fun h => (by cases h), fun l e h => ?_⟩
    cases h
    exact ⟨rfl, ha, rfl, fun j hj => absurd hj (by omega)⟩
  | k + 1, a, ha => by
    have hu : numAt s a = (match rdNum s.data.toList a with
        | .ok n next => if 1099511627776 < n then (0, s.size + 1) else (n, next)
        | .bad _ => (0, s.size + 1)) := by
      unfold numAt
      rw [if_neg (by omega)] <;> (cases rdNum s.data.toList a <;> rfl)
    show (rNums s (k + 1) a = none → itN s k (numAt s a).2 = s.size + 1) ∧ ∀ l e, rNums s (k + 1) a = some (l, e) → l.length = k + 1 ∧ e ≤ s.size ∧ itN s k (numAt s a).2 = e ∧ ∀ j, j < k + 1 → l[j]? = some (numAt s (itN s j a)).1
    rw [rNums]
    cases hr : rdNum s.data.toList a with
    | bad e =>
      rw [hr] at hu
      simp only at hu ⊢
      refine ⟨fun _ => ?_, fun l e h => (by cases h)⟩
      rw [hu]
      exact itN_end s k
    | ok n next =>
      rw [hr] at hu
      have hnx : next ≤ s.size := by
        have := rdN_le _ _ _ _ _ _ hr
        rw [Array.length_toList] at this
        exact this
      simp only at hu ⊢
      by_cases hb : 1099511627776 < n
      · rw [if_pos hb] at hu ⊢
        refine ⟨fun _ => ?_, fun l e h => (by cases h)⟩
        rw [hu]
        exact itN_end s k
      · rw [if_neg hb] at hu ⊢
        obtain ⟨i1, i2⟩ := rNums_spec s k next hnx
        cases hk : rNums s k next with
        | none =>
          rw [hu]
          exact ⟨fun _ => i1 hk, fun l e h => (by cases h)⟩
        | some p =>
          obtain ⟨l', e'⟩ := p
          obtain ⟨j1, j2, j3, j4⟩ := i2 l' e' hk
          refine ⟨fun h => (by cases h), fun l e h => ?_⟩
          cases h
          rw [hu]
          refine ⟨by simp [j1], j2, j3, fun j hj => ?_⟩
          cases j with
          | zero => simp [itN, hu]
          | succ j =>
            show l'[j]? = some (numAt s (itN s j (numAt s a).2)).1
            rw [hu]
            exact j4 j (by omega)
/-- All k numbers may be: they are vN; else the place is none. -/
theorem rNums_vN (s : ByteArray) (k : Nat) : (rNums s k 0 = none → atN s k = s.size + 1) ∧ ∀ l e, rNums s k 0 = some (l, e) → l.length = k ∧ e ≤ s.size ∧ atN s k = e ∧ ∀ j, j < k → l[j]? = some (vN s j) := by
  obtain ⟨h1, h2⟩ := rNums_spec s k 0 (by omega)
  rw [itN_atN] at h1
  refine ⟨h1, fun l e h => ?_⟩
  obtain ⟨a, b, c, d⟩ := h2 l e h
  rw [itN_atN] at c
  refine ⟨a, b, c, fun j hj => ?_⟩
  rw [d j hj, itN_atN]
  rfl

/-- One number more. -/
def rOne (s : ByteArray) (a : Nat) : Option (Nat × Nat) := match rdNum s.data.toList a with
  | .ok n next => if 1099511627776 < n then none else some (n, next)
  | .bad _ => none
theorem rNums_step (s : ByteArray) (k a : Nat) : rNums s (k + 1) a = match rOne s a with
    | some (n, next) => (match rNums s k next with
      | some (l, e) => some (n :: l, e)
      | none => none)
    | none => none := by
  rw [rNums]
  unfold rOne
  cases rdNum s.data.toList a with
  | bad e => rfl
  | ok n next =>
    simp only
    by_cases hb : 1099511627776 < n
    · rw [if_pos hb, if_pos hb]
    · rw [if_neg hb, if_neg hb]
theorem rNums_snoc (s : ByteArray) : ∀ (k a : Nat), rNums s (k + 1) a = match rNums s k a with
    | some (l, e) => (match rOne s e with
      | some (n, next) => some (l ++ [n], next)
      | none => none)
    | none => none
  | 0, a => by
    rw [rNums_step]
    show _ = (match rOne s a with | some (n, next) => some ([] ++ [n], next) | none => none)
    cases rOne s a with
    | none => rfl
    | some p => rfl
  | k + 1, a => by
    rw [rNums_step, rNums_step s k a]
    cases h1 : rOne s a with
    | none => rfl
    | some p =>
      simp only
      rw [rNums_snoc s k p.2]
      cases h2 : rNums s k p.2 with
      | none => rfl
      | some q =>
        simp only
        cases h3 : rOne s q.2 with
        | none => rfl
        | some r => rfl
theorem rNums_none (s : ByteArray) {k a : Nat} (h : rNums s k a = none) : ∀ m, rNums s (k + m) a = none
  | 0 => h
  | m + 1 => by
    show rNums s (k + m + 1) a = none
    rw [rNums_snoc, rNums_none s h m]
end Go.Pw
/- The reference's read: its numbers. (Under way.) -/
set_option linter.unusedSimpArgs false
set_option linter.unusedVariables false
namespace Go.Pw
open Go Go.Proofs

def nvs (l : List Nat) : List Value := l.map fun (n : Nat) => Value.int .i64 (n : Int)
def acc0 : Array Value := #[.int .i64 0, .int .i64 0, .int .i64 0, .int .i64 0, .int .i64 0, .int .i64 0, .int .i64 0, .int .i64 0, .int .i64 0, .int .i64 0, .int .i64 0, .string ⟨#[]⟩]
section
variable {H : PH} {s : ByteArray} {g p4 p6 : Nat}
theorem rnums_loop (hz : s.size < 4611686018427387000) (hg : g ≤ 4) (h4 : ∃ c, H p4 = some (.cells c 83 (0, 0)) ∧ c.size = 12) (h6 : H p6 = some (.cells acc0 83 (0, 0)))
    {Kp : List PanicEntry → PH → Prop} {x0 xr : (Value × Value × Value × Value × Value × Value × Value) → PH → Prop}
    (hyes : ∀ l e sv g', rNums s (3 + 2 * g) 0 = some (l, e) → OB 3 1 H (3 + 2 * g) (nvs l) g' sv → x0 (.int .i64 g, .string s, ptr p4, .bool false, ptr p6, sv, .int .i64 e) g')
    (hno : rNums s (3 + 2 * g) 0 = none → ∀ g' sv a, Sub H g' → xr (.int .i64 g, .string s, ptr p4, .bool false, ptr p6, sv, a) (ins g' p4 (.cells acc0 83 (0, 0)))) :
    lf (b41_5 Kp x0 xr) (.int .i64 g, .string s, ptr p4, ptr p6) (.bool false, .slice none 0 0, .int .i64 0, .int .i64 0) H := by
  refine lf_intro (fun m s' g' => ∃ (i : Nat) (l : List Nat) (e : Nat) (sv : Value), s' = (.bool false, sv, .int .i64 e, .int .i64 i) ∧ m = 3 + 2 * g - i ∧ i ≤ 3 + 2 * g ∧ rNums s i 0 = some (l, e) ∧ OB 3 1 H i (nvs l) g' sv) (3 + 2 * g) ⟨0, [], 0, .slice none 0 0, rfl, rfl, by omega, rfl, Sub.refl H, rfl, .inl ⟨rfl, rfl, rfl⟩⟩ ?_
  rintro m s' g' ⟨i, l, e, sv, rfl, rfl, hi, hr, hob⟩
  obtain ⟨_, he, _, _⟩ := (rNums_vN s i).2 l e hr
  have hsn := rNums_snoc s i 0
  rw [hr] at hsn
  simp only at hsn
  have hm1 : IntKind.i64.wrap ((2 : Int) * (g : Int)) = 2 * (g : Int) := w64 (by omega) (by omega)
  have hm2 : IntKind.i64.wrap ((3 : Int) + 2 * (g : Int)) = 3 + 2 * (g : Int) := w64 (by omega) (by omega)
  by_cases hlt : i < 3 + 2 * g
  · have hlt' : (i : Int) < 3 + 2 * (g : Int) := by omega
    have key : ∀ (kn : (Value × Value × Value × Value) → (Value × Value × Value × Value) → PH → Prop),
        (∀ n next, rOne s e = some (n, next) → ∀ sv2 g2, OB 3 1 H (i + 1) (nvs (l ++ [n])) g2 sv2 → kn (.int .i64 g, .string s, ptr p4, ptr p6) (.bool false, sv2, .int .i64 next, .int .i64 ((i : Int) + 1)) g2) →
        (rOne s e = none → xr (.int .i64 g, .string s, ptr p4, .bool false, ptr p6, sv, .int .i64 e) (ins g' p4 (.cells acc0 83 (0, 0)))) →
        b41_5 Kp x0 xr (.int .i64 g, .string s, ptr p4, ptr p6) kn (.bool false, sv, .int .i64 e, .int .i64 i) g' := by
      intro kn hk hx
      unfold b41_5
      simp only [vBin_mul, hm1, vBin_add, hm2, vBin_lss, hlt', decide_true, dIf_b]
      refine ⟨fun _ => ?_, fun e => absurd e (by simp)⟩
      refine rInt_ok hz (by omega) ?_
      obtain ⟨c4, hc4, hs4⟩ := h4
      have bad : rOne s e = none → vLoad (some 12) (ptr p6) g' fun t38 => vStore 12 (ptr p4) t38 g' fun h_4 => xr (.int .i64 g, .string s, ptr p4, .bool false, ptr p6, sv, .int .i64 e) h_4 := fun hh => by
        rw [vLoad_n (hob.sub _ _ h6) (by decide)]
        exact vStore_to (cs := acc0) (hob.sub _ _ hc4) hs4 (by rfl) (by rfl) (hx hh)
      unfold rOne at hk bad
      cases hq : rdNum s.data.toList e with
      | bad er =>
        rw [hq] at bad
        have hne : ¬ er = 0 := by rcases rdN_bad _ _ _ _ _ hq with h | h <;> omega
        simp only [AEnd.elim, vExt_30, vExt_31, vExt_32, vBin_neq, hne, decide_false, Bool.not_false, boolOf_b, gq_b, Bool.true_eq_false, false_implies, ne_eq, not_false_eq_true, forall_const, true_and, and_true, boolOf_u, gq_n, vPick_b, cond_true, dIf_b]
        first | exact bad rfl | exact ⟨bad rfl, by simp⟩
      | ok n next =>
        rw [hq] at bad hk
        simp only at bad hk
        by_cases hb : 1099511627776 < n
        · rw [if_pos hb] at bad
          have hb' : (1099511627776 : Int) < (n : Int) := by omega
          simp only [AEnd.elim, vExt_30, vExt_31, vExt_32, vBin_neq, vBin_gtr, hb', decide_true, Bool.not_true, boolOf_b, gq_b, Bool.false_eq_true, Bool.true_eq_false, false_implies, ne_eq, not_true_eq_false, not_false_eq_true, forall_const, true_and, and_true, boolOf_u, gq_n, vPick_b, cond_true, cond_false, dIf_b]
          first | exact bad rfl | exact ⟨bad rfl, by simp⟩
        · rw [if_neg hb] at hk
          have hb' : ¬ (1099511627776 : Int) < (n : Int) := by omega
          simp only [AEnd.elim, vExt_30, vExt_31, vExt_32, vBin_neq, vBin_gtr, hb', decide_true, decide_false, Bool.not_true, boolOf_b, gq_b, Bool.false_eq_true, Bool.true_eq_false, false_implies, ne_eq, not_true_eq_false, not_false_eq_true, forall_const, true_and, and_true, boolOf_u, gq_n, vPick_b, cond_true, cond_false, dIf_b]
          refine ⟨by omega, _, fill_i1 _, fun q hq' => ⟨by omega, by omega, rfl, ?_⟩⟩
          have hobq := hob.up (sub_ins (h := g') (.cells #[.int .i64 (n : Int)] 3 (0, 0)) hq')
          have one : ∀ v ∈ ((#[Value.int .i64 (n : Int)] : Array Value).toList.drop 0).take (1 * 1), v.oneCell' = true := fun v hv => by
            have : v = .int .i64 (n : Int) := by simpa using hv
            subst this
            rfl
          refine ob_app (m := 1) (bytes := 8) (news := [.int .i64 (n : Int)]) hobq (by simp only [roomBytes]; omega) (by omega) rfl
            (fun K' hk' => .inr (.inr ⟨rfl, q, 0, 1, 1, _, _, _, rfl, ins_eq _ _ _, by simp, one, hk'⟩)) (fun b' off l' cc hx' gg cap' hs' => ?_) fun g2 sv2 ob2 => ?_
          · cases hx'
            intro ee
            rcases hob.buf with ⟨h1, _⟩ | ⟨g3, c3, cap3, h1, h2, _⟩
            · rw [h1] at hs'; cases hs'
            · rw [h1] at hs'; cases hs'
              rw [← ee, hq'] at h2; cases h2
          · rw [w64 (by omega) (by omega)]
            exact hk n next rfl sv2 g2 (by rw [show nvs (l ++ [n]) = nvs l ++ [.int .i64 (n : Int)] by simp [nvs]]; exact ob2)
    refine key _ (fun n next h1 sv2 g2 ob2 => ?_) (fun h1 => ?_)
    · rw [h1] at hsn
      exact ⟨rfl, 3 + 2 * g - (i + 1), by omega, i + 1, l ++ [n], next, sv2, rfl, rfl, by omega, hsn, ob2⟩
    · rw [h1] at hsn
      have := rNums_none s hsn (3 + 2 * g - (i + 1))
      rw [show i + 1 + (3 + 2 * g - (i + 1)) = 3 + 2 * g by omega] at this
      exact hno this g' sv _ hob.sub
  · have hie : i = 3 + 2 * g := by omega
    subst hie
    have hnl : ¬ (((3 + 2 * g : Nat) : Int) < 3 + 2 * (g : Int)) := by omega
    unfold b41_5
    simp only [vBin_mul, hm1, vBin_add, hm2, vBin_lss, hnl, decide_false, dIf_b]
    exact ⟨fun e => absurd e (by simp), fun _ => hyes l e sv g' hr hob⟩
end
end Go.Pw
/- The reference's read: what is free and what is kept. (Under way.) -/
set_option linter.unusedSimpArgs false
set_option linter.unusedVariables false
namespace Go.Pw
open Go Go.Proofs

/-- An account of the reference's: free, kept, stamp, reply. -/
structure RAcc where
  free : Nat → Int
  kept : Nat → Int
  stamp : Int
  reply : ByteArray
def RAcc.cells (a : RAcc) : Array Value := #[.int .i64 (a.free 0), .int .i64 (a.free 1), .int .i64 (a.free 2), .int .i64 (a.free 3), .int .i64 (a.free 4), .int .i64 (a.kept 0), .int .i64 (a.kept 1), .int .i64 (a.kept 2), .int .i64 (a.kept 3), .int .i64 (a.kept 4), .int .i64 a.stamp, .string a.reply]
def RAcc.setF (a : RAcc) (p : Nat) (v : Int) : RAcc := { a with free := fun j => if j = p then v else a.free j }
def RAcc.setK (a : RAcc) (p : Nat) (v : Int) : RAcc := { a with kept := fun j => if j = p then v else a.kept j }
theorem RAcc.setF_cells (a : RAcc) (v : Int) : ∀ p, p < 5 → a.cells.setIfInBounds p (.int .i64 v) = (a.setF p v).cells
  | 0, _ => rfl
  | 1, _ => rfl
  | 2, _ => rfl
  | 3, _ => rfl
  | 4, _ => rfl
  | n + 5, h => absurd h (by omega)
theorem RAcc.setK_cells (a : RAcc) (v : Int) : ∀ p, p < 5 → a.cells.setIfInBounds (5 + p) (.int .i64 v) = (a.setK p v).cells
  | 0, _ => rfl
  | 1, _ => rfl
  | 2, _ => rfl
  | 3, _ => rfl
  | 4, _ => rfl
  | n + 5, h => absurd h (by omega)

def allN (l : List Nat) (p : Nat) : Nat := if p = 0 then l.getD 1 0 else l.getD (2 + p) 0
def keptN (l : List Nat) (g p : Nat) : Nat := if p = 0 then l.getD 2 0 else l.getD (2 + g + p) 0
/-- The account behind m parts. -/
def rAcc (l : List Nat) (g : Nat) (t : ByteArray) : Nat → RAcc
  | 0 => { free := fun _ => 0, kept := fun _ => 0, stamp := (l.getD 0 0 : Nat), reply := t }
  | m + 1 => ((rAcc l g t m).setF m ((allN l m : Int) - (keptN l g m : Int))).setK m (keptN l g m : Int)

section
variable {H : PH} {s : ByteArray} {g p4 p6 : Nat} {l : List Nat} {sv : Value} {t : ByteArray} {h0 : PH}
theorem parts_loop (hg : g ≤ 4) (hl : l.length = 3 + 2 * g) (hbd : ∀ n ∈ l, n ≤ 1099511627776) (hob : OB 3 1 h0 (3 + 2 * g) (nvs l) H sv) (h4 : ∃ c, H p4 = some (.cells c 83 (0, 0)) ∧ c.size = 12) (h46 : p4 ≠ p6)
    (h06 : ∃ o, h0 p6 = some o) (h6 : H p6 = some (.cells (rAcc l g t 0).cells 83 (0, 0)))
    {Kp : List PanicEntry → PH → Prop} {x2 xr : (Value × Value × Value) → PH → Prop}
    (hyes : (∀ p, p ≤ g → keptN l g p ≤ allN l p) → x2 (ptr p4, .bool false, ptr p6) (ins H p6 (.cells (rAcc l g t (g + 1)).cells 83 (0, 0))))
    (hno : ¬ (∀ p, p ≤ g → keptN l g p ≤ allN l p) → ∀ a b, xr (ptr p4, .bool false, ptr p6) (ins (ins H p6 (.cells (RAcc.cells a) 83 (0, 0))) p4 (.cells (RAcc.cells b) 83 (0, 0)))) :
    lf (b41_18 Kp x2 xr) (.int .i64 g, ptr p4, ptr p6, sv) (.bool false, .int .i64 0) H := by
  obtain ⟨q, cs, cap, rfl, hq, hsz, hget⟩ := ob_get hob (by omega)
  have hq6 : q ≠ p6 := fun e => by
    rcases hob.buf with ⟨h1, _⟩ | ⟨g3, c3, cap3, h1, h2, h3, _⟩
    · cases h1
    · cases h1
      obtain ⟨o, ho⟩ := h06
      rw [e, ho] at h3; cases h3
  refine lf_intro (fun m s' g' => ∃ p : Nat, s' = (.bool false, .int .i64 p) ∧ m = g + 1 - p ∧ p ≤ g + 1 ∧ g' = ins H p6 (.cells (rAcc l g t p).cells 83 (0, 0)) ∧ ∀ j, j < p → keptN l g j ≤ allN l j) (g + 1) ⟨0, rfl, rfl, by omega, (ins_self h6).symm, fun j hj => absurd hj (by omega)⟩ ?_
  rintro m s' g' ⟨p, rfl, rfl, hp, rfl, hall⟩
  have hq' : ins H p6 (.cells (rAcc l g t p).cells 83 (0, 0)) q = some (.cells cs 3 (0, 0)) := by rw [ins_ne _ _ hq6]; exact hq
  have ld : ∀ j, j < 3 + 2 * g → ∀ {K : Value → Prop}, vLoad none (.pointer (some ⟨q, j, none⟩)) (ins H p6 (.cells (rAcc l g t p).cells 83 (0, 0))) K ↔ K (.int .i64 (l.getD j 0 : Nat)) := fun j hj {K} => by
    refine vLoad_1 hq' ?_
    rw [hget j (by omega), nvs, List.getElem?_map, List.getElem?_eq_getElem (by omega)]
    simp [List.getD, List.getElem?_eq_getElem (show j < l.length by omega)]
  have hp4 : ∀ o, (ins H p6 o) p4 = H p4 := fun o => ins_ne _ _ h46
  by_cases hpg : p ≤ g
  · have bA : allN l p ≤ 1099511627776 := by
      unfold allN
      split
      · rw [List.getD_eq_getElem?_getD, List.getElem?_eq_getElem (show 1 < l.length by omega)]; exact hbd _ (List.getElem_mem _)
      · rw [List.getD_eq_getElem?_getD, List.getElem?_eq_getElem (show 2 + p < l.length by omega)]; exact hbd _ (List.getElem_mem _)
    have bB : keptN l g p ≤ 1099511627776 := by
      unfold keptN
      split
      · rw [List.getD_eq_getElem?_getD, List.getElem?_eq_getElem (show 2 < l.length by omega)]; exact hbd _ (List.getElem_mem _)
      · rw [List.getD_eq_getElem?_getD, List.getElem?_eq_getElem (show 2 + g + p < l.length by omega)]; exact hbd _ (List.getElem_mem _)
    have key : ∀ (kn : (Value × Value × Value × Value) → (Value × Value) → PH → Prop),
        (keptN l g p ≤ allN l p → kn (.int .i64 g, ptr p4, ptr p6, .slice (some ⟨q, 0, none⟩) (3 + 2 * g) cap) (.bool false, .int .i64 ((p : Int) + 1)) (ins H p6 (.cells (rAcc l g t (p + 1)).cells 83 (0, 0)))) →
        (¬ keptN l g p ≤ allN l p → xr (ptr p4, .bool false, ptr p6) (ins (ins H p6 (.cells (rAcc l g t p).cells 83 (0, 0))) p4 (.cells (rAcc l g t p).cells 83 (0, 0)))) →
        b41_18 Kp x2 xr (.int .i64 g, ptr p4, ptr p6, .slice (some ⟨q, 0, none⟩) (3 + 2 * g) cap) kn (.bool false, .int .i64 p) (ins H p6 (.cells (rAcc l g t p).cells 83 (0, 0))) := by
      intro kn hk hx
      have h6' : (ins H p6 (.cells (rAcc l g t p).cells 83 (0, 0))) p6 = some (.cells (rAcc l g t p).cells 83 (0, 0)) := ins_eq _ _ _
      have fin : vBin Try.prog .gtr 3 (.int .i64 (keptN l g p : Nat)) (.int .i64 (allN l p : Nat)) fun t108 => dIf t108 (vLoad (some 12) (ptr p6) (ins H p6 (.cells (rAcc l g t p).cells 83 (0, 0))) fun t109 => vStore 12 (ptr p4) t109 (ins H p6 (.cells (rAcc l g t p).cells 83 (0, 0))) fun h_1 => xr (ptr p4, .bool false, ptr p6) h_1)
          (vBin Try.prog .sub 3 (.int .i64 (allN l p : Nat)) (.int .i64 (keptN l g p : Nat)) fun t113 => vFA 0 (ptr p6) fun t114 => vIxA 5 1 t114 (.int .i64 p) fun t115 => vStore 1 t115 t113 (ins H p6 (.cells (rAcc l g t p).cells 83 (0, 0))) fun h_2 => vFA 5 (ptr p6) fun t118 => vIxA 5 1 t118 (.int .i64 p) fun t119 => vStore 1 t119 (.int .i64 (keptN l g p : Nat)) h_2 fun h_3 => vBin Try.prog .add 3 (.int .i64 p) (.int .i64 1) fun t85 => kn (.int .i64 g, ptr p4, ptr p6, .slice (some ⟨q, 0, none⟩) (3 + 2 * g) cap) (.bool false, t85) h_3) := by
        simp only [vBin_gtr, dIf_b, decide_eq_true_eq, decide_eq_false_iff_not]
        refine ⟨fun hgt => ?_, fun hle => ?_⟩
        · rw [vLoad_n h6' (by simp [RAcc.cells])]
          obtain ⟨c4, hc4, hs4⟩ := h4
          exact vStore_to (cs := (rAcc l g t p).cells) (by rw [hp4]; exact hc4) hs4 (by rfl) (by rfl) (hx (by omega))
        · simp only [vBin_sub, vFA_p, vIxA_p]
          rw [w64 (by omega) (by omega)]
          refine ⟨by omega, by omega, ?_⟩
          rw [show 0 + 0 + (p : Int).toNat * 1 = p by omega]
          refine (vStore_1 h6' (by simp [RAcc.cells]; omega) rfl).2 ?_
          rw [ins_ins, RAcc.setF_cells _ _ _ (by omega)]
          refine ⟨by omega, by omega, ?_⟩
          rw [show 0 + 5 + (p : Int).toNat * 1 = 5 + p by omega]
          refine (vStore_1 (ins_eq _ _ _) (by simp [RAcc.cells]; omega) rfl).2 ?_
          rw [ins_ins, RAcc.setK_cells _ _ _ (by omega)]
          simp only [vBin_add]
          rw [w64 (by omega) (by omega)]
          exact hk (by omega)
      unfold b41_18
      have hle : (p : Int) ≤ (g : Int) := by omega
      simp only [vBin_leq, hle, decide_true, dIf_b]
      refine ⟨fun _ => ?_, fun e => absurd e (by simp)⟩
      simp only [vIxS_p]
      refine ⟨by omega, by omega, ?_⟩
      rw [show 0 + (1 : Int).toNat * 1 = 1 from rfl, ld 1 (by omega)]
      refine ⟨by omega, by omega, ?_⟩
      rw [show 0 + (2 : Int).toNat * 1 = 2 from rfl, ld 2 (by omega)]
      simp only [vBin_gtr, dIf_b, decide_eq_true_eq, decide_eq_false_iff_not]
      by_cases h0 : p = 0
      · subst h0
        refine ⟨fun hh => absurd hh (by omega), fun _ => ?_⟩
        rw [show allN l 0 = l.getD 1 0 from rfl, show keptN l g 0 = l.getD 2 0 from rfl] at fin
        simp only [vBin_gtr, dIf_b, decide_eq_true_eq, decide_eq_false_iff_not] at fin
        exact fin
      · refine ⟨fun _ => ?_, fun hh => absurd (by omega) hh⟩
        simp only [vBin_add]
        rw [w64 (by omega) (by omega)]
        simp only [vIxS_p]
        refine ⟨by omega, by omega, ?_⟩
        rw [show 0 + ((2 : Int) + (p : Int)).toNat * 1 = 2 + p by omega, ld (2 + p) (by omega)]
        rw [show IntKind.i64.wrap ((2 : Int) + (g : Int)) = 2 + (g : Int) from w64 (by omega) (by omega), w64 (by omega) (by omega)]
        refine ⟨by omega, by omega, ?_⟩
        rw [show 0 + (((2 : Int) + (g : Int)) + (p : Int)).toNat * 1 = 2 + g + p by omega, ld (2 + g + p) (by omega)]
        have eA : allN l p = l.getD (2 + p) 0 := by unfold allN; rw [if_neg h0]
        have eB : keptN l g p = l.getD (2 + g + p) 0 := by unfold keptN; rw [if_neg h0]
        rw [eA, eB] at fin
        simp only [vBin_add] at fin
        exact fin
    refine key _ (fun hle => ⟨rfl, g + 1 - (p + 1), by omega, p + 1, rfl, rfl, by omega, rfl, fun j hj => ?_⟩) (fun hgt => hno (fun hh => hgt (hh p hpg)) _ _)
    by_cases e : j = p
    · subst e; exact hle
    · exact hall j (by omega)
  · have hpe : p = g + 1 := by omega
    subst hpe
    unfold b41_18
    have hnl : ¬ (((g + 1 : Nat) : Int) ≤ (g : Int)) := by omega
    simp only [vBin_leq, hnl, decide_false, dIf_b]
    exact ⟨fun e => absurd e (by simp), fun _ => hyes fun j hj => hall j (by omega)⟩
end
end Go.Pw
/- The reference's read: the whole. (Under way.) -/
set_option linter.unusedSimpArgs false
set_option linter.unusedVariables false
namespace Go.Pw
open Go Go.Proofs

open Classical in
/-- What the reference reads of an account's record: its numbers and its text. -/
noncomputable def rRead (s : ByteArray) (g : Nat) : Option (List Nat × ByteArray) := match rNums s (3 + 2 * g) 0 with
  | none => none
  | some (l, e) => match rdTxt s e with
    | .bad _ => none
    | .ok t next => if next = s.size ∧ t.size ≤ 256 ∧ (l.getD 0 0 = 0 → t = ⟨#[]⟩) ∧ (∀ p, p ≤ g → keptN l g p ≤ allN l p) then some (l, t) else none
theorem OB.put2 {e : TypeId} {esz n : Nat} {l : List Value} {H h g' : PH} {sv : Value} (hw : OB e esz H n l g' sv) {b : Nat} {o p : Obj} (hb : H b = some p) (hs : Sub h H) : OB e esz (ins h b o) n l (ins g' b o) sv :=
  ⟨Sub.both (hs.trans hw.sub), hw.len, by
    rcases hw.buf with a | ⟨q, c, cap, a1, a2, a3, a4⟩
    · exact .inl a
    · have hq : q ≠ b := fun e => by rw [e, hb] at a3; cases a3
      exact .inr ⟨q, c, cap, a1, by rw [ins_ne _ _ hq]; exact a2, by rw [ins_ne _ _ hq]; exact hs.fresh a3, a4⟩⟩
theorem rOne_bd {s : ByteArray} {a n next : Nat} (h : rOne s a = some (n, next)) : n ≤ 1099511627776 := by
  unfold rOne at h
  split at h
  · split at h
    · cases h
    · cases h; omega
  · cases h
theorem rNums_bd (s : ByteArray) : ∀ (k a : Nat) (l : List Nat) (e : Nat), rNums s k a = some (l, e) → ∀ n ∈ l, n ≤ 1099511627776
  | 0, a, l, e, h, n, hn => by cases h; cases hn
  | k + 1, a, l, e, h, n, hn => by
    rw [rNums_step] at h
    cases h1 : rOne s a with
    | none => rw [h1] at h; cases h
    | some p =>
      rw [h1] at h
      simp only at h
      cases h2 : rNums s k p.2 with
      | none => rw [h2] at h; cases h
      | some q =>
        rw [h2] at h
        simp only at h
        cases h
        rcases List.mem_cons.1 hn with rfl | hn
        · exact rOne_bd (next := p.2) h1
        · exact rNums_bd s k p.2 q.1 q.2 h2 n hn

section
variable {h : PH} {R : AEnd → PH → Prop} {s : ByteArray} {g : Nat}
theorem rread_ok (hz : s.size < 4611686018427387000) (hg : g ≤ 4)
    (hno : rRead s g = none → ∀ a : RAcc, R (.ret (.tuple #[.agg a.cells, .bool false])) h)
    (hyes : ∀ l t, rRead s g = some (l, t) → R (.ret (.tuple #[.agg (rAcc l g t (g + 1)).cells, .bool true])) h) :
    ACalls Try.prog 41 #[.int .i64 g, .string s] h R := by
  refine ACalls.drop (call41 ?_)
  unfold sh41
  refine vNew_i fun p4 hp4 => vNew_i fun p6 hp6 => ?_
  obtain ⟨hp6a, hp64⟩ := fresh_of hp6
  have h4H : (ins (ins h p4 (.cells acc0 83 (0, 0))) p6 (.cells acc0 83 (0, 0))) p4 = some (.cells acc0 83 (0, 0)) := by
    rw [ins_ne _ _ (fun e => hp64 e.symm)]; exact ins_eq _ _ _
  have h6H : (ins (ins h p4 (.cells acc0 83 (0, 0))) p6 (.cells acc0 83 (0, 0))) p6 = some (.cells acc0 83 (0, 0)) := ins_eq _ _ _
  have hsH : Sub h (ins (ins h p4 (.cells acc0 83 (0, 0))) p6 (.cells acc0 83 (0, 0))) := Sub.put (Sub.put (Sub.refl h) hp4) hp6a
  revert h4H h6H hsH
  show (ins (ins h p4 (.cells acc0 83 (0, 0))) p6 (.cells acc0 83 (0, 0))) p4 = _ → _ → _ → lf _ _ _ (ins (ins h p4 (.cells acc0 83 (0, 0))) p6 (.cells acc0 83 (0, 0)))
  generalize (ins (ins h p4 (.cells acc0 83 (0, 0))) p6 (.cells acc0 83 (0, 0))) = H
  intro h4H h6H hsH
  have hz0 : acc0.extract 0 (0 + 12) = RAcc.cells ⟨fun _ => 0, fun _ => 0, 0, ⟨#[]⟩⟩ := rfl
  unfold rRead at hno hyes
  refine rnums_loop hz hg ⟨_, h4H, rfl⟩ h6H (fun l e sv g' hr hob => ?_) (fun hr g' sv a hsub => ?_)
  · intro r hrr
    simp only [Prod.mk.injEq] at hrr
    obtain ⟨q0, q1, q4, q5, q6, q7, q8⟩ := hrr
    rw [q0, q1, q4, q5, q6, q7, q8]
    rw [hr] at hno hyes
    simp only at hno hyes
    obtain ⟨_, he, _, _⟩ := (rNums_vN s (3 + 2 * g)).2 l e hr
    refine rText_ok hz (by omega) ?_
    obtain ⟨q, cs, cap, hsv, hqq, hqz, hget⟩ := ob_get hob (by omega)
    subst hsv
    have hln := ((rNums_vN s (3 + 2 * g)).2 l e hr).1
    have l0 : ∀ {K : Value → Prop}, vLoad none (.pointer (some ⟨q, 0, none⟩)) g' K ↔ K (.int .i64 (l.getD 0 0 : Nat)) := fun {K} => by
      refine vLoad_1 hqq ?_
      rw [hget 0 (by omega), nvs, List.getElem?_map, List.getElem?_eq_getElem (show 0 < l.length by omega)]
      simp [List.getD, List.getElem?_eq_getElem (show 0 < l.length by omega)]
    have h4g : g' p4 = some (.cells acc0 83 (0, 0)) := hob.sub _ _ h4H
    have h6g : g' p6 = some (.cells acc0 83 (0, 0)) := hob.sub _ _ h6H
    have quit : (∀ a : RAcc, R (.ret (.tuple #[.agg a.cells, .bool false])) h) → (vLoad (some 12) (ptr p6) g' fun t74 => vStore 12 (ptr p4) t74 g' fun h_20 => vLoad (some 12) (ptr p4) h_20 fun rv => ∃ g, Sub g h_20 ∧ R (.ret (.tuple #[rv, .bool false])) g) := fun hh => by
      rw [vLoad_n h6g (by decide), hz0]
      refine vStore_to h4g (by rfl) (by rfl) (by rfl) ?_
      rw [vLoad_n (ins_eq _ _ _) (by decide)]
      exact ⟨h, Sub.put (hsH.trans hob.sub) hp4, hh _⟩
    have hi0 : ∀ {K : Value → Prop}, vIxS 1 (.slice (some ⟨q, 0, none⟩) (3 + 2 * g) cap) (.int .i64 0) K ↔ K (.pointer (some ⟨q, 0, none⟩)) := fun {K} => by
      rw [vIxS_p]
      exact ⟨fun hh => hh.2.2, fun hh => ⟨by omega, by omega, hh⟩⟩
    cases hq : rdTxt s e with
    | bad er =>
      rw [hq] at hno
      have hne : ¬ er = 0 := by
        unfold rdTxt at hq
        split at hq
        · rename_i e' hr'
          cases hq
          rcases rdN_bad _ _ _ _ _ hr' with h | h <;> omega
        · split at hq
          · cases hq; omega
          · split at hq
            · cases hq; omega
            · cases hq
      simp only [AEnd.elim, vExt_30, vExt_31, vExt_32, vBin_neq, hne, decide_false, Bool.not_false, boolOf_b, gq_b, Bool.true_eq_false, false_implies, ne_eq, not_false_eq_true, forall_const, true_and, and_true, not_true_eq_false, boolOf_u, gq_n, vPick_b, cond_true, dIf_b]
      first | exact quit (hno rfl) | exact ⟨quit (hno rfl), by simp⟩
    | ok t next =>
      rw [hq] at hno hyes
      simp only at hno hyes
      obtain ⟨b1, hb1⟩ : ∃ b1, b1 = decide ((next : Int) = (s.size : Int)) := ⟨_, rfl⟩
      obtain ⟨b2, hb2⟩ : ∃ b2, b2 = decide ((256 : Int) < (t.size : Int)) := ⟨_, rfl⟩
      obtain ⟨b4, hb4⟩ : ∃ b4, b4 = decide (((l.getD 0 0 : Nat) : Int) = 0) := ⟨_, rfl⟩
      obtain ⟨b5, hb5⟩ : ∃ b5, b5 = decide (t = (⟨#[]⟩ : ByteArray)) := ⟨_, rfl⟩
      have n1 : ∀ {K : Value → Prop}, vBin Try.prog .neq 3 (.int .i64 (next : Int)) (.int .i64 (s.size : Int)) K ↔ K (.bool !b1) := fun {K} => by rw [hb1]; exact vBin_neq _ _ _ _
      have n2 : ∀ {K : Value → Prop}, vBin Try.prog .gtr 3 (.int .i64 (t.size : Int)) (.int .i64 256) K ↔ K (.bool b2) := fun {K} => by rw [hb2]; exact vBin_gtr _ _ _ _
      have n4 : ∀ {K : Value → Prop}, vBin Try.prog .eql 3 (.int .i64 ((l.getD 0 0 : Nat) : Int)) (.int .i64 0) K ↔ K (.bool b4) := fun {K} => by rw [hb4]; exact vBin_eql _ _ _ _
      have n5 : ∀ {K : Value → Prop}, vBin Try.prog .neq 9 (.string t) (.string ⟨#[]⟩) K ↔ K (.bool !b5) := fun {K} => by rw [hb5]; exact vBin_sneq _ _ _
      have ne : ∀ {K : Value → Prop}, vBin Try.prog .neq 29 (.int .i64 0) (.int .i64 0) K ↔ K (.bool false) := fun {K} => vBin_neq _ _ _ _
      have bad : (b1 && !b2 && (!b4 || b5)) = false → _ := fun hh => quit (hno (by
        rw [if_neg]
        rintro ⟨c1, c2, c4, _⟩
        rw [hb1, hb2, hb4, hb5] at hh
        have d1 : decide ((next : Int) = (s.size : Int)) = true := by simp; omega
        have d2 : decide ((256 : Int) < (t.size : Int)) = false := by simp; omega
        rw [d1, d2] at hh
        simp only [Bool.not_false, Bool.true_and, Bool.or_eq_false_iff, Bool.not_eq_false', decide_eq_true_eq, decide_eq_false_iff_not] at hh
        exact hh.2 (c4 (by omega))))
      have three : (b1 && !b2 && (!b4 || b5)) = true → next = s.size ∧ t.size ≤ 256 ∧ (l.getD 0 0 = 0 → t = ⟨#[]⟩) := fun hh => by
        rw [hb1, hb2, hb4, hb5] at hh
        simp only [Bool.and_eq_true, Bool.or_eq_true, Bool.not_eq_true', decide_eq_true_eq, decide_eq_false_iff_not] at hh
        obtain ⟨⟨c1, c2⟩, c4⟩ := hh
        exact ⟨by omega, by omega, fun hz => c4.resolve_left fun hn => hn (by omega)⟩
      have h11 : (acc0.setIfInBounds 10 (.int .i64 (l.getD 0 0 : Nat))).setIfInBounds 11 (.string t) = (rAcc l g t 0).cells := rfl
      have hob2 : OB 3 1 (ins h p6 (.cells (rAcc l g t 0).cells 83 (0, 0))) (3 + 2 * g) (nvs l) (ins g' p6 (.cells (rAcc l g t 0).cells 83 (0, 0))) (.slice (some ⟨q, 0, none⟩) (3 + 2 * g) cap) := hob.put2 h6H hsH
      have good : (b1 && !b2 && (!b4 || b5)) = true → vStore 1 (.pointer (some ⟨p6, 10, none⟩)) (.int .i64 (l.getD 0 0 : Nat)) g' fun h_21 => vStore 1 (.pointer (some ⟨p6, 11, none⟩)) (.string t) h_21 fun h_22 =>
          lf (b41_18 (fun c h => ∃ g, Sub g h ∧ R (.pan c) g) (fun v h => exq (fun ρ => (ρ 4, ρ 5, ρ 6)) v (fun r_1 h_23 => vLoad (some 12) (r_1 6) h_23 fun t120 => vStore 12 (r_1 4) t120 h_23 fun h_24 => vLoad (some 12) (r_1 4) h_24 fun rv_1 => ∃ g, Sub g h_24 ∧ R (.ret (.tuple #[rv_1, (.bool true)])) g) h)
            (fun v h => exq (fun ρ => (ρ 4, ρ 5, ρ 6)) v (fun r_1 h_25 => vLoad (some 12) (r_1 4) h_25 fun rv_2 => ∃ g, Sub g h_25 ∧ R (.ret (.tuple #[rv_2, (r_1 5)])) g) h)) (.int .i64 g, ptr p4, ptr p6, .slice (some ⟨q, 0, none⟩) (3 + 2 * g) cap) (.bool false, .int .i64 0) h_22 := fun hh => by
        obtain ⟨c1, c2, c3⟩ := three hh
        refine (vStore_1 h6g (by decide) rfl).2 ?_
        refine (vStore_1 (ins_eq _ _ _) (by simp [acc0]) rfl).2 ?_
        rw [ins_ins, h11]
        have hs6 : Sub h (ins g' p6 (.cells (rAcc l g t 0).cells 83 (0, 0))) := Sub.put (hsH.trans hob.sub) hp6a
        refine parts_loop hg hln (rNums_bd s _ _ l e hr) hob2 ⟨acc0, by rw [ins_ne _ _ (fun e => hp64 e.symm)]; exact h4g, rfl⟩ (fun e => hp64 e.symm) ⟨_, ins_eq _ _ _⟩ (ins_eq _ _ _) (fun hy => ?_) (fun hn a b => ?_)
        · intro r2 hr2
          simp only [Prod.mk.injEq] at hr2
          rw [hr2.1, hr2.2.2, vLoad_n (ins_eq _ _ _) (by simp [RAcc.cells])]
          refine vStore_to (cs := (rAcc l g t (g + 1)).cells) (by rw [ins_ins, ins_ne _ _ (fun e => hp64 e.symm)]; exact h4g) (by rfl) (by rfl) (by rfl) ?_
          rw [vLoad_n (ins_eq _ _ _) (by simp [RAcc.cells])]
          exact ⟨h, Sub.put (Sub.put hs6 hp6a) hp4, hyes l t (by rw [if_pos ⟨c1, c2, c3, hy⟩])⟩
        · intro r2 hr2
          simp only [Prod.mk.injEq] at hr2
          rw [hr2.1, hr2.2.1, vLoad_n (ins_eq _ _ _) (by simp [RAcc.cells])]
          exact ⟨h, Sub.put (Sub.put hs6 hp6a) hp4, hno (by rw [if_neg fun hc => hn hc.2.2.2]) _⟩
      clear hb1 hb2 hb4 hb5 hno hyes three
      cases b1 <;> cases b2 <;> cases b4 <;> cases b5 <;>
        simp only [AEnd.elim, vExt_30, vExt_31, vExt_32, ne, boolOf_b, gq_b, Bool.false_eq_true, Bool.true_eq_false, Bool.not_false, Bool.not_true, forall_const, ne_eq, not_true_eq_false, not_false_eq_true, false_implies, and_true, true_and, vLenStr_s, n1, n2, n4, n5, vPick_b, cond_false, cond_true, boolOf_u, gq_n, vFA_p, Nat.zero_add, hi0, l0, dIf_b] <;>
        first | exact bad rfl | exact good rfl
  · intro r hrr
    simp only [Prod.mk.injEq] at hrr
    rw [hrr.2.2.1, hrr.2.2.2.1, vLoad_n (ins_eq _ _ _) (by decide), hz0]
    exact ⟨h, Sub.put (hsH.trans hsub) hp4, hno (by rw [hr]) _⟩
end
end Go.Pw
/- The reference's ledger in memory: keys, totals, what is shown. -/
set_option linter.unusedSimpArgs false
set_option linter.unusedVariables false
namespace Go.Pw
open Go Go.Proofs

/-- The account i of a ledger, as the reference has it. -/
def rOf (L : Led) (i : Nat) : RAcc where
  free := fun p => if p = 0 then L.f i 0 - L.f i 1 else L.f i (1 + p) - L.f i (5 + p)
  kept := fun p => if p = 0 then L.f i 1 else L.f i (5 + p)
  stamp := L.f i 10
  reply := L.r i
/-- All of a part of an account. -/
def allP (L : Led) (p i : Nat) : Int := if p = 0 then L.f i 0 else L.f i (1 + p)
theorem rOf_all (L : Led) (p i : Nat) : (rOf L i).free p + (rOf L i).kept p = allP L p i := by
  simp only [rOf, allP]; split <;> omega
def totP (L : Led) (p : Nat) : Int := sumN (allP L p) L.n
theorem totP_0 (L : Led) : totP L 0 = cashOf L := rfl
theorem totP_g (L : Led) (g : Nat) : totP L (g + 1) = goodOf L g := by
  unfold totP goodOf
  refine sumN_congr _ fun i _ => ?_
  simp only [allP]
  rw [if_neg (by omega), show 1 + (g + 1) = 2 + g by omega]

/-- The reference's ledger v, in the block q. -/
def RefAt (h : PH) (q : Nat) (v : Value) (L : Led) : Prop := ∃ c cap, v = .agg #[.int .i64 L.goods, .slice (some ⟨q, 0, none⟩) L.n cap] ∧ h q = some (.cells c 83 (0, 0)) ∧ c.size = cap * 12 ∧ L.n ≤ cap ∧
  ∀ i, i < L.n → c.extract (i * 12) (i * 12 + 12) = (rOf L i).cells
theorem RefAt.sub {h g : PH} {q : Nat} {v : Value} {L : Led} (hr : RefAt h q v L) (hs : Sub h g) : RefAt g q v L := by
  obtain ⟨c, cap, a, b, e⟩ := hr
  exact ⟨c, cap, a, hs _ _ b, e⟩
theorem ext_get {c d : Array Value} {o : Nat} (he : c.extract o (o + 12) = d) {j : Nat} {v : Value} (hj : j < 12) (hv : d[j]? = some v) : c[o + j]? = some v := by
  rw [← he, Array.getElem?_extract] at hv
  split at hv
  · exact hv
  · cases hv
theorem RAcc.at_free (a : RAcc) {p : Nat} (hp : p ≤ 4) : a.cells[p]? = some (.int .i64 (a.free p)) := match p, hp with
  | 0, _ => rfl
  | 1, _ => rfl
  | 2, _ => rfl
  | 3, _ => rfl
  | 4, _ => rfl
  | n + 5, h => absurd h (by omega)
theorem RAcc.at_kept (a : RAcc) {p : Nat} (hp : p ≤ 4) : a.cells[5 + p]? = some (.int .i64 (a.kept p)) := match p, hp with
  | 0, _ => rfl
  | 1, _ => rfl
  | 2, _ => rfl
  | 3, _ => rfl
  | 4, _ => rfl
  | n + 5, h => absurd h (by omega)

theorem allP_bd {L : Led} (hs : L.small) {p i : Nat} (hp : p ≤ 4) (hi : i < L.n) : 0 ≤ allP L p i ∧ allP L p i ≤ 1099511627776 := by
  unfold allP; split
  · exact hs.num i 0 hi (by omega)
  · exact hs.num i (1 + p) hi (by omega)
theorem rOf_bd {L : Led} (hs : L.small) {p i : Nat} (hp : p ≤ 4) (hi : i < L.n) : -1099511627776 ≤ (rOf L i).free p ∧ (rOf L i).free p ≤ 1099511627776 ∧ 0 ≤ (rOf L i).kept p ∧ (rOf L i).kept p ≤ 1099511627776 := by
  simp only [rOf]
  split
  · have := hs.num i 0 hi (by omega)
    have := hs.num i 1 hi (by omega)
    omega
  · have := hs.num i (1 + p) hi (by omega)
    have := hs.num i (5 + p) hi (by omega)
    omega
theorem totP_bd {L : Led} (hs : L.small) {p k : Nat} (hp : p ≤ 4) (hk : k ≤ L.n) : 0 ≤ sumN (allP L p) k ∧ sumN (allP L p) k ≤ 17592186044416 := by
  have h1 := sumN_bd (g := allP L p) (M := 1099511627776) (by omega) k (fun i hi => allP_bd hs hp (by omega))
  have h2 := hs.cl
  refine ⟨h1.1, ?_⟩
  have : (k : Int) * 1099511627776 ≤ 16 * 1099511627776 := Int.mul_le_mul_of_nonneg_right (by omega) (by omega)
  omega

section
variable {h : PH} {R : AEnd → PH → Prop}
theorem rkey_ok {i : Nat} (hi : i < 100) (hR : R (.ret (.string (keyB i))) h) : ACalls Try.prog 42 #[.int .i64 i] h R := by
  refine ACalls.drop (call42 ?_)
  unfold sh42
  rw [vBin_quo _ _ _ _ (by omega)]
  have e1 : ((i : Int).tdiv 10) = ((i / 10 : Nat) : Int) := by rw [Int.tdiv_eq_ediv_of_nonneg (by omega)]; omega
  have e2 : ((i : Int).tmod 10) = ((i % 10 : Nat) : Int) := by rw [Int.tmod_eq_emod_of_nonneg (by omega)]; omega
  rw [e1, w64 (by omega) (by omega)]
  simp only [vBin_add, vConvI_i]
  rw [w64 (by omega) (by omega), wrap_u8n (n := 48 + i / 10) (by omega) (by omega), vBin_rem _ _ _ _ (by omega), e2]
  simp only [vBin_add, vConvI_i]
  rw [w64 (by omega) (by omega), wrap_u8n (n := 48 + i % 10) (by omega) (by omega)]
  refine ⟨by omega, _, fill_two _ _, fun q hq => ?_⟩
  refine .inr ⟨q, 0, 2, 2, _, _, _, [UInt8.ofNat (48 + i / 10), UInt8.ofNat (48 + i % 10)], rfl, ins_eq _ _ _, rfl, rfl, ?_⟩
  show vBin _ _ _ _ _ _
  rw [vBin_sadd _ _ _ (by simp [ByteArray.size])]
  refine ⟨h, sub_ins _ hq, ?_⟩
  have : (⟨#[97, 99, 99, 116, 47]⟩ : ByteArray) ++ ⟨[UInt8.ofNat (48 + i / 10), UInt8.ofNat (48 + i % 10)].toArray⟩ = keyB i := by
    apply ByteArray.ext
    rw [ByteArray.data_append]
    rfl
  rw [this]; exact hR

theorem rtotal_ok {q : Nat} {v : Value} {L : Led} (hr : RefAt h q v L) (hs : L.small) {p : Nat} (hp : p ≤ 4) (hR : R (.ret (.int .i64 (totP L p))) h) : ACalls Try.prog 43 #[v, .int .i64 p] h R := by
  refine ACalls.drop (call43 ?_)
  unfold sh43
  obtain ⟨c, cap, rfl, hq, hcs, hcap, hex⟩ := hr
  refine vNew_i fun a ha => ?_
  simp only [Value.cells]
  have haa : ins h a (.cells #[.int .i64 L.goods, .slice (some ⟨q, 0, none⟩) L.n cap] 52 (0, 0)) a = some (.cells #[.int .i64 L.goods, .slice (some ⟨q, 0, none⟩) L.n cap] 52 (0, 0)) := ins_eq _ _ _
  have hsa : Sub h (ins h a (.cells #[.int .i64 L.goods, .slice (some ⟨q, 0, none⟩) L.n cap] 52 (0, 0))) := sub_ins _ ha
  revert haa hsa
  generalize ins h a (.cells #[.int .i64 L.goods, .slice (some ⟨q, 0, none⟩) L.n cap] 52 (0, 0)) = G
  intro haa hsa
  have l1 : ∀ {K : Value → Prop}, vLoad none (.pointer (some ⟨a, 0 + 1, none⟩)) G K ↔ K (.slice (some ⟨q, 0, none⟩) L.n cap) := fun {K} => vLoad_1 haa rfl
  have hcl := hs.cl
  refine lf_intro (fun m s' g' => ∃ i : Nat, s' = (.int .i64 (sumN (allP L p) i), .int .i64 i) ∧ m = L.n - i ∧ i ≤ L.n ∧ g' = G) L.n ⟨0, rfl, rfl, by omega, rfl⟩ ?_
  rintro m s' g' ⟨i, rfl, rfl, hi, rfl⟩
  have b0 := totP_bd hs hp hi
  by_cases hin : i < L.n
  · have key : ∀ (kn : (Value × Value) → (Value × Value) → PH → Prop) Kp x0, kn (.int .i64 p, ptr a) (.int .i64 (sumN (allP L p) (i + 1)), .int .i64 ((i : Int) + 1)) g' → b43_3 Kp x0 (.int .i64 p, ptr a) kn (.int .i64 (sumN (allP L p) i), .int .i64 i) g' := by
      intro kn Kp x0 hk
      unfold b43_3
      have hlt : (i : Int) < (L.n : Int) := by omega
      have bA := rOf_bd hs hp hin
      have bB := rOf_all L p i
      have bC := allP_bd hs hp hin
      simp only [vFA_p, l1, vLenS_s, vBin_lss, hlt, decide_true, dIf_b, vIxS_p, vIxA_p]
      refine ⟨fun _ => ⟨by omega, by omega, by omega, by omega, ?_⟩, fun e => absurd e (by simp)⟩
      rw [show 0 + (i : Int).toNat * 12 + 0 + (p : Int).toNat * 1 = i * 12 + p by omega, vLoad_1 (hsa _ _ hq) (ext_get (hex i hin) (by omega) ((rOf L i).at_free hp))]
      simp only [vBin_add, vFA_p, l1, vIxS_p, vIxA_p]
      refine ⟨by omega, by omega, by omega, by omega, ?_⟩
      rw [show 0 + (i : Int).toNat * 12 + 5 + (p : Int).toNat * 1 = i * 12 + (5 + p) by omega, vLoad_1 (hsa _ _ hq) (ext_get (hex i hin) (by omega) ((rOf L i).at_kept hp))]
      simp only [vBin_add]
      rw [w64 (x := sumN (allP L p) i + (rOf L i).free p) (by omega) (by omega), Int.add_assoc, bB, w64 (by omega) (by omega), w64 (by omega) (by omega)]
      exact hk
    exact key _ _ _ ⟨rfl, L.n - (i + 1), by omega, i + 1, rfl, rfl, by omega, rfl⟩
  · have e : i = L.n := by omega
    subst e
    unfold b43_3
    have hnl : ¬ ((L.n : Int) < (L.n : Int)) := by omega
    simp only [vFA_p, l1, vLenS_s, vBin_lss, hnl, decide_false, dIf_b]
    refine ⟨fun e => absurd e (by simp), fun _ => ?_⟩
    intro r hr
    rw [show r 5 = _ from hr]
    exact ⟨h, hsa, hR⟩

/-- What is shown of an account behind k goods. -/
def shK (L : Led) (i k : Nat) : Array Value := #[.int .i64 (L.f i 0), .int .i64 (L.f i 1), .int .i64 (if 0 < k then L.f i 2 else 0), .int .i64 (if 1 < k then L.f i 3 else 0), .int .i64 (if 2 < k then L.f i 4 else 0), .int .i64 (if 3 < k then L.f i 5 else 0),
  .int .i64 (if 0 < k then L.f i 6 else 0), .int .i64 (if 1 < k then L.f i 7 else 0), .int .i64 (if 2 < k then L.f i 8 else 0), .int .i64 (if 3 < k then L.f i 9 else 0)]
theorem shK_step (L : Led) (i : Nat) : ∀ k, k < 4 → ((shK L i k).setIfInBounds (2 + k) (.int .i64 (L.f i (2 + k)))).setIfInBounds (6 + k) (.int .i64 (L.f i (6 + k))) = shK L i (k + 1)
  | 0, _ => rfl
  | 1, _ => rfl
  | 2, _ => rfl
  | 3, _ => rfl
  | n + 4, h => absurd h (by omega)
theorem rshown_ok {L : Led} (hs : L.small) {i : Nat} (hi : i < L.n) (hR : R (.ret (.agg (acctCells L i))) h) : ACalls Try.prog 44 #[.agg (rOf L i).cells] h R := by
  refine ACalls.drop (call44 ?_)
  unfold sh44
  have bF := fun p hp => rOf_bd hs (p := p) hp hi
  have bA := fun p => rOf_all L p i
  simp only [Value.cells]
  refine vNew_gen fun a G1 ha s1 haa1 => vNew_gen fun b G hb s2 hbb => vNew_i fun c hc => ?_
  have haa := s2 _ _ haa1
  have hb1 := s1.fresh hb
  have hc2 := (s1.trans s2).fresh hc
  have hsb := s1.trans s2
  have hcb : c ≠ b := (ne_fresh hc hbb).symm
  have hca : c ≠ a := (ne_fresh hc haa).symm
  have hca' : ∀ o, (ins G c o) a = some (.cells (rOf L i).cells 83 (0, 0)) := fun o => by rw [ins_ne _ _ (fun e => hca e.symm)]; exact haa
  have e0 := (rOf L i).at_free (p := 0) (by omega)
  have k0 := (rOf L i).at_kept (p := 0) (by omega)
  have w0 := bF 0 (by omega)
  have a0 := bA 0
  simp only [vFA_p, vIxA_p]
  refine ⟨by omega, by omega, ?_⟩
  rw [show 0 + 0 + (0 : Int).toNat * 1 = 0 from rfl, vLoad_1 (hca' _) e0]
  refine ⟨by omega, by omega, ?_⟩
  rw [show 0 + 5 + (0 : Int).toNat * 1 = 5 + 0 from rfl, vLoad_1 (hca' _) k0]
  simp only [vBin_add]
  have c0 := allP_bd hs (p := 0) (by omega) hi
  rw [a0, w64 (by omega) (by omega)]
  refine (vStore_1 (ins_eq _ _ _) (by simp) rfl).2 ?_
  refine ⟨by omega, by omega, ?_⟩
  rw [ins_ins, vLoad_1 (hca' _) k0]
  refine (vStore_1 (ins_eq _ _ _) (by simp) rfl).2 ?_
  rw [ins_ins]
  show lf _ _ _ (ins G c (.cells (shK L i 0) 43 (0, 0)))
  refine lf_intro (fun m s' g' => ∃ k : Nat, s' = .int .i64 k ∧ m = 4 - k ∧ k ≤ 4 ∧ g' = ins G c (.cells (shK L i k) 43 (0, 0))) 4 ⟨0, rfl, rfl, by omega, rfl⟩ ?_
  rintro m s' g' ⟨k, rfl, rfl, hk, rfl⟩
  by_cases h4 : k < 4
  · have key : ∀ (kn : (Value × Value × Value) → Value → PH → Prop) Kp x0, kn (ptr a, ptr b, ptr c) (.int .i64 ((k : Int) + 1)) (ins G c (.cells (shK L i (k + 1)) 43 (0, 0))) →
        b44_5 Kp x0 (ptr a, ptr b, ptr c) kn (.int .i64 k) (ins G c (.cells (shK L i k) 43 (0, 0))) := by
      intro kn Kp x0 hkn
      unfold b44_5
      have hlt : (k : Int) < 4 := by omega
      have wk := bF (k + 1) (by omega)
      have ak := bA (k + 1)
      have ck := allP_bd hs (p := k + 1) (by omega) hi
      have w1 : IntKind.i64.wrap ((k : Int) + 1) = (k : Int) + 1 := w64 (by omega) (by omega)
      have ek := (rOf L i).at_free (p := k + 1) (by omega)
      have kk := (rOf L i).at_kept (p := k + 1) (by omega)
      simp only [vBin_lss, hlt, decide_true, dIf_b, vBin_add, w1, vFA_p, vIxA_p]
      refine ⟨fun _ => ⟨by omega, by omega, ?_⟩, fun e => absurd e (by simp)⟩
      rw [show 0 + 0 + ((k : Int) + 1).toNat * 1 = k + 1 by omega, vLoad_1 (hca' _) ek]
      refine ⟨by omega, by omega, ?_⟩
      rw [show 0 + 5 + ((k : Int) + 1).toNat * 1 = 5 + (k + 1) by omega, vLoad_1 (hca' _) kk]
      simp only [vBin_add, vIxA_p]
      refine ⟨by omega, by omega, ?_⟩
      rw [ak, w64 (by omega) (by omega), show 0 + 2 + (k : Int).toNat * 1 = 2 + k by omega, show allP L (k + 1) i = L.f i (2 + k) by simp only [allP]; rw [if_neg (by omega), show 1 + (k + 1) = 2 + k by omega]]
      refine (vStore_1 (ins_eq _ _ _) (by simp [shK]; omega) rfl).2 ?_
      refine ⟨by omega, by omega, ?_⟩
      rw [ins_ins, vLoad_1 (hca' _) kk]
      refine ⟨by omega, by omega, ?_⟩
      rw [show 0 + 6 + (k : Int).toNat * 1 = 6 + k by omega, show (rOf L i).kept (k + 1) = L.f i (6 + k) by simp only [rOf]; rw [if_neg (by omega), show 5 + (k + 1) = 6 + k by omega]]
      refine (vStore_1 (ins_eq _ _ _) (by simp [shK]; omega) rfl).2 ?_
      rw [ins_ins, shK_step L i k h4]
      exact hkn
    exact key _ _ _ ⟨rfl, 4 - (k + 1), by omega, k + 1, rfl, rfl, by omega, rfl⟩
  · have e4 : k = 4 := by omega
    subst e4
    unfold b44_5
    simp only [vBin_lss, dIf_b]
    refine ⟨fun e => absurd e (by decide), fun _ => ?_⟩
    intro r hr
    simp only [Prod.mk.injEq] at hr
    rw [hr.1, hr.2, vLoad_n (ins_eq _ _ _) (by simp [shK])]
    refine vStore_to (cs := acctCells L i) (by rw [ins_ne _ _ (fun e => hcb e.symm)]; exact hbb) (by rfl) (by rfl) (by rfl) ?_
    rw [vLoad_n (ins_eq _ _ _) (by simp [acctCells])]
    exact ⟨h, Sub.put (Sub.put hsb hc2) hb1, hR⟩
end
end Go.Pw
/- What the program reads of a record is what the reference reads. (Plain; no program in sight.) -/
set_option linter.unusedSimpArgs false
set_option linter.unusedVariables false
namespace Go.Pw
open Go Go.Proofs

theorem ldG_f (L : Led) (i : Nat) (s : ByteArray) : ∀ (m : Nat), m ≤ 4 → ∀ a j, (ldG L i s m).f a j = if a = i then (if j = 10 then (vN s 0 : Int) else if j = 0 then (vN s 1 : Int) else if j = 1 then (vN s 2 : Int) else if 2 ≤ j ∧ j < 2 + m then (vN s (1 + j) : Int) else L.f a j) else L.f a j
  | 0, _, a, j => by
    simp only [ldG, Led.set]
    grind
  | m + 1, hm, a, j => by
    have ih := ldG_f L i s m (by omega) a j
    simp only [ldG, Led.set]
    rw [ih]
    have : j = 2 + m → 3 + m = 1 + j := by omega
    grind
theorem ldK_f (L : Led) (i : Nat) (s : ByteArray) (g : Nat) (hg : g ≤ 4) : ∀ (m : Nat), m ≤ 4 → ∀ a j, (ldK L i s g m).f a j = if a = i then (if j = 10 then (vN s 0 : Int) else if j = 0 then (vN s 1 : Int) else if j = 1 then (vN s 2 : Int) else if 2 ≤ j ∧ j < 2 + g then (vN s (1 + j) : Int) else if 6 ≤ j ∧ j < 6 + m then (vN s (3 + g + (j - 6)) : Int) else L.f a j) else L.f a j
  | 0, _, a, j => by
    simp only [ldK]
    rw [ldG_f L i s g hg]
    grind
  | m + 1, hm, a, j => by
    have ih := ldK_f L i s g hg m (by omega) a j
    simp only [ldK, Led.set]
    rw [ih]
    by_cases ha : a = i
    · subst ha
      by_cases hj : j = 6 + m
      · subst hj
        rw [if_pos ⟨rfl, rfl⟩, if_pos rfl, if_neg (by omega), if_neg (by omega), if_neg (by omega), if_neg (by omega), if_pos (by omega), show 3 + g + (6 + m - 6) = 3 + g + m by omega]
      · have e : (6 ≤ j ∧ j < 6 + m) ↔ (6 ≤ j ∧ j < 6 + (m + 1)) := by omega
        rw [if_neg (fun h => hj h.2)]
        simp only [if_true, e]
    · rw [if_neg (fun h => ha h.1), if_neg ha, if_neg ha]
theorem ldG_r (L : Led) (i : Nat) (s : ByteArray) : ∀ m, (ldG L i s m).r = L.r
  | 0 => rfl
  | m + 1 => ldG_r L i s m
theorem ldK_r (L : Led) (i : Nat) (s : ByteArray) (g : Nat) : ∀ m, (ldK L i s g m).r = L.r
  | 0 => ldG_r L i s g
  | m + 1 => ldK_r L i s g m

/-- Of the account k nothing is written yet; of the goods that there are not nothing at all. -/
def Blank (L : Led) (k : Nat) : Prop := ∀ j, L.f k j = 0
theorem rd_none {L : Led} {k g : Nat} {s : ByteArray} (hg : g ≤ 4) (hb : Blank L k) (h : rRead s g = none) : mayRead (ldK L k s g g) k s (atN s (3 + g + g)) = none := by
  unfold rRead at h
  obtain ⟨h1, h2⟩ := rNums_vN s (3 + 2 * g)
  rw [show 3 + g + g = 3 + 2 * g by omega]
  unfold mayRead
  cases hr : rNums s (3 + 2 * g) 0 with
  | none => rw [h1 hr, if_pos (by omega)]
  | some p =>
    obtain ⟨l, e⟩ := p
    obtain ⟨a1, a2, a3, a4⟩ := h2 l e hr
    rw [hr] at h
    simp only at h
    rw [a3, if_neg (by omega)]
    cases ht : rdTxt s e with
    | bad er => rfl
    | ok t next =>
      rw [ht] at h
      simp only at h ⊢
      split at h
      · cases h
      · rename_i hn
        rw [if_neg]
        rintro ⟨c1, c2, c3, c4, c5⟩
        have vl : ∀ j, j < 3 + 2 * g → l.getD j 0 = vN s j := fun j hj => by rw [List.getD_eq_getElem?_getD, a4 j hj]; rfl
        refine hn ⟨c1, c2, fun hz => c4 ?_, fun p hp => ?_⟩
        · rw [ldK_f L k s g hg g hg, if_pos rfl, if_pos rfl, ← vl 0 (by omega), hz]; rfl
        · unfold keptN allN
          by_cases hp0 : p = 0
          · rw [if_pos hp0, if_pos hp0, vl 1 (by omega), vl 2 (by omega)]
            rw [ldK_f L k s g hg g hg, ldK_f L k s g hg g hg] at c3
            simp at c3
            omega
          · rw [if_neg hp0, if_neg hp0, vl (2 + p) (by omega), vl (2 + g + p) (by omega)]
            have := c5 (p - 1) (by omega)
            rw [ldK_f L k s g hg g hg, ldK_f L k s g hg g hg] at this
            rw [if_pos rfl, if_pos rfl, if_neg (by omega), if_neg (by omega), if_neg (by omega), if_neg (by omega), if_pos (by omega), if_neg (by omega), if_neg (by omega), if_neg (by omega), if_pos (by omega),
              show 3 + g + (6 + (p - 1) - 6) = 2 + g + p by omega, show 1 + (2 + (p - 1)) = 2 + p by omega] at this
            omega
theorem RAcc.cells_ext {a b : RAcc} (h1 : ∀ p, p < 5 → a.free p = b.free p) (h2 : ∀ p, p < 5 → a.kept p = b.kept p) (h3 : a.stamp = b.stamp) (h4 : a.reply = b.reply) : a.cells = b.cells := by
  simp only [RAcc.cells, h1 0 (by omega), h1 1 (by omega), h1 2 (by omega), h1 3 (by omega), h1 4 (by omega), h2 0 (by omega), h2 1 (by omega), h2 2 (by omega), h2 3 (by omega), h2 4 (by omega), h3, h4]
theorem rAcc_f (l : List Nat) (g : Nat) (t : ByteArray) : ∀ m p, (rAcc l g t m).free p = (if p < m then (allN l p : Int) - (keptN l g p : Int) else 0) ∧ (rAcc l g t m).kept p = (if p < m then (keptN l g p : Int) else 0)
  | 0, p => ⟨rfl, rfl⟩
  | m + 1, p => by
    obtain ⟨i1, i2⟩ := rAcc_f l g t m p
    simp only [rAcc, RAcc.setF, RAcc.setK]
    rw [i1, i2]
    constructor <;> grind
theorem rAcc_s (l : List Nat) (g : Nat) (t : ByteArray) : ∀ m, (rAcc l g t m).stamp = (l.getD 0 0 : Nat) ∧ (rAcc l g t m).reply = t
  | 0 => ⟨rfl, rfl⟩
  | m + 1 => rAcc_s l g t m
theorem rd_some {L : Led} {k g : Nat} {s : ByteArray} (hg : g ≤ 4) (hb : Blank L k) {l : List Nat} {t : ByteArray} (h : rRead s g = some (l, t)) : mayRead (ldK L k s g g) k s (atN s (3 + g + g)) = some t ∧
    (rOf ((ldK L k s g g).setR k t) k).cells = (rAcc l g t (g + 1)).cells := by
  unfold rRead at h
  obtain ⟨h1, h2⟩ := rNums_vN s (3 + 2 * g)
  rw [show 3 + g + g = 3 + 2 * g by omega]
  unfold mayRead
  cases hr : rNums s (3 + 2 * g) 0 with
  | none => rw [hr] at h; cases h
  | some p =>
    obtain ⟨l', e⟩ := p
    obtain ⟨a1, a2, a3, a4⟩ := h2 l' e hr
    rw [hr] at h
    simp only at h
    rw [a3, if_neg (by omega)]
    cases ht : rdTxt s e with
    | bad er => rw [ht] at h; cases h
    | ok t' next =>
      rw [ht] at h
      simp only at h ⊢
      split at h
      · rename_i hn
        cases h
        obtain ⟨c1, c2, c4, c5⟩ := hn
        have vl : ∀ j, j < 3 + 2 * g → l.getD j 0 = vN s j := fun j hj => by rw [List.getD_eq_getElem?_getD, a4 j hj]; rfl
        have f10 : (ldK L k s g g).f k 10 = (vN s 0 : Int) := by rw [ldK_f L k s g hg g hg, if_pos rfl, if_pos rfl]
        have f0 : (ldK L k s g g).f k 0 = (vN s 1 : Int) := by rw [ldK_f L k s g hg g hg]; simp
        have f1 : (ldK L k s g g).f k 1 = (vN s 2 : Int) := by rw [ldK_f L k s g hg g hg]; simp
        have fg : ∀ j, j < 4 → (ldK L k s g g).f k (2 + j) = if j < g then (vN s (3 + j) : Int) else 0 := fun j hj => by
          rw [ldK_f L k s g hg g hg, if_pos rfl, if_neg (by omega), if_neg (by omega), if_neg (by omega)]
          by_cases hjg : j < g
          · rw [if_pos (by omega), if_pos hjg, show 1 + (2 + j) = 3 + j by omega]
          · rw [if_neg (by omega), if_neg (by omega), if_neg hjg]; exact hb _
        have fk : ∀ j, j < 4 → (ldK L k s g g).f k (6 + j) = if j < g then (vN s (3 + g + j) : Int) else 0 := fun j hj => by
          rw [ldK_f L k s g hg g hg, if_pos rfl, if_neg (by omega), if_neg (by omega), if_neg (by omega), if_neg (by omega)]
          by_cases hjg : j < g
          · rw [if_pos (by omega), if_pos hjg, show 3 + g + (6 + j - 6) = 3 + g + j by omega]
          · rw [if_neg (by omega), if_neg hjg]; exact hb _
        refine ⟨?_, ?_⟩
        · refine if_pos ⟨c1, c2, ?_, fun hz => c4 ?_, fun j hj => ?_⟩
          · have := c5 0 (by omega)
            unfold keptN allN at this
            rw [if_pos rfl, if_pos rfl, vl 1 (by omega), vl 2 (by omega)] at this
            rw [f0, f1]
            omega
          · rw [f10] at hz
            rw [vl 0 (by omega)]
            omega
          · rw [fg j hj, fk j hj]
            by_cases hjg : j < g
            · rw [if_pos hjg, if_pos hjg]
              have := c5 (j + 1) (by omega)
              unfold keptN allN at this
              rw [if_neg (by omega), if_neg (by omega), vl (2 + (j + 1)) (by omega), vl (2 + g + (j + 1)) (by omega), show 2 + g + (j + 1) = 3 + g + j by omega, show 2 + (j + 1) = 3 + j by omega] at this
              omega
            · rw [if_neg hjg, if_neg hjg]; omega
        · refine RAcc.cells_ext (fun p hp => ?_) (fun p hp => ?_) ?_ ?_
          · rw [(rAcc_f l g t (g + 1) p).1]
            simp only [rOf, Led.setR]
            unfold allN keptN
            by_cases hp0 : p = 0
            · subst hp0
              rw [if_pos rfl, if_pos (by omega), if_pos rfl, if_pos rfl, vl 1 (by omega), vl 2 (by omega), f0, f1]
            · rw [if_neg hp0, if_neg hp0, if_neg hp0, show 1 + p = 2 + (p - 1) by omega, show 5 + p = 6 + (p - 1) by omega, fg _ (by omega), fk _ (by omega)]
              by_cases hpg : p < g + 1
              · rw [if_pos (by omega), if_pos (by omega), if_pos hpg, vl (2 + p) (by omega), vl (2 + g + p) (by omega), show 3 + (p - 1) = 2 + p by omega, show 3 + g + (p - 1) = 2 + g + p by omega]
              · rw [if_neg (by omega), if_neg (by omega), if_neg hpg]; omega
          · rw [(rAcc_f l g t (g + 1) p).2]
            simp only [rOf, Led.setR]
            unfold keptN
            by_cases hp0 : p = 0
            · subst hp0
              rw [if_pos rfl, if_pos (by omega), if_pos rfl, vl 2 (by omega), f1]
            · rw [if_neg hp0, if_neg hp0, show 5 + p = 6 + (p - 1) by omega, fk _ (by omega)]
              by_cases hpg : p < g + 1
              · rw [if_pos (by omega), if_pos hpg, vl (2 + g + p) (by omega), show 3 + g + (p - 1) = 2 + g + p by omega]
              · rw [if_neg (by omega), if_neg hpg]
          · rw [(rAcc_s l g t (g + 1)).1, vl 0 (by omega)]
            exact f10
          · rw [(rAcc_s l g t (g + 1)).2]
            simp [rOf, Led.setR]
      · cases h
theorem ofL_blank {c g : Int} {l : List (ByteArray × ByteArray)} (hg0 : 0 ≤ g) (hg : g ≤ 4) : ∀ (k : Nat) (L : Led), ofL c g l k = some L → (∀ a, k ≤ a → (∀ j, L.f a j = 0) ∧ L.r a = ⟨#[]⟩) ∧ (∀ a (j : Nat), g ≤ (j : Int) → j < 4 → L.f a (2 + j) = 0 ∧ L.f a (6 + j) = 0)
  | 0, L, h => by cases h; exact ⟨fun a _ => ⟨fun j => rfl, rfl⟩, fun a j _ _ => ⟨rfl, rfl⟩⟩
  | k + 1, L, h => by
    rw [ofL] at h
    split at h
    · rename_i M a hM ha
      obtain ⟨i1, i2⟩ := ofL_blank hg0 hg k M hM
      split at h
      · split at h
        · rename_i t ht
          cases h
          have hgt : g.toNat ≤ 4 := by omega
          refine ⟨fun b hb => ⟨fun j => ?_, ?_⟩, fun b j hgj hj => ⟨?_, ?_⟩⟩
          · show (ldK M k a.2 g.toNat g.toNat).f b j = 0
            rw [ldK_f M k a.2 _ hgt _ hgt, if_neg (by omega)]
            exact (i1 b (by omega)).1 j
          · show (if b = k then t else (ldK M k a.2 g.toNat g.toNat).r b) = _
            rw [if_neg (by omega), ldK_r]
            exact (i1 b (by omega)).2
          · show (ldK M k a.2 g.toNat g.toNat).f b (2 + j) = 0
            rw [ldK_f M k a.2 _ hgt _ hgt]
            split
            · rw [if_neg (by omega), if_neg (by omega), if_neg (by omega), if_neg (by omega), if_neg (by omega)]; exact (i2 b j hgj hj).1
            · exact (i2 b j hgj hj).1
          · show (ldK M k a.2 g.toNat g.toNat).f b (6 + j) = 0
            rw [ldK_f M k a.2 _ hgt _ hgt]
            split
            · rw [if_neg (by omega), if_neg (by omega), if_neg (by omega), if_neg (by omega), if_neg (by omega)]; exact (i2 b j hgj hj).2
            · exact (i2 b j hgj hj).2
        · cases h
      · cases h
    · cases h
end Go.Pw
/- The reference's New. -/
set_option linter.unusedSimpArgs false
set_option linter.unusedVariables false
namespace Go.Pw
open Go Go.Proofs

/-- The accounts of a ledger, one behind the other. -/
def refL (L : Led) (n : Nat) : List Value := (List.range n).flatMap fun i => (rOf L i).cells.toList
theorem refL_len (L : Led) (n : Nat) : (refL L n).length = n * 12 := by
  unfold refL
  induction n with
  | zero => rfl
  | succ n ih => rw [List.range_succ, List.flatMap_append, List.length_append, ih]; simp [RAcc.cells]; omega
theorem refL_succ (L : Led) (n : Nat) : refL L (n + 1) = refL L n ++ (rOf L n).cells.toList := by
  unfold refL
  rw [List.range_succ, List.flatMap_append]; simp
theorem refL_at (L : Led) : ∀ (n i : Nat), i < n → ((refL L n).drop (i * 12)).take 12 = (rOf L i).cells.toList
  | 0, i, h => absurd h (by omega)
  | n + 1, i, h => by
    have hl := refL_len L n
    rw [refL_succ]
    by_cases e : i = n
    · subst e
      rw [List.drop_append_of_le_length (by omega), ← hl, List.drop_length, List.nil_append]
      rfl
    · rw [List.drop_append_of_le_length (by omega), List.take_append_of_le_length (by rw [List.length_drop]; omega)]
      exact refL_at L n i (by omega)
theorem refAt_ob {h0 h : PH} {L : Led} {sv : Value} (ob : OB 83 12 h0 L.n (refL L L.n) h sv) (hn : 0 < L.n) : ∃ q, h0 q = none ∧ RefAt h q (.agg #[.int .i64 L.goods, sv]) L := by
  rcases ob.buf with ⟨_, h1, _⟩ | ⟨q, c, cap, rfl, hq, hq0, hcs, hle, htk⟩
  · omega
  · refine ⟨q, hq0, c, cap, rfl, hq, hcs, hle, fun i hi => ?_⟩
    apply Array.toList_inj.1
    rw [← refL_at L L.n i hi, ← htk, Array.toList_extract, List.extract_eq_take_drop]
    rw [List.drop_take, List.take_take, show i * 12 + 12 - i * 12 = 12 by omega, Nat.min_eq_left (by omega)]

section
variable {h : PH} {R : AEnd → PH → Prop}
theorem fill_acc : Instr.fill (fun i => some (i * 12, 12)) (rep acc0 (1 * 12)) [(0, .agg acc0)] = some acc0 := by
  have e : Array.range 12 = #[0, 1, 2, 3, 4, 5, 6, 7, 8, 9, 10, 11] := by decide
  simp [Instr.fill, rep, Value.cells, e, acc0]
theorem rnew_bad {c g : Int} (hb : ¬ (1 ≤ c ∧ c ≤ 16 ∧ 1 ≤ g ∧ g ≤ 4)) (hR : R (.ret (.tuple #[.agg #[.int .i64 0, .slice none 0 0], .bool false])) h) : ACalls Try.prog 20 #[.int .i64 c, .int .i64 g] h R := by
  refine ACalls.drop (call20 ?_)
  unfold sh20
  refine vNew_gen fun a G1 ha s1 haa => vNew_gen fun b G hb' s2 hbb => ?_
  have st : vLoad (some 2) (ptr b) G fun t22 => vStore 2 (ptr a) t22 G fun h_9 => vLoad (some 2) (ptr a) h_9 fun rv => ∃ g, Sub g h_9 ∧ R (.ret (.tuple #[rv, (.bool false)])) g := by
    rw [vLoad_n hbb (by decide)]
    refine vStore_to (cs := #[.int .i64 0, .slice none 0 0]) (s2 _ _ haa) (by rfl) (by rfl) (by rfl) ?_
    rw [vLoad_n (ins_eq _ _ _) (by decide)]
    exact ⟨h, Sub.put (s1.trans s2) ha, hR⟩
  by_cases h1 : c < 1
  · simp [h1]; exact st
  · by_cases h2 : 16 < c
    · simp [h1, h2]; exact st
    · by_cases h3 : g < 1
      · simp [h1, h2, h3]; exact st
      · have h4 : 4 < g := by omega
        simp [h1, h2, h3, h4]; exact st
theorem rnew_ok {c g : Int} (hc1 : 1 ≤ c) (hc2 : c ≤ 16) (hg1 : 1 ≤ g) (hg2 : g ≤ 4)
    (hR : ∀ q v h', Sub h h' → h q = none → RefAt h' q v (newLed c g) → R (.ret (.tuple #[v, .bool true])) h') :
    ACalls Try.prog 20 #[.int .i64 c, .int .i64 g] h R := by
  refine call20 ?_
  unfold sh20
  refine vNew_gen fun a G1 ha s1 haa => vNew_gen fun b G hb s2 hbb => ?_
  have h1 : ¬ c < 1 := by omega
  have h2 : ¬ 16 < c := by omega
  have h3 : ¬ g < 1 := by omega
  have h4 : ¬ 4 < g := by omega
  simp [h1, h2, h3, h4]
  refine (vStore_1 hbb (by simp) rfl).2 ?_
  have hb1 := s1.fresh hb
  have haG := s2 _ _ haa
  have hab : a ≠ b := fun e => by rw [e] at haa; rw [haa] at hb; cases hb
  obtain ⟨G0, hG0⟩ : ∃ G0, G0 = G1 := ⟨_, rfl⟩
  -- the base: G1, with b laid beside
  have base : Sub G1 (ins G b (.cells #[.int .i64 g, .slice none 0 0] 52 (0, 0))) := Sub.put s2 hb
  have ob0 : OB 83 12 (ins G1 b (.cells #[.int .i64 g, .slice none 0 0] 52 (0, 0))) 0 (refL (newLed c g) 0) (ins G b (.cells #[.int .i64 g, .slice none 0 0] 52 (0, 0))) (.slice none 0 0) :=
    ⟨Sub.both s2, rfl, .inl ⟨rfl, rfl, rfl⟩⟩
  refine lf_intro (fun m s' g' => ∃ (i : Nat) (sv : Value), s' = .int .i64 i ∧ m = c.toNat - i ∧ i ≤ c.toNat ∧ OB 83 12 (ins G1 b (.cells #[.int .i64 g, sv] 52 (0, 0))) i (refL (newLed c g) i) g' sv) c.toNat ⟨0, _, rfl, rfl, by omega, ob0⟩ ?_
  rintro m s' g' ⟨i, sv, rfl, rfl, hi, hob⟩
  have hbg : g' b = some (.cells #[.int .i64 g, sv] 52 (0, 0)) := hob.sub _ _ (ins_eq _ _ _)
  by_cases hic : i < c.toNat
  · have key : ∀ (kn : (Value × Value × Value) → Value → PH → Prop) Kp x0, (∀ g2 sv2, OB 83 12 (ins G1 b (.cells #[.int .i64 g, sv2] 52 (0, 0))) (i + 1) (refL (newLed c g) (i + 1)) g2 sv2 → kn (.int .i64 c, ptr a, ptr b) (.int .i64 ((i : Int) + 1)) g2) →
        b20_6 Kp x0 (.int .i64 c, ptr a, ptr b) kn (.int .i64 i) g' := by
      intro kn Kp x0 hk
      unfold b20_6
      have hlt : (i : Int) < c := by omega
      simp only [vBin_lss, hlt, decide_true, dIf_b, vFA_p, Nat.zero_add]
      refine ⟨fun _ => ?_, fun e => absurd e (by simp)⟩
      rw [vLoad_1 hbg (v := sv) rfl]
      refine ⟨_, rfl, by omega, _, fill_acc, fun q hq => ⟨by omega, by omega, rfl, ?_⟩⟩
      have hobq := hob.up (sub_ins (h := g') (.cells acc0 83 (0, 0)) hq)
      refine ob_app (m := 1) (bytes := 104) (news := acc0.toList) hobq (by simp only [roomBytes]; omega) (by omega) rfl
        (fun K' hk' => .inr (.inr ⟨rfl, q, 0, 1, 1, _, _, _, rfl, ins_eq _ _ _, by simp [acc0], fun v hv => by simp [acc0] at hv; rcases hv with rfl | rfl <;> rfl, hk'⟩)) (fun b' off l' cc hx' gg cap' hs' => ?_) fun g2 sv2 ob2 => ?_
      · cases hx'
        intro ee
        rcases hob.buf with ⟨h1, _⟩ | ⟨g3, c3, cap3, h1, h2, _⟩
        · rw [h1] at hs'; cases hs'
        · rw [h1] at hs'; cases hs'
          rw [← ee, hq] at h2; cases h2
      · have hb2 := ob2.sub _ _ (ins_eq G1 b _)
        have one : sv2.oneCell' = true := by
          obtain ⟨p, cap, e⟩ := ob_len ob2
          rw [e]; rfl
        refine (vStore_1 hb2 (by simp) one).2 ?_
        simp only [vBin_add]
        rw [w64 (by omega) (by omega)]
        have := ob2.put2 (b := b) (o := .cells #[.int .i64 g, sv2] 52 (0, 0)) (ins_eq G1 b _) (sub_ins _ hb)
        rw [show acc0.toList = (rOf (newLed c g) i).cells.toList from rfl, ← refL_succ] at this
        exact hk _ sv2 this
    exact key _ _ _ fun g2 sv2 ob2 => ⟨rfl, c.toNat - (i + 1), by omega, i + 1, sv2, rfl, rfl, by omega, ob2⟩
  · have e : i = c.toNat := by omega
    subst e
    unfold b20_6
    have hnl : ¬ ((c.toNat : Int) < c) := by omega
    simp only [vBin_lss, hnl, decide_false, dIf_b]
    refine ⟨fun e => absurd e (by simp), fun _ => ?_⟩
    intro r hr
    simp only [Prod.mk.injEq] at hr
    rw [hr.1, hr.2, vLoad_n hbg (by simp)]
    have hag : g' a = some (.cells #[.int .i64 0, .slice none 0 0] 52 (0, 0)) := hob.sub _ _ (by rw [ins_ne _ _ hab]; exact haa)
    have one : sv.oneCell' = true := by
      obtain ⟨p, cap, e⟩ := ob_len hob
      rw [e]; rfl
    refine vStore_to (cs := #[.int .i64 g, sv]) hag (by rfl) (by rfl) (by simp [one]; rfl) ?_
    rw [vLoad_n (ins_eq _ _ _) (by simp)]
    obtain ⟨q, hq0, hra⟩ := refAt_ob (L := newLed c g) hob (by simp only [newLed]; omega)
    have hqa : q ≠ a := fun e => by rw [e, ins_ne _ _ hab, haa] at hq0; cases hq0
    have hqb : q ≠ b := fun e => by rw [e, ins_eq] at hq0; cases hq0
    have hq1 : h q = none := s1.fresh (by rw [ins_ne _ _ hqb] at hq0; exact hq0)
    refine hR q _ _ (Sub.put ((s1.trans (sub_ins _ hb)).trans hob.sub) ha) hq1 ?_
    obtain ⟨cc, cap, x1, x2, x3⟩ := hra
    exact ⟨cc, cap, x1, by rw [ins_ne _ _ hqa]; exact x2, x3⟩
end
end Go.Pw
/- The reference's Of. -/
set_option linter.unusedSimpArgs false
set_option linter.unusedVariables false
namespace Go.Pw
open Go Go.Proofs

theorem wr_extract {c : Array Value} {vs : List Value} {k m i : Nat} (hm : vs.length = m) (hk : k * m + m ≤ c.size) : (wr c (k * m) vs).extract (i * m) (i * m + m) = if i = k then vs.toArray else c.extract (i * m) (i * m + m) := by
  apply Array.ext_getElem?
  intro j
  rw [Array.getElem?_extract, wr_size]
  have hi : i < k ∨ i = k ∨ k < i := by omega
  rcases hi with hi | hi | hi
  · rw [if_neg (show ¬ i = k by omega), Array.getElem?_extract]
    have h1 : i * m + m ≤ k * m := by rw [← Nat.succ_mul]; exact Nat.mul_le_mul_right _ hi
    split
    · rw [wr_getElem, if_neg (by omega)]
    · rfl
  · subst hi
    rw [if_pos rfl]
    by_cases hj : j < m
    · rw [if_pos (by omega), wr_getElem, if_pos (by omega), show i * m + j - i * m = j by omega]
      simp
    · rw [if_neg (by omega), Array.getElem?_eq_none (by simp; omega)]
  · rw [if_neg (show ¬ i = k by omega), Array.getElem?_extract]
    have h1 : k * m + m ≤ i * m := by rw [← Nat.succ_mul]; exact Nat.mul_le_mul_right _ hi
    split
    · rw [wr_getElem, if_neg (by omega)]
    · rfl
theorem RAcc.one (a : RAcc) : a.cells.toList.all Value.oneCell' = true := rfl
theorem RefAt.st {h : PH} {q k : Nat} {v : Value} {L M : Led} {a : RAcc} (hr : RefAt h q v L) (hk : k < L.n) (hg : M.goods = L.goods) (hn : M.n = L.n) (ha : (rOf M k).cells = a.cells) (hne : ∀ i, i < L.n → i ≠ k → (rOf M i).cells = (rOf L i).cells)
    {K : PH → Prop} (hK : ∀ o, RefAt (ins h q o) q v M → K (ins h q o)) : vStore 12 (.pointer (some ⟨q, k * 12, none⟩)) (.agg a.cells) h K := by
  obtain ⟨c, cap, rfl, hq, hcs, hcap, hex⟩ := hr
  have hkc : k * 12 + 12 ≤ c.size := by
    rw [hcs, ← Nat.succ_mul]; exact Nat.mul_le_mul_right _ (by omega)
  rw [vStore_p (n := 12) (v := .agg a.cells) hq rfl hkc a.one]
  refine hK _ ⟨_, cap, by rw [hg, hn], ins_eq _ _ _, by rw [wr_size]; exact hcs, by rw [hn]; exact hcap, fun i hi => ?_⟩
  rw [hn] at hi
  rw [wr_extract (m := 12) rfl hkc]
  by_cases e : i = k
  · subst e
    rw [if_pos rfl, ha]; rfl
  · rw [if_neg e, hne i hi e]
    exact hex i hi
theorem RefAt.ldA {h : PH} {q i : Nat} {v : Value} {L : Led} {K : Value → Prop} (hr : RefAt h q v L) (hi : i < L.n) : vLoad (some 12) (.pointer (some ⟨q, i * 12, none⟩)) h K ↔ K (.agg (rOf L i).cells) := by
  obtain ⟨c, cap, rfl, hq, hcs, hcap, hex⟩ := hr
  rw [vLoad_n hq (by rw [hcs, ← Nat.succ_mul]; exact Nat.mul_le_mul_right _ (by omega)), hex i hi]

def rled0 : Array Value := #[.int .i64 0, .slice none 0 0]
theorem totP_ok {c g : Int} {l : List (ByteArray × ByteArray)} (hg0 : 0 ≤ g) (hg : g ≤ 4) {k : Nat} {L : Led} (h : ofL c g l k = some L) : totOK L ↔ ∀ p : Nat, (p : Int) ≤ g → totP L p ≤ 1099511627776 := by
  have hz : ∀ j : Nat, g ≤ (j : Int) → j < 4 → goodOf L j = 0 := fun j hj hj4 => by
    unfold goodOf
    have : ∀ n, sumN (fun i => L.f i (2 + j)) n = 0 := fun n => by
      induction n with
      | zero => rfl
      | succ n ih => rw [sumN, ih, ((ofL_blank hg0 hg k L h).2 n j hj hj4).1]; rfl
    exact this _
  unfold totOK
  constructor
  · rintro ⟨h0, h1⟩ p hp
    match p with
    | 0 => exact h0
    | j + 1 => rw [totP_g]; exact h1 j (by omega)
  · intro hp
    refine ⟨hp 0 (by omega), fun j hj => ?_⟩
    by_cases hjg : (j : Int) < g
    · have := hp (j + 1) (by omega)
      rw [totP_g] at this
      exact this
    · rw [hz j (by omega) hj]; omega

section
variable {h : PH} {R : AEnd → PH → Prop}
theorem rof_round {q t6 t8 : Nat} {vL : Array Value} {L : Led} {g' : PH} {c : Int} {g : Nat} {l : List (ByteArray × ByteArray)} {k : Nat} {p : Option Addr} {cap : Nat} {o6 : Array Value} (hr : RefAt g' q (.agg vL) L) (hc16 : c ≤ 16) (hg1 : 1 ≤ g) (hg4 : g ≤ 4)
    (h6 : g' t6 = some (.cells o6 52 (0, 0))) (h6s : o6.size = 2) (h8 : g' t8 = some (.cells vL 52 (0, 0))) (hq8 : q ≠ t8)
    (hk : k < l.length) (hlc : (l.length : Int) = c) (hof : ofL c g l k = some L) (hsz : ∀ a ∈ l, a.2.size < 4611686018427387000)
    (hel : ∀ i a, l[i]? = some a → ∃ b off c e fr, p = some ⟨b, off, none⟩ ∧ g' b = some (.cells c e fr) ∧ off + i * 2 + 2 ≤ c.size ∧ c.extract (off + i * 2) (off + i * 2 + 2) = #[.string a.1, .string a.2])
    (kn : (Value × Value × Value × Value × Value) → (Value × Value) → PH → Prop) (Kp : List PanicEntry → PH → Prop) (x0 xr : (Value × Value × Value × Value) → PH → Prop)
    (hno : ofL c g l (k + 1) = none → ∀ G, Sub g' G → xr (.int .i64 g, ptr t6, .int .i64 92, ptr t8) (ins G t6 (.cells rled0 52 (0, 0))))
    (hyes : ∀ M, ofL c g l (k + 1) = some M → ∀ G o, Sub g' G → RefAt (ins G q o) q (.agg vL) M → kn (.int .i64 c, .int .i64 g, .slice p l.length cap, ptr t6, ptr t8) (.int .i64 0, .int .i64 ((k : Int) + 1)) (ins G q o)) :
    b18_7 Kp x0 xr (.int .i64 c, .int .i64 g, .slice p l.length cap, ptr t6, ptr t8) kn (.int .i64 0, .int .i64 k) g' := by
  obtain ⟨a, ha⟩ : ∃ a, l[k]? = some a := ⟨_, List.getElem?_eq_getElem hk⟩
  obtain ⟨qb, off, cs, e, fr, rfl, hqb, hqs, hqe⟩ := hel k a ha
  obtain ⟨hLn, hLg⟩ := ofL_gn k L hof
  have hsa := hsz a (List.mem_of_getElem? ha)
  have hblank : Blank L k := ((ofL_blank (by omega) (by omega) k L hof).1 k (by omega)).1
  unfold b18_7
  have hlt : (k : Int) < c := by omega
  have c0 : cs[off + k * 2]? = some (.string a.1) := by
    have : (cs.extract (off + k * 2) (off + k * 2 + 2))[0]? = some (.string a.1) := by rw [hqe]; rfl
    rw [Array.getElem?_extract, if_pos (by omega)] at this
    exact this
  have c1 : cs[off + k * 2 + 1]? = some (.string a.2) := by
    have : (cs.extract (off + k * 2) (off + k * 2 + 2))[1]? = some (.string a.2) := by rw [hqe]; rfl
    rw [Array.getElem?_extract, if_pos (by omega)] at this
    exact this
  simp only [vBin_lss, hlt, decide_true, dIf_b]
  refine ⟨fun _ => ?_, fun e => absurd e (by simp)⟩
  simp only [vIxS_p, vFA_p]
  refine ⟨by omega, by omega, ?_⟩
  rw [show off + (k : Int).toNat * 2 + 1 = off + k * 2 + 1 by omega, vLoad_1 hqb c1]
  have hnone : rRead a.2 g = none → ofL c g l (k + 1) = none := fun hh => by
    have := rd_none (L := L) (k := k) hg4 hblank hh
    rw [ofL, hof, ha]
    simp only [Int.toNat_natCast]
    rw [this]
    split <;> rfl
  have tail : ∀ (G : PH), Sub g' G → ofL c g l (k + 1) = none → vBuild [(0, 1), (1, 1)] #[.int .i64 0, .slice none 0 0] [] fun t55 =>
      vStore 2 (ptr t6) t55 G fun h_13 => xr (.int .i64 g, ptr t6, .int .i64 92, ptr t8) h_13 := fun G hs hh => by
    refine ⟨_, rfl, ?_⟩
    refine vStore_to (cs := rled0) (hs _ _ h6) h6s (by rfl) (by rfl) ?_
    exact hno hh G hs
  refine rread_ok hsa (by omega) (fun hh acc => ?_) (fun nl t hh => ?_)
  · simp only [AEnd.elim, vExt_20, vExt_21]
    refine vNew_gen fun d G hd sd hdd => ?_
    refine vStore_to (cs := acc.cells) hdd (by rfl) (by rfl) acc.one ?_
    have := tail (ins G d (.cells acc.cells 83 (0, 0))) (Sub.put sd hd) (hnone hh)
    simp only [vUn_not, Bool.not_false, boolOf_b, gq_b, gd_b, Bool.true_eq_false, false_implies, ne_eq, not_false_eq_true, forall_const, true_and, and_true, boolOf_u, gq_n, gd_n, vPick_b, cond_true, dIf_b]
    exact this
  · simp only [AEnd.elim, vExt_20, vExt_21]
    refine vNew_gen fun d G hd sd hdd => ?_
    refine vStore_to (cs := (rAcc nl g t (g + 1)).cells) hdd (by rfl) (by rfl) (RAcc.one _) ?_
    obtain ⟨m1, m2⟩ := rd_some (L := L) (k := k) hg4 hblank hh
    have hsG : Sub g' (ins G d (.cells (rAcc nl g t (g + 1)).cells 83 (0, 0))) := Sub.put sd hd
    have hdG : (ins G d (.cells (rAcc nl g t (g + 1)).cells 83 (0, 0))) d = some (.cells (rAcc nl g t (g + 1)).cells 83 (0, 0)) := ins_eq _ _ _
    revert hsG hdG
    generalize (ins G d (.cells (rAcc nl g t (g + 1)).cells 83 (0, 0))) = G2
    intro hsG hdG
    simp only [vUn_not, Bool.not_true, boolOf_b, gq_b, gd_b, ne_eq, not_true_eq_false, forall_const, false_implies, and_true, vIxS_p, vFA_p, Nat.add_zero]
    refine ⟨by omega, by omega, ?_⟩
    rw [show off + (k : Int).toNat * 2 = off + k * 2 by omega, vLoad_1 (hsG _ _ hqb) c0]
    refine rkey_ok (by omega) ?_
    simp only [AEnd.elim]
    refine ⟨by rw [vLoad_1 (hsG _ _ hqb) c0], ?_⟩
    simp only [vBin_sneq, vPick_b, cond_false, dIf_b]
    refine ⟨fun hne => ?_, fun heq => ?_⟩
    · have hne' : ¬ a.1 = keyB k := by simpa using hne
      exact tail G2 hsG (by
        rw [ofL, hof, ha]
        simp only [if_neg hne'])
    · have hkey : a.1 = keyB k := by simpa using heq
      have hst : ofL c g l (k + 1) = some ((ldK L k a.2 g g).setR k t) := by
        rw [ofL, hof, ha]
        simp only [if_pos hkey, Int.toNat_natCast]
        rw [m1]
      obtain ⟨hn3, hg3⟩ := ldK_gn L k a.2 g g
      have hr2 := hr.sub hsG
      have hv1 : ∃ cap', vL = #[.int .i64 L.goods, .slice (some ⟨q, 0, none⟩) L.n cap'] := by
        obtain ⟨_, cap', e1, _⟩ := hr
        exact ⟨cap', by cases e1; rfl⟩
      obtain ⟨cap', e8⟩ := hv1
      rw [vLoad_1 (hsG _ _ h8) (v := .slice (some ⟨q, 0, none⟩) L.n cap') (by rw [e8]; rfl), vLoad_n hdG (by simp [RAcc.cells])]
      simp only [vIxS_p]
      refine ⟨by omega, by omega, ?_⟩
      rw [show 0 + (k : Int).toNat * 12 = k * 12 by omega]
      refine RefAt.st (M := (ldK L k a.2 g g).setR k t) (a := rAcc nl g t (g + 1)) hr2 (by omega) hg3 hn3 m2 (fun i hi hik => ?_) fun o hro => ?_
      · refine RAcc.cells_ext (fun p hp => ?_) (fun p hp => ?_) ?_ ?_
        · simp only [rOf, Led.setR, ldK_f L k a.2 g hg4 g hg4, if_neg hik]
        · simp only [rOf, Led.setR, ldK_f L k a.2 g hg4 g hg4, if_neg hik]
        · simp only [rOf, Led.setR, ldK_f L k a.2 g hg4 g hg4, if_neg hik]
        · simp only [rOf, Led.setR, if_neg hik, ldK_r]
      · simp only [vBin_add]
        rw [w64 (by omega) (by omega)]
        exact hyes _ hst G2 o hsG hro
theorem rof_ok {v : Value} {l : List (ByteArray × ByteArray)} {c g : Int} (hv : RecsAt h v l) (hsz : ∀ a ∈ l, a.2.size < 4611686018427387000)
    (harg : ¬ (1 ≤ c ∧ c ≤ 16 ∧ 1 ≤ g ∧ g ≤ 4) → R (.ret (.tuple #[.agg rled0, .int .i64 1])) h)
    (hno : (1 ≤ c ∧ c ≤ 16 ∧ 1 ≤ g ∧ g ≤ 4) → ofR c g l = none → R (.ret (.tuple #[.agg rled0, .int .i64 92])) h)
    (hyes : (1 ≤ c ∧ c ≤ 16 ∧ 1 ≤ g ∧ g ≤ 4) → ∀ L, ofR c g l = some L → ∀ q vL g', Sub h g' → RefAt g' q (.agg vL) L → R (.ret (.tuple #[.agg vL, .int .i64 0])) g') :
    ACalls Try.prog 18 #[.int .i64 c, .int .i64 g, v] h R := by
  refine ACalls.drop (call18 ?_)
  unfold sh18
  refine vNew_gen fun t6 G1 h6 s1 h66 => ?_
  by_cases hcg : 1 ≤ c ∧ c ≤ 16 ∧ 1 ≤ g ∧ g ≤ 4
  · obtain ⟨hc1, hc2, hg1, hg2⟩ := hcg
    have hno := hno ⟨hc1, hc2, hg1, hg2⟩
    have hyes := hyes ⟨hc1, hc2, hg1, hg2⟩
    clear harg
    refine rnew_ok hc1 hc2 hg1 hg2 fun q v0 G2 s2 hq0 hr0 => ?_
    simp only [AEnd.elim, vExt_20, vExt_21]
    refine vNew_gen fun t8 G3 h8 s3 h88 => ?_
    obtain ⟨vL, hvL⟩ : ∃ vL, v0 = .agg vL := by obtain ⟨_, _, e, _⟩ := hr0; exact ⟨_, e⟩
    subst hvL
    obtain ⟨cap0, hvv⟩ : ∃ cap', vL = #[.int .i64 g, .slice (some ⟨q, 0, none⟩) c.toNat cap'] := by
      obtain ⟨_, cap', e1, _⟩ := hr0
      exact ⟨cap', by cases e1; rfl⟩
    refine vStore_to (cs := vL) h88 (by rfl) (by rw [hvv]; rfl) (by rw [hvv]; rfl) ?_
    have hq2 : ∃ o, G2 q = some o := by obtain ⟨_, _, _, e, _⟩ := hr0; exact ⟨_, e⟩
    have hq8 : q ≠ t8 := fun e => by obtain ⟨o, ho⟩ := hq2; rw [e, h8] at ho; cases ho
    have hq6 : q ≠ t6 := fun e => by rw [e, h66] at hq0; cases hq0
    have h68 : t6 ≠ t8 := fun e => by have := s2 _ _ h66; rw [e, h8] at this; cases this
    have hqh : h q = none := s1.fresh hq0
    have h8h : h t8 = none := s1.fresh (s2.fresh h8)
    have g6 : (ins G3 t8 (.cells vL 52 (0, 0))) t6 = some (.cells rled0 52 (0, 0)) := by rw [ins_ne _ _ h68]; exact s3 _ _ (s2 _ _ h66)
    have g8 : (ins G3 t8 (.cells vL 52 (0, 0))) t8 = some (.cells vL 52 (0, 0)) := ins_eq _ _ _
    have gs : Sub h (ins G3 t8 (.cells vL 52 (0, 0))) := Sub.put ((s1.trans s2).trans s3) h8h
    have gr : RefAt (ins G3 t8 (.cells vL 52 (0, 0))) q (.agg vL) (newLed c g) := hr0.sub (Sub.put s3 h8)
    revert g6 g8 gs gr
    generalize ins G3 t8 (.cells vL 52 (0, 0)) = G
    intro g6 g8 gs gr
    obtain ⟨p, cap, rfl, hcap, hel⟩ := hv
    simp only [vUn_not, Bool.not_true, dIf_b, vLenS_s, vBin_neq]
    refine ⟨fun e => absurd e (by simp), fun _ => ?_⟩
    by_cases hlc : (l.length : Int) = c
    · simp only [hlc, decide_true, Bool.not_true]
      refine ⟨fun e => absurd e (by simp), fun _ => ?_⟩
      obtain ⟨gn, hgn⟩ : ∃ gn : Nat, g = gn := ⟨g.toNat, by omega⟩
      subst hgn
      have hnoR : ∀ k', ofL c gn l k' = none → k' ≤ l.length → R (.ret (.tuple #[.agg rled0, .int .i64 92])) h := fun k' hn hk' => hno (by
        unfold ofR
        rw [if_pos hlc]
        have : ofL c gn l c.toNat = none := by
          have := ofL_mono hn (l.length - k')
          rw [show k' + (l.length - k') = c.toNat by omega] at this
          exact this
        rw [this])
      have fail : ∀ G2, Sub h G2 → R (.ret (.tuple #[.agg rled0, .int .i64 92])) h → vLoad (some 2) (ptr t6) (ins G2 t6 (.cells rled0 52 (0, 0))) fun rv => ∃ g, Sub g (ins G2 t6 (.cells rled0 52 (0, 0))) ∧ R (.ret (.tuple #[rv, .int .i64 92])) g := fun G2 hs hR => by
        rw [vLoad_n (ins_eq _ _ _) (by decide)]
        exact ⟨h, Sub.put hs h6, hR⟩
      refine lf_intro (fun m s' g' => ∃ (k : Nat) (L : Led), s' = (.int .i64 0, .int .i64 k) ∧ m = l.length - k ∧ k ≤ l.length ∧ ofL c gn l k = some L ∧ Sub h g' ∧ RefAt g' q (.agg vL) L ∧
        g' t6 = some (.cells rled0 52 (0, 0)) ∧ g' t8 = some (.cells vL 52 (0, 0))) l.length ⟨0, newLed c gn, rfl, rfl, by omega, rfl, gs, gr, g6, g8⟩ ?_
      rintro m s' g' ⟨k, L, rfl, rfl, hk, hof, hsub, hr, e6, e8⟩
      by_cases hkl : k < l.length
      · refine rof_round hr hc2 (by omega) (by omega) e6 rfl e8 hq8 hkl hlc hof hsz (fun i a hi => ?_) _ _ _ _ (fun hn G2 hs2 => ?_) (fun M hM G2 o hs2 hr2 => ?_)
        · obtain ⟨b', off, cs, e, fr, q1, q2, q3⟩ := hel i a hi
          exact ⟨b', off, cs, e, fr, q1, hsub _ _ q2, q3⟩
        · intro r hr'
          simp only [Prod.mk.injEq] at hr'
          rw [hr'.2.1, hr'.2.2.1]
          exact fail G2 (hsub.trans hs2) (hnoR (k + 1) hn (by omega))
        · exact ⟨rfl, l.length - (k + 1), by omega, k + 1, M, rfl, rfl, by omega, hM, Sub.put (hsub.trans hs2) hqh, hr2, by rw [ins_ne _ _ (fun e => hq6 e.symm)]; exact hs2 _ _ e6, by rw [ins_ne _ _ (fun e => hq8 e.symm)]; exact hs2 _ _ e8⟩
      · have hke : k = l.length := by omega
        subst hke
        unfold b18_7
        have hnl : ¬ ((l.length : Int) < c) := by omega
        simp only [vBin_lss, hnl, decide_false, dIf_b]
        refine ⟨fun e => absurd e (by simp), fun _ => ?_⟩
        intro r hrr
        simp only [Prod.mk.injEq] at hrr
        obtain ⟨r1, r6, r7, r8⟩ := hrr
        rw [r1, r6, r7, r8]
        have hsm := ofL_small hc2 hg1 hg2 _ L hof
        have hof' : ofL c gn l c.toNat = some L := by rw [show c.toNat = l.length by omega]; exact hof
        have htot := totP_ok (by omega) hg2 hof
        refine lf_intro (fun m s' G4 => ∃ p : Nat, s' = (.int .i64 0, .int .i64 p) ∧ m = gn + 1 - p ∧ p ≤ gn + 1 ∧ G4 = g' ∧ ∀ j : Nat, j < p → totP L j ≤ 1099511627776) (gn + 1) ⟨0, rfl, rfl, by omega, rfl, fun j hj => absurd hj (by omega)⟩ ?_
        rintro m s' G4 ⟨p', rfl, rfl, hp', rfl, hall⟩
        have hlen2 : vL.size = 2 := by rw [hvv]; rfl
        have lv : ∀ {K : Value → Prop}, vLoad (some 2) (ptr t8) G4 K ↔ K (.agg vL) := fun {K} => by
          rw [vLoad_n e8 (by omega)]
          rw [show vL.extract 0 (0 + 2) = vL by rw [hvv]; rfl]
        by_cases hpg : p' ≤ gn
        · have key : ∀ (kn : (Value × Value × Value) → (Value × Value) → PH → Prop) Kp x0 (xr : (Value × Value × Value) → PH → Prop),
              (totP L p' ≤ 1099511627776 → kn (.int .i64 gn, ptr t6, ptr t8) (.int .i64 0, .int .i64 ((p' : Int) + 1)) G4) → (¬ totP L p' ≤ 1099511627776 → xr (ptr t6, .int .i64 92, ptr t8) (ins G4 t6 (.cells rled0 52 (0, 0)))) →
              b18_14 Kp x0 xr (.int .i64 gn, ptr t6, ptr t8) kn (.int .i64 0, .int .i64 p') G4 := by
            intro kn Kp x0 xr k1 k2
            unfold b18_14
            have hle : (p' : Int) ≤ (gn : Int) := by omega
            simp only [vBin_leq, hle, decide_true, dIf_b, lv]
            refine ⟨fun _ => ?_, fun e => absurd e (by simp)⟩
            refine rtotal_ok hr hsm (by omega) ?_
            simp only [AEnd.elim, vBin_gtr, dIf_b, decide_eq_true_eq, decide_eq_false_iff_not, vBin_add]
            rw [w64 (by omega) (by omega)]
            refine ⟨fun hgt => ⟨_, rfl, ?_⟩, fun hle => k1 (by omega)⟩
            refine vStore_to (cs := rled0) e6 (by rfl) (by rfl) (by rfl) ?_
            exact k2 (by omega)
          refine key _ _ _ _ (fun hle => ⟨rfl, gn + 1 - (p' + 1), by omega, p' + 1, rfl, rfl, by omega, rfl, fun j hj => ?_⟩) (fun hgt => ?_)
          · by_cases e : j = p'
            · subst e; exact hle
            · exact hall j (by omega)
          · intro r' hr'
            simp only [Prod.mk.injEq] at hr'
            rw [hr'.1, hr'.2.1]
            exact fail G4 hsub (hno (by
              unfold ofR; rw [if_pos hlc, hof']; simp only
              rw [if_neg (fun ht => hgt (htot.1 ht p' (by omega)))]))
        · have hpe : p' = gn + 1 := by omega
          subst hpe
          unfold b18_14
          have hnl2 : ¬ (((gn + 1 : Nat) : Int) ≤ (gn : Int)) := by omega
          simp only [vBin_leq, hnl2, decide_false, dIf_b]
          refine ⟨fun e => absurd e (by simp), fun _ => ?_⟩
          intro r' hr'
          simp only [Prod.mk.injEq] at hr'
          rw [hr'.1, hr'.2.2, lv]
          refine vStore_to (cs := vL) e6 (by rfl) (by omega) (by rw [hvv]; rfl) ?_
          rw [vLoad_n (ins_eq _ _ _) (by omega), show vL.extract 0 (0 + 2) = vL by rw [hvv]; rfl]
          refine ⟨_, Sub.refl _, hyes L (by unfold ofR; rw [if_pos hlc, hof']; simp only; rw [if_pos (htot.2 fun p hp => hall p (by omega))]) q vL _ (Sub.put hsub h6) ?_⟩
          obtain ⟨cc, cap2, x1, x2, x3⟩ := hr
          exact ⟨cc, cap2, x1, by rw [ins_ne _ _ hq6]; exact x2, x3⟩
    · simp only [hlc, decide_false, Bool.not_false]
      refine ⟨fun _ => ⟨_, rfl, ?_⟩, fun e => absurd e (by simp)⟩
      refine vStore_to (cs := rled0) g6 (by rfl) (by rfl) (by rfl) ?_
      rw [vLoad_n (ins_eq _ _ _) (by decide)]
      exact ⟨h, Sub.put gs h6, hno (by unfold ofR; rw [if_neg hlc])⟩
  · refine rnew_bad hcg ?_
    simp only [AEnd.elim, vExt_20, vExt_21]
    refine vNew_gen fun t8 G3 h8 s3 h88 => ?_
    refine vStore_to (cs := rled0) h88 (by rfl) (by rfl) (by rfl) ?_
    have h68 : t6 ≠ t8 := fun e => by rw [e, h8] at h66; cases h66
    simp only [vUn_not, Bool.not_false, dIf_b]
    refine ⟨fun _ => ?_, fun e => absurd e (by simp)⟩
    rw [vLoad_n (ins_eq _ _ _) (by decide)]
    refine vStore_to (cs := rled0) (by rw [ins_ne _ _ h68]; exact s3 _ _ h66) (by rfl) (by rfl) (by rfl) ?_
    rw [vLoad_n (ins_eq _ _ _) (by decide)]
    exact ⟨h, Sub.put (Sub.put (s1.trans s3) (s1.fresh h8)) h6, harg hcg⟩
end
end Go.Pw
/- The reference's ledger: one cell written, a copy, why an amount may not be asked for. -/
set_option linter.unusedSimpArgs false
set_option linter.unusedVariables false
namespace Go.Pw
open Go Go.Proofs

/-- The same to the reference. -/
structure Like (L M : Led) : Prop where
  g : M.goods = L.goods
  n : M.n = L.n
  f : ∀ i j, i < L.n → j < 11 → M.f i j = L.f i j
  r : ∀ i, i < L.n → M.r i = L.r i
theorem rOf_like {L M : Led} (hl : Like L M) {i : Nat} (hi : i < L.n) : (rOf M i).cells = (rOf L i).cells := by
  refine RAcc.cells_ext (fun p hp => ?_) (fun p hp => ?_) ?_ ?_
  · simp only [rOf]
    rw [hl.f i 0 hi (by omega), hl.f i 1 hi (by omega), hl.f i (1 + p) hi (by omega), hl.f i (5 + p) hi (by omega)]
  · simp only [rOf]
    rw [hl.f i 1 hi (by omega), hl.f i (5 + p) hi (by omega)]
  · exact hl.f i 10 hi (by omega)
  · exact hl.r i hi
theorem RefAt.like {h : PH} {q : Nat} {v : Value} {L M : Led} (hr : RefAt h q v L) (hl : Like L M) : RefAt h q v M := by
  obtain ⟨c, cap, e, hq, hcs, hcap, hex⟩ := hr
  exact ⟨c, cap, by rw [hl.g, hl.n]; exact e, hq, hcs, by rw [hl.n]; exact hcap, fun i hi => by rw [hl.n] at hi; rw [rOf_like hl hi]; exact hex i hi⟩
theorem set_extract {c d : Array Value} {i k j : Nat} {x : Value} (he : c.extract (i * 12) (i * 12 + 12) = d) (hj : j < 12) (hk : k * 12 + 12 ≤ c.size) : (c.setIfInBounds (k * 12 + j) x).extract (i * 12) (i * 12 + 12) = if i = k then d.setIfInBounds j x else d := by
  subst he
  apply Array.ext_getElem?
  intro m
  rw [Array.getElem?_extract, Array.size_setIfInBounds]
  by_cases e : i = k
  · subst e
    rw [if_pos rfl]
    by_cases hm : m < 12
    · rw [if_pos (by omega)]
      by_cases hmj : j = m
      · subst hmj
        rw [Array.getElem?_setIfInBounds_self_of_lt (by omega), Array.getElem?_setIfInBounds_self_of_lt (by rw [Array.size_extract]; omega)]
      · rw [Array.getElem?_setIfInBounds_ne (by omega), Array.getElem?_setIfInBounds_ne (by omega), Array.getElem?_extract, if_pos (by omega)]
    · rw [if_neg (by omega), Array.getElem?_eq_none (by rw [Array.size_setIfInBounds, Array.size_extract]; omega)]
  · rw [if_neg e, Array.getElem?_extract]
    by_cases hm : m < min (i * 12 + 12) c.size - i * 12
    · rw [if_pos hm, if_pos hm, Array.getElem?_setIfInBounds_ne (by omega)]
    · rw [if_neg hm, if_neg hm]
theorem RefAt.st1 {h : PH} {q i j : Nat} {v x : Value} {L M : Led} (hr : RefAt h q v L) (hi : i < L.n) (hj : j < 12) (ho : x.oneCell' = true) (hg : M.goods = L.goods) (hn : M.n = L.n) (hM : (rOf M i).cells = (rOf L i).cells.setIfInBounds j x) (hne : ∀ k, k < L.n → k ≠ i → (rOf M k).cells = (rOf L k).cells)
    {K : PH → Prop} (hK : ∀ o, RefAt (ins h q o) q v M → K (ins h q o)) : vStore 1 (.pointer (some ⟨q, i * 12 + j, none⟩)) x h K := by
  obtain ⟨c, cap, rfl, hq, hcs, hcap, hex⟩ := hr
  have hic : i * 12 + 12 ≤ c.size := by
    rw [hcs, ← Nat.succ_mul]; exact Nat.mul_le_mul_right _ (by omega)
  rw [vStore_1 hq (by omega) ho]
  refine hK _ ⟨_, cap, by rw [hg, hn], ins_eq _ _ _, by rw [Array.size_setIfInBounds]; exact hcs, by rw [hn]; exact hcap, fun k hk => ?_⟩
  rw [hn] at hk
  rw [set_extract (hex k hk) hj hic]
  by_cases e : k = i
  · subst e
    rw [if_pos rfl, hM]
  · rw [if_neg e, hne k hk e]
theorem RefAt.ld1 {h : PH} {q i j : Nat} {v u : Value} {L : Led} (hr : RefAt h q v L) (hi : i < L.n) (hj : j < 12) (hu : (rOf L i).cells[j]? = some u) {K : Value → Prop} : vLoad none (.pointer (some ⟨q, i * 12 + j, none⟩)) h K ↔ K u := by
  obtain ⟨c, cap, rfl, hq, hcs, hcap, hex⟩ := hr
  exact vLoad_1 hq (ext_get (hex i hi) hj hu)

/-! ### all and kept, by parts -/
def allIx (p : Nat) : Nat := if p = 0 then 0 else 1 + p
def keptIx (p : Nat) : Nat := if p = 0 then 1 else 5 + p
/-- So much more (or less) of what is free. -/
def addF (L : Led) (i p : Nat) (n : Int) : Led := L.set i (allIx p) (L.f i (allIx p) + n)
/-- So much more (or less) of what is kept. -/
def addK (L : Led) (i p : Nat) (n : Int) : Led := (L.set i (keptIx p) (L.f i (keptIx p) + n)).set i (allIx p) (L.f i (allIx p) + n)
theorem addF_self {L : Led} {i p : Nat} {n : Int} (hp : p ≤ 4) : (rOf (addF L i p n) i).cells = (rOf L i).cells.setIfInBounds p (.int .i64 ((rOf L i).free p + n)) := by
  rw [RAcc.setF_cells _ _ _ (by omega)]
  refine RAcc.cells_ext (fun p' hp' => ?_) (fun p' hp' => ?_) ?_ rfl
  · simp only [rOf, addF, Led.set, RAcc.setF, allIx]
    grind
  · simp only [rOf, addF, Led.set, RAcc.setF, allIx]
    grind
  · simp only [rOf, addF, Led.set, RAcc.setF, allIx]
    grind
theorem addF_other {L : Led} {i p k : Nat} {n : Int} (hk : k ≠ i) : (rOf (addF L i p n) k).cells = (rOf L k).cells := by
  refine RAcc.cells_ext (fun p' hp' => ?_) (fun p' hp' => ?_) ?_ rfl <;> simp [rOf, addF, Led.set, hk]
theorem addK_self {L : Led} {i p : Nat} {n : Int} (hp : p ≤ 4) : (rOf (addK L i p n) i).cells = (rOf L i).cells.setIfInBounds (5 + p) (.int .i64 ((rOf L i).kept p + n)) := by
  rw [RAcc.setK_cells _ _ _ (by omega)]
  refine RAcc.cells_ext (fun p' hp' => ?_) (fun p' hp' => ?_) ?_ rfl
  · simp only [rOf, addK, Led.set, RAcc.setK, allIx, keptIx]
    grind
  · simp only [rOf, addK, Led.set, RAcc.setK, allIx, keptIx]
    grind
  · simp only [rOf, addK, Led.set, RAcc.setK, allIx, keptIx]
    grind
theorem addK_other {L : Led} {i p k : Nat} {n : Int} (hk : k ≠ i) : (rOf (addK L i p n) k).cells = (rOf L k).cells := by
  refine RAcc.cells_ext (fun p' hp' => ?_) (fun p' hp' => ?_) ?_ rfl <;> simp [rOf, addK, Led.set, hk]

theorem refL_of {c : Array Value} {L : Led} : ∀ n, n * 12 ≤ c.size → (∀ i, i < n → c.extract (i * 12) (i * 12 + 12) = (rOf L i).cells) → c.toList.take (n * 12) = refL L n
  | 0, _, _ => by simp [refL]
  | n + 1, hc, hex => by
    rw [refL_succ, ← refL_of n (by omega) (fun i hi => hex i (by omega)), ← hex n (by omega), Array.toList_extract, List.extract_eq_take_drop]
    rw [show (n + 1) * 12 = n * 12 + 12 by omega, List.take_add, show n * 12 + 12 - n * 12 = 12 by omega]
theorem refL_one (L : Led) (n : Nat) : ∀ v ∈ refL L n, v.oneCell' = true := by
  intro v hv
  unfold refL at hv
  obtain ⟨i, _, hi⟩ := List.mem_flatMap.1 hv
  exact List.all_eq_true.1 (rOf L i).one v hi

/-- Why an amount of a part may not be asked for. -/
def refE (L : Led) (who p n : Int) : Int := if who < 0 ∨ (L.n : Int) ≤ who then 60 else if 0 ≤ p ∧ p ≤ L.goods ∧ 1 ≤ n ∧ n ≤ 1099511627776 then 0 else 1

section
variable {h : PH} {R : AEnd → PH → Prop} {q : Nat} {vL : Array Value} {L : Led}
theorem RefAt.val (hr : RefAt h q (.agg vL) L) : ∃ cap, vL = #[.int .i64 L.goods, .slice (some ⟨q, 0, none⟩) L.n cap] ∧ L.n ≤ cap := by
  obtain ⟨_, cap, e1, _, _, hc, _⟩ := hr
  exact ⟨cap, by cases e1; rfl, hc⟩
theorem rcopy_ok (hr : RefAt h q (.agg vL) L) (hn : 0 < L.n) (hn16 : L.n ≤ 16) (hR : ∀ q' v' h', Sub h h' → h q' = none → RefAt h' q' (.agg v') L → R (.ret (.agg v')) h') : ACalls Try.prog 63 #[.agg vL] h R := by
  refine call63 ?_
  unfold sh63
  obtain ⟨cap, rfl, hcap⟩ := hr.val
  simp only [Value.cells]
  refine vNew_gen fun a G1 ha s1 haa => vNew_gen fun b G hb s2 hbb => ?_
  have hs := s1.trans s2
  have g1 := s2 _ _ haa
  simp only [vFA_p, Nat.zero_add]
  rw [vLoad_1 g1 (v := .slice (some ⟨q, 0, none⟩) L.n cap) rfl]
  obtain ⟨c, cap2, e1, hq, hcs, hcap2, hex⟩ := hr
  simp only [Value.agg.injEq, Array.mk.injEq, List.cons.injEq, Value.slice.injEq, and_true, true_and] at e1
  have hcn : L.n * 12 ≤ c.size := by rw [hcs]; exact Nat.mul_le_mul_right _ hcap2
  have hl := refL_of L.n hcn hex
  refine ⟨by omega, by omega, rfl, ?_⟩
  have ob0 : OB 83 12 G 0 [] G (.slice none 0 0) := ⟨Sub.refl G, rfl, .inl ⟨rfl, rfl, rfl⟩⟩
  refine ob_app (m := L.n) (news := refL L L.n) ob0 (by simp only [roomBytes]; omega) hn (refL_len L L.n)
    (fun K' hk' => .inr (.inr ⟨rfl, q, 0, L.n, cap, _, _, _, rfl, hs _ _ hq, by omega, by rw [List.drop_zero, hl]; exact refL_one L L.n, by rw [List.drop_zero, hl]; exact hk'⟩)) (fun b' off l' cc hx' gg cap' hs' => by cases hs') fun h3 s3 ob1 => ?_
  rw [Nat.zero_add, List.nil_append] at ob1
  obtain ⟨q', hq', hra⟩ := refAt_ob ob1 hn
  have ga := ob1.sub _ _ g1
  have gb := ob1.sub _ _ hbb
  rw [vLoad_1 ga (v := .int .i64 L.goods) rfl]
  obtain ⟨p3, cap3, e3⟩ := ob_len ob1
  subst e3
  refine ⟨_, rfl, ?_⟩
  refine vStore_to (cs := #[.int .i64 L.goods, .slice p3 L.n cap3]) gb (by rfl) (by rfl) (by rfl) ?_
  rw [vLoad_n (ins_eq _ _ _) (by simp)]
  have hqb : q' ≠ b := fun e => by rw [e, hbb] at hq'; cases hq'
  refine hR q' _ _ (Sub.put (hs.trans ob1.sub) (s1.fresh hb)) (hs.fresh hq') ?_
  obtain ⟨cc, cap3, x1, x2, x3⟩ := hra
  exact ⟨cc, cap3, x1, by rw [ins_ne _ _ hqb]; exact x2, x3⟩

theorem rrefused_ok (hr : RefAt h q (.agg vL) L) {who p n : Int} (hR : R (.ret (.int .i64 (refE L who p n))) h) : ACalls Try.prog 62 #[.agg vL, .int .i64 who, .int .i64 p, .int .i64 n] h R := by
  refine ACalls.drop (call62 ?_)
  unfold sh62
  obtain ⟨cap, rfl, hcap⟩ := hr.val
  simp only [Value.cells]
  refine vNew_gen fun a G ha s1 haa => ?_
  have l1 : ∀ {K : Value → Prop}, vLoad none (.pointer (some ⟨a, 0 + 1, none⟩)) G K ↔ K (.slice (some ⟨q, 0, none⟩) L.n cap) := fun {K} => vLoad_1 haa rfl
  have l0 : ∀ {K : Value → Prop}, vLoad none (.pointer (some ⟨a, 0 + 0, none⟩)) G K ↔ K (.int .i64 L.goods) := fun {K} => vLoad_1 haa rfl
  have fin : R (.ret (.int .i64 (refE L who p n))) h → ∀ e, e = refE L who p n → ∃ g, Sub g G ∧ R (.ret (.int .i64 e)) g := fun hR e he => ⟨h, s1, by rw [he]; exact hR⟩
  have fin := fin hR
  clear hR
  obtain ⟨b1, hb1⟩ : ∃ b1, b1 = decide (who < 0) := ⟨_, rfl⟩
  obtain ⟨b2, hb2⟩ : ∃ b2, b2 = decide ((L.n : Int) ≤ who) := ⟨_, rfl⟩
  obtain ⟨b3, hb3⟩ : ∃ b3, b3 = decide (p < 0) := ⟨_, rfl⟩
  obtain ⟨b4, hb4⟩ : ∃ b4, b4 = decide (L.goods < p) := ⟨_, rfl⟩
  obtain ⟨b5, hb5⟩ : ∃ b5, b5 = decide (n < 1) := ⟨_, rfl⟩
  obtain ⟨b6, hb6⟩ : ∃ b6, b6 = decide (1099511627776 < n) := ⟨_, rfl⟩
  have n1 : ∀ {K : Value → Prop}, vBin Try.prog .lss 3 (.int .i64 who) (.int .i64 0) K ↔ K (.bool b1) := fun {K} => by rw [hb1]; exact vBin_lss _ _ _ _
  have n2 : ∀ {K : Value → Prop}, vBin Try.prog .geq 3 (.int .i64 who) (.int .i64 (L.n : Int)) K ↔ K (.bool b2) := fun {K} => by rw [hb2]; exact vBin_geq _ _ _ _
  have n3 : ∀ {K : Value → Prop}, vBin Try.prog .lss 3 (.int .i64 p) (.int .i64 0) K ↔ K (.bool b3) := fun {K} => by rw [hb3]; exact vBin_lss _ _ _ _
  have n4 : ∀ {K : Value → Prop}, vBin Try.prog .gtr 3 (.int .i64 p) (.int .i64 L.goods) K ↔ K (.bool b4) := fun {K} => by rw [hb4]; exact vBin_gtr _ _ _ _
  have n5 : ∀ {K : Value → Prop}, vBin Try.prog .lss 3 (.int .i64 n) (.int .i64 1) K ↔ K (.bool b5) := fun {K} => by rw [hb5]; exact vBin_lss _ _ _ _
  have n6 : ∀ {K : Value → Prop}, vBin Try.prog .gtr 3 (.int .i64 n) (.int .i64 1099511627776) K ↔ K (.bool b6) := fun {K} => by rw [hb6]; exact vBin_gtr _ _ _ _
  have h60 : (b1 || b2) = true → ∃ g, Sub g G ∧ R (.ret (.int .i64 60)) g := fun hh => fin 60 (by
    unfold refE; rw [if_pos]
    rw [hb1, hb2] at hh
    simpa using hh)
  have h1 : (b1 || b2) = false → (b3 || b4 || b5 || b6) = true → ∃ g, Sub g G ∧ R (.ret (.int .i64 1)) g := fun h0 hh => fin 1 (by
    rw [hb1, hb2] at h0
    rw [hb3, hb4, hb5, hb6] at hh
    simp only [Bool.or_eq_false_iff, Bool.or_eq_true, decide_eq_true_eq, decide_eq_false_iff_not] at h0 hh
    unfold refE; rw [if_neg (by omega), if_neg (by omega)])
  have h0 : (b1 || b2) = false → (b3 || b4 || b5 || b6) = false → ∃ g, Sub g G ∧ R (.ret (.int .i64 0)) g := fun h0 hh => fin 0 (by
    rw [hb1, hb2] at h0
    rw [hb3, hb4, hb5, hb6] at hh
    simp only [Bool.or_eq_false_iff, decide_eq_false_iff_not] at h0 hh
    unfold refE; rw [if_neg (by omega), if_pos (by omega)])
  clear hb1 hb2 hb3 hb4 hb5 hb6 fin
  cases b1 <;> cases b2 <;> cases b3 <;> cases b4 <;> cases b5 <;> cases b6 <;>
    simp only [n1, n2, n3, n4, n5, n6, ne_eq, boolOf_b, gq_b, Bool.false_eq_true, Bool.true_eq_false, forall_const, not_true_eq_false, not_false_eq_true, false_implies, and_true, true_and, vFA_p, l0, l1, vLenS_s, vPick_b, cond_false, cond_true, boolOf_u, gq_n, dIf_b] <;>
    first | exact h60 rfl | exact h1 rfl rfl | exact h0 rfl rfl
theorem rpart_ok {g : Int} (hR : R (.ret (.int .i64 (if g < 0 ∨ 3 < g then -1 else g + 1))) h) : ACalls Try.prog 47 #[.int .i64 g] h R := by
  refine call47 ?_
  unfold sh47
  by_cases h1 : g < 0
  · simp only [h1, true_or, if_true] at hR
    simp [h1, hR]
  · by_cases h2 : 3 < g
    · simp only [h2, or_true, if_true] at hR
      simp [h1, h2, hR]
    · rw [if_neg (by omega)] at hR
      simp [h1, h2]
      rw [w64 (by omega) (by omega)]
      exact hR
end
end Go.Pw
/- The reference's calls: more, less, kept, over to another one, a mark. -/
set_option linter.unusedSimpArgs false
set_option linter.unusedVariables false
namespace Go.Pw
open Go Go.Proofs

theorem RefAt.ins {h : PH} {q b : Nat} {v : Value} {L : Led} {o : Obj} (hr : RefAt h q v L) (hq : q ≠ b) : RefAt (ins h b o) q v L := by
  obtain ⟨c, cap, e, x, y⟩ := hr
  exact ⟨c, cap, e, by rw [ins_ne _ _ hq]; exact x, y⟩
theorem RefAt.ne {h : PH} {q b : Nat} {v : Value} {L : Led} (hr : RefAt h q v L) (hb : h b = none) : q ≠ b := fun e => by
  obtain ⟨c, cap, _, x, _⟩ := hr
  rw [e, hb] at x; cases x
theorem RefAt.two {h : PH} {q : Nat} {vL : Array Value} {L : Led} (hr : RefAt h q (.agg vL) L) : vL.size = 2 ∧ vL.toList.all Value.oneCell' = true ∧ vL.extract 0 (0 + 2) = vL := by
  obtain ⟨cap, rfl, _⟩ := hr.val
  exact ⟨rfl, rfl, rfl⟩
theorem ret2 {G : PH} {t4 t8 : Nat} {v o : Array Value} {T : TypeId} {K : Value → PH → Prop} (h4 : G t4 = some (.cells v T (0, 0))) (h8 : G t8 = some (.cells o T (0, 0))) (ho : o.size = 2) (hv : v.size = 2 ∧ v.toList.all Value.oneCell' = true ∧ v.extract 0 (0 + 2) = v) (hk : K (.agg v) (ins G t8 (.cells v T (0, 0)))) :
    vLoad (some 2) (ptr t4) G fun t => vStore 2 (ptr t8) t G fun h' => vLoad (some 2) (ptr t8) h' fun rv => K rv h' := by
  rw [vLoad_n h4 (by omega), hv.2.2]
  refine vStore_to (cs := v) h8 ho hv.1 hv.2.1 ?_
  rw [vLoad_n (ins_eq _ _ _) (by omega), hv.2.2]
  exact hk
theorem refE_0 {L : Led} {who p n : Int} (h : refE L who p n = 0) (hg : L.goods ≤ 4) : ∃ (i pn : Nat), who = i ∧ i < L.n ∧ p = pn ∧ pn ≤ 4 ∧ (pn : Int) ≤ L.goods ∧ 1 ≤ n ∧ n ≤ 1099511627776 := by
  unfold refE at h
  split at h
  · cases h
  · split at h
    · exact ⟨who.toNat, p.toNat, by omega, by omega, by omega, by omega, by omega, by omega, by omega⟩
    · cases h

def inL (L : Led) (who p n : Int) : Int × Led := if refE L who p n ≠ 0 then (refE L who p n, L) else if 1099511627776 - n < totP L p.toNat then (62, L) else (0, addF L who.toNat p.toNat n)
def outL (L : Led) (who p n : Int) : Int × Led := if refE L who p n ≠ 0 then (refE L who p n, L) else if (rOf L who.toNat).free p.toNat < n then (61, L) else (0, addF L who.toNat p.toNat (-n))
def keepL (L : Led) (who p n : Int) : Int × Led := if (outL L who p n).1 ≠ 0 then outL L who p n else (0, addK (outL L who p n).2 who.toNat p.toNat n)
def overL (L : Led) (a b p n : Int) : Int × Led := if a < 0 ∨ (L.n : Int) ≤ a then (60, L) else if refE L b p n ≠ 0 then (refE L b p n, L) else if (rOf L a.toNat).kept p.toNat < n then (61, L) else (0, addF (addK L a.toNat p.toNat (-n)) b.toNat p.toNat n)
def rmarkL (L : Led) (who s : Int) (t : ByteArray) : Int × Led := if who < 0 ∨ (L.n : Int) ≤ who then (60, L) else markL L who.toNat s t

section
variable {h : PH} {R : AEnd → PH → Prop} {q : Nat} {vL : Array Value} {L : Led}
/-- A copy laid into a block of one's own. -/
theorem own_t {h' : PH} {q' : Nat} {v' : Array Value} {K : Value → PH → Prop} (hra : RefAt h' q' (.agg v') L)
    (hk : ∀ t G cap', Sub h' G → q' ≠ t → G t = some (.cells v' 52 (0, 0)) → RefAt G q' (.agg v') L → (∀ {K : Value → Prop}, vLoad none (.pointer (some ⟨t, 0 + 1, none⟩)) G K ↔ K (.slice (some ⟨q', 0, none⟩) L.n cap')) → K (ptr t) G) :
    vNew rled0 52 h' fun t h1 => vStore 2 t (.agg v') h1 fun h2 => K t h2 := by
  obtain ⟨cap', e', _⟩ := hra.val
  have two' := hra.two
  refine vNew_gen fun t G3 h11 s3 h1111 => ?_
  refine vStore_to (cs := v') h1111 (by rfl) two'.1 two'.2.1 ?_
  exact hk t _ cap' (Sub.put s3 h11) (hra.ne h11) (ins_eq _ _ _) ((hra.sub s3).ins (hra.ne h11)) fun {K} => vLoad_1 (ins_eq _ _ _) (by rw [e']; rfl)
/-- The copy, written, is handed back. -/
theorem done_t {G h' G4 : PH} {q' t8 t11 : Nat} {v' : Array Value} {o : Obj} {e : Int} {M : Led} (hsG : Sub h G) (sc : Sub G h') (sG : Sub h' G4) (hq' : G q' = none) (h88 : G t8 = some (.cells rled0 52 (0, 0))) (h8 : h t8 = none)
    (hq11 : q' ≠ t11) (g11 : G4 t11 = some (.cells v' 52 (0, 0))) (hro : RefAt (ins G4 q' o) q' (.agg v') M) (two' : v'.size = 2 ∧ v'.toList.all Value.oneCell' = true ∧ v'.extract 0 (0 + 2) = v')
    (hR : ∀ q2 v2 h2, Sub h h2 → RefAt h2 q2 (.agg v2) M → G q2 = none → R (.ret (.tuple #[.agg v2, .int .i64 e])) h2) :
    vLoad (some 2) (ptr t11) (ins G4 q' o) fun t => vStore 2 (ptr t8) t (ins G4 q' o) fun h' => vLoad (some 2) (ptr t8) h' fun rv => R (.ret (.tuple #[rv, .int .i64 e])) h' := by
  have hqt8 : q' ≠ t8 := fun e => by rw [e, h88] at hq'; cases hq'
  have f11 : (ins G4 q' o) t11 = some (.cells v' 52 (0, 0)) := by rw [ins_ne _ _ (fun e => hq11 e.symm)]; exact g11
  have f8 : (ins G4 q' o) t8 = some (.cells rled0 52 (0, 0)) := by rw [ins_ne _ _ (fun e => hqt8 e.symm)]; exact sG _ _ (sc _ _ h88)
  refine ret2 (K := fun rv h' => R (.ret (.tuple #[rv, .int .i64 e])) h') f11 f8 (by rfl) two' ?_
  exact hR q' v' _ (Sub.put (Sub.put ((hsG.trans sc).trans sG) (hsG.fresh hq')) h8) (hro.ins hqt8) hq'
theorem rin_ok (hr : RefAt h q (.agg vL) L) (hs : L.small) (hn : 0 < L.n) {who p n : Int} (hR : ∀ q' v' h', Sub h h' → RefAt h' q' (.agg v') (inL L who p n).2 → R (.ret (.tuple #[.agg v', .int .i64 (inL L who p n).1])) h') :
    ACalls Try.prog 45 #[.agg vL, .int .i64 who, .int .i64 p, .int .i64 n] h R := by
  refine call45 ?_
  unfold sh45
  have two := hr.two
  simp only [Value.cells]
  refine vNew_gen fun t4 G1 h4 s1 h44 => vNew_gen fun t8 G h8 s2 h88 => ?_
  have g4 := s2 _ _ h44
  have hsG := s1.trans s2
  have hq8 : q ≠ t8 := (hr.sub s1).ne h8
  have lv : ∀ {K : Value → Prop}, vLoad (some 2) (ptr t4) G K ↔ K (.agg vL) := fun {K} => by rw [vLoad_n g4 (by omega), two.2.2]
  have quit : ∀ e, (e, L) = inL L who p n → (vLoad (some 2) (ptr t4) G fun t => vStore 2 (ptr t8) t G fun h' => vLoad (some 2) (ptr t8) h' fun rv => R (.ret (.tuple #[rv, .int .i64 e])) h') := fun e he => by
    refine ret2 (K := fun rv h' => R (.ret (.tuple #[rv, .int .i64 e])) h') g4 h88 (by rfl) two ?_
    have := hR q vL (ins G t8 (.cells vL 52 (0, 0))) (Sub.put hsG (s1.fresh h8)) (by rw [← he]; exact (hr.sub hsG).ins hq8)
    rw [← he] at this
    exact this
  rw [lv]
  refine rrefused_ok (hr.sub hsG) ?_
  simp only [AEnd.elim, vBin_neq, dIf_b]
  refine ⟨fun hne => quit _ ?_, fun heq => ?_⟩
  · have : refE L who p n ≠ 0 := by simpa using hne
    unfold inL; rw [if_pos this]
  · have h0 : refE L who p n = 0 := by simpa using heq
    obtain ⟨i, pn, rfl, hi, rfl, hp4, hpg, hn1, hn2⟩ := refE_0 h0 hs.gd
    have hun : inL L i pn n = if 1099511627776 - n < totP L pn then (62, L) else (0, addF L i pn n) := by
      unfold inL; rw [if_neg (by rw [h0]; simp)]; rfl
    have bT := totP_bd hs hp4 (Nat.le_refl L.n)
    rw [lv]
    refine rtotal_ok (hr.sub hsG) hs hp4 ?_
    simp only [AEnd.elim, vBin_sub, vBin_gtr, dIf_b, decide_eq_true_eq, decide_eq_false_iff_not]
    rw [w64 (by omega) (by omega)]
    refine ⟨fun hgt => quit 62 (by rw [hun, if_pos hgt]), fun hle => ?_⟩
    rw [if_neg hle] at hun
    rw [lv]
    refine rcopy_ok (hr.sub hsG) hn hs.cl fun q' v' h' sc hq' hra => ?_
    simp only [AEnd.elim]
    refine own_t hra fun t11 G4 cap' sG hq11 g11 hra2 l1 => ?_
    have bF := rOf_bd hs hp4 hi
    simp only [vFA_p, l1, vIxS_p, vIxA_p]
    refine ⟨by omega, by omega, by omega, by omega, ?_⟩
    rw [show 0 + (i : Int).toNat * 12 + 0 + (pn : Int).toNat * 1 = i * 12 + pn by omega, hra2.ld1 hi (by omega) ((rOf L i).at_free hp4)]
    simp only [vBin_add, vIxS_p, vFA_p, vIxA_p]
    refine ⟨by omega, by omega, by omega, by omega, ?_⟩
    rw [w64 (by omega) (by omega)]
    refine hra2.st1 (M := addF L i pn n) hi (by omega) rfl rfl rfl (addF_self hp4) (fun k _ hk => addF_other hk) fun o hro => ?_
    exact done_t (R := R) (e := 0) hsG sc sG hq' h88 (s1.fresh h8) hq11 g11 hro hra2.two (fun q2 v2 h2 a b _ => by rw [hun] at hR; exact hR q2 v2 h2 a b)
theorem rout_ok (hr : RefAt h q (.agg vL) L) (hs : L.small) (hn : 0 < L.n) {who p n : Int} (hR : ∀ q' v' h', Sub h h' → RefAt h' q' (.agg v') (outL L who p n).2 → ((outL L who p n).1 = 0 → h q' = none) → R (.ret (.tuple #[.agg v', .int .i64 (outL L who p n).1])) h') :
    ACalls Try.prog 46 #[.agg vL, .int .i64 who, .int .i64 p, .int .i64 n] h R := by
  refine call46 ?_
  unfold sh46
  have two := hr.two
  obtain ⟨cap0, e0, _⟩ := hr.val
  simp only [Value.cells]
  refine vNew_gen fun t4 G1 h4 s1 h44 => vNew_gen fun t8 G h8 s2 h88 => ?_
  have g4 := s2 _ _ h44
  have hsG := s1.trans s2
  have hq8 : q ≠ t8 := (hr.sub s1).ne h8
  have lv : ∀ {K : Value → Prop}, vLoad (some 2) (ptr t4) G K ↔ K (.agg vL) := fun {K} => by rw [vLoad_n g4 (by omega), two.2.2]
  have ls : ∀ {K : Value → Prop}, vLoad none (.pointer (some ⟨t4, 0 + 1, none⟩)) G K ↔ K (.slice (some ⟨q, 0, none⟩) L.n cap0) := fun {K} => vLoad_1 g4 (by rw [e0]; rfl)
  have quit : ∀ e, e ≠ 0 → (e, L) = outL L who p n → (vLoad (some 2) (ptr t4) G fun t => vStore 2 (ptr t8) t G fun h' => vLoad (some 2) (ptr t8) h' fun rv => R (.ret (.tuple #[rv, .int .i64 e])) h') := fun e h0 he => by
    refine ret2 (K := fun rv h' => R (.ret (.tuple #[rv, .int .i64 e])) h') g4 h88 (by rfl) two ?_
    have := hR q vL (ins G t8 (.cells vL 52 (0, 0))) (Sub.put hsG (s1.fresh h8)) (by rw [← he]; exact (hr.sub hsG).ins hq8) (by rw [← he]; exact fun hz => absurd hz h0)
    rw [← he] at this
    exact this
  rw [lv]
  refine rrefused_ok (hr.sub hsG) ?_
  simp only [AEnd.elim, vBin_neq, dIf_b]
  refine ⟨fun hne => ?_, fun heq => ?_⟩
  · have h0 : refE L who p n ≠ 0 := by simpa using hne
    exact quit _ h0 (by unfold outL; rw [if_pos h0])
  · have h0 : refE L who p n = 0 := by simpa using heq
    obtain ⟨i, pn, rfl, hi, rfl, hp4, hpg, hn1, hn2⟩ := refE_0 h0 hs.gd
    have hun : outL L i pn n = if (rOf L i).free pn < n then (61, L) else (0, addF L i pn (-n)) := by
      unfold outL; rw [if_neg (by rw [h0]; simp)]; rfl
    have bF := rOf_bd hs hp4 hi
    simp only [vFA_p, ls, vIxS_p, vIxA_p]
    refine ⟨by omega, by omega, by omega, by omega, ?_⟩
    rw [show 0 + (i : Int).toNat * 12 + 0 + (pn : Int).toNat * 1 = i * 12 + pn by omega, (hr.sub hsG).ld1 hi (by omega) ((rOf L i).at_free hp4)]
    simp only [vBin_lss, dIf_b, decide_eq_true_eq, decide_eq_false_iff_not]
    refine ⟨fun hlt => quit 61 (by decide) (by rw [hun, if_pos hlt]), fun hle => ?_⟩
    rw [if_neg hle] at hun
    rw [lv]
    refine rcopy_ok (hr.sub hsG) hn hs.cl fun q' v' h' sc hq' hra => ?_
    simp only [AEnd.elim]
    refine own_t hra fun t11 G4 cap' sG hq11 g11 hra2 l1 => ?_
    simp only [vFA_p, l1, vIxS_p, vIxA_p]
    refine ⟨by omega, by omega, by omega, by omega, ?_⟩
    rw [show 0 + (i : Int).toNat * 12 + 0 + (pn : Int).toNat * 1 = i * 12 + pn by omega, hra2.ld1 hi (by omega) ((rOf L i).at_free hp4)]
    simp only [vBin_sub, vIxS_p, vFA_p, vIxA_p]
    refine ⟨by omega, by omega, by omega, by omega, ?_⟩
    rw [w64 (by omega) (by omega), Int.sub_eq_add_neg]
    refine hra2.st1 (M := addF L i pn (-n)) hi (by omega) rfl rfl rfl (addF_self hp4) (fun k _ hk => addF_other hk) fun o hro => ?_
    exact done_t (R := R) (e := 0) hsG sc sG hq' h88 (s1.fresh h8) hq11 g11 hro hra2.two (fun q2 v2 h2 a b c => by rw [hun] at hR; exact hR q2 v2 h2 a b fun _ => hsG.fresh c)
theorem rkeep_ok (hr : RefAt h q (.agg vL) L) (hs : L.small) (hn : 0 < L.n) {who p n : Int} (hR : ∀ q' v' h', Sub h h' → RefAt h' q' (.agg v') (keepL L who p n).2 → R (.ret (.tuple #[.agg v', .int .i64 (keepL L who p n).1])) h') :
    ACalls Try.prog 48 #[.agg vL, .int .i64 who, .int .i64 p, .int .i64 n] h R := by
  refine call48 ?_
  unfold sh48
  have two := hr.two
  simp only [Value.cells]
  refine vNew_gen fun t4 G1 h4 s1 h44 => vNew_gen fun t8 G h8 s2 h88 => ?_
  have g4 := s2 _ _ h44
  have hsG := s1.trans s2
  rw [vLoad_n g4 (by omega), two.2.2]
  refine rout_ok (hr.sub hsG) hs hn fun q' v' h' sc hra hfr => ?_
  simp only [AEnd.elim, vExt_20, vExt_21]
  refine own_t hra fun t10 G4 cap' sG hq10 g10 hra2 l1 => ?_
  have two' := hra.two
  have g8 : G4 t8 = some (.cells rled0 52 (0, 0)) := sG _ _ (sc _ _ h88)
  simp only [vBin_eql, dIf_b]
  refine ⟨fun heq => ?_, fun hne => ?_⟩
  · have h0 : (outL L who p n).1 = 0 := by simpa using heq
    have hun : keepL L who p n = (0, addK (outL L who p n).2 who.toNat p.toNat n) := by
      unfold keepL; rw [if_neg (by rw [h0]; simp)]
    have hre : refE L who p n = 0 := by
      unfold outL at h0
      split at h0
      · exact h0
      · rename_i hh; exact Classical.not_not.1 hh
    obtain ⟨i, pn, rfl, hi, rfl, hp4, hpg, hn1, hn2⟩ := refE_0 hre hs.gd
    have hout : outL L i pn n = (0, addF L i pn (-n)) := by
      unfold outL at h0 ⊢
      rw [if_neg (by rw [hre]; simp)] at h0 ⊢
      split at h0
      · cases h0
      · rename_i hh; rw [if_neg hh]; rfl
    rw [hout] at hra2 hun hra l1
    have hkp : ((rOf (addF L i pn (-n)) i).kept pn) = (rOf L i).kept pn := by
      simp only [rOf, addF, Led.set, allIx]
      grind
    have bF := rOf_bd hs hp4 hi
    have hiM : i < (addF L i pn (-n)).n := hi
    simp only [vFA_p, l1, vIxS_p, vIxA_p]
    refine ⟨by omega, by omega, by omega, by omega, ?_⟩
    rw [show 0 + (i : Int).toNat * 12 + 5 + (pn : Int).toNat * 1 = i * 12 + (5 + pn) by omega, hra2.ld1 hiM (by omega) ((rOf (addF L i pn (-n)) i).at_kept hp4)]
    simp only [vBin_add, vIxS_p, vFA_p, vIxA_p]
    refine ⟨by omega, by omega, by omega, by omega, ?_⟩
    rw [w64 (by omega) (by omega)]
    refine hra2.st1 (M := addK (addF L i pn (-n)) i pn n) hiM (by omega) rfl rfl rfl (addK_self hp4) (fun k _ hk => addK_other hk) fun o hro => ?_
    have hgq : G q' = none := hfr h0
    rw [h0]
    refine done_t (R := R) (e := 0) hsG sc sG hgq h88 (s1.fresh h8) hq10 g10 hro two' (fun q2 v2 h2 a b _ => by
      have := hR q2 v2 h2 a (by rw [hun]; exact b)
      rw [hun] at this; exact this)
  · have h0 : (outL L who p n).1 ≠ 0 := by simpa using hne
    have hun : keepL L who p n = outL L who p n := by unfold keepL; rw [if_pos h0]
    refine ret2 (K := fun rv h' => R (.ret (.tuple #[rv, .int .i64 (outL L who p n).1])) h') g10 g8 (by rfl) two' ?_
    have hq8 : q' ≠ t8 := fun e => by
      obtain ⟨c, _, _, x, _⟩ := hra2
      rw [e, g8] at x
      have := two'
      cases x
    have := hR q' v' (ins G4 t8 (.cells v' 52 (0, 0))) (Sub.put ((hsG.trans sc).trans sG) (s1.fresh h8)) (by rw [hun]; exact hra2.ins hq8)
    rw [hun] at this
    exact this
theorem who_chain {G : PH} {t4 : Nat} {cap : Nat} {who : Int} {Kn : Value → PH → Prop} (l1 : ∀ {K : Value → Prop}, vLoad none (.pointer (some ⟨t4, 0 + 1, none⟩)) G K ↔ K (.slice (some ⟨q, 0, none⟩) L.n cap))
    (hk : Kn (.bool (decide (who < 0 ∨ (L.n : Int) ≤ who))) G) :
    vBin Try.prog .lss 3 (.int .i64 who) (.int .i64 0) fun t15 =>
    gq (boolOf t15) false (fun K => K (.int .i64 who) G) (fun t17 h_3 =>
    gq (boolOf t15) false (fun K_1 => vFA 1 (ptr t4) fun u => K_1 u h_3) (fun t18 h_4 =>
    gq (boolOf t15) false (fun K_2 => vLoad none t18 h_4 fun u_1 => K_2 u_1 h_4) (fun t19 h_5 =>
    gq (boolOf t15) false (fun K_3 => vLenS t19 fun u_2 => K_3 u_2 h_5) (fun t20 h_6 =>
    gq (boolOf t15) false (fun K_4 => vBin Try.prog .geq 3 t17 t20 fun u_3 => K_4 u_3 h_6) (fun t21 h_7 =>
    vPick t15 (.bool true) t21 fun t22 => Kn t22 h_7) h_6) h_5) h_4) h_3) G := by
  by_cases h1 : who < 0
  · simp only [h1, true_or, decide_true] at hk
    simp only [vBin_lss, h1, decide_true, boolOf_b, gq_b, Bool.true_eq_false, false_implies, ne_eq, not_false_eq_true, forall_const, true_and, boolOf_u, gq_n, vPick_b, cond_true]
    exact hk
  · simp only [h1, false_or] at hk
    simp only [vBin_lss, h1, decide_false, boolOf_b, gq_b, ne_eq, not_true_eq_false, false_implies, forall_const, and_true, vFA_p, l1, vLenS_s, vBin_geq, vPick_b, cond_false]
    exact hk
theorem rover_ok (hr : RefAt h q (.agg vL) L) (hs : L.small) (hn : 0 < L.n) {a b p n : Int} (hR : ∀ q' v' h', Sub h h' → RefAt h' q' (.agg v') (overL L a b p n).2 → R (.ret (.tuple #[.agg v', .int .i64 (overL L a b p n).1])) h') :
    ACalls Try.prog 50 #[.agg vL, .int .i64 a, .int .i64 b, .int .i64 p, .int .i64 n] h R := by
  refine call50 ?_
  unfold sh50
  have two := hr.two
  obtain ⟨cap0, e0, _⟩ := hr.val
  simp only [Value.cells]
  refine vNew_gen fun t4 G1 h4 s1 h44 => vNew_gen fun t8 G h8 s2 h88 => ?_
  have g4 := s2 _ _ h44
  have hsG := s1.trans s2
  have hq8 : q ≠ t8 := (hr.sub s1).ne h8
  have lv : ∀ {K : Value → Prop}, vLoad (some 2) (ptr t4) G K ↔ K (.agg vL) := fun {K} => by rw [vLoad_n g4 (by omega), two.2.2]
  have ls : ∀ {K : Value → Prop}, vLoad none (.pointer (some ⟨t4, 0 + 1, none⟩)) G K ↔ K (.slice (some ⟨q, 0, none⟩) L.n cap0) := fun {K} => vLoad_1 g4 (by rw [e0]; rfl)
  have quit : ∀ e, (e, L) = overL L a b p n → (vLoad (some 2) (ptr t4) G fun t => vStore 2 (ptr t8) t G fun h' => vLoad (some 2) (ptr t8) h' fun rv => R (.ret (.tuple #[rv, .int .i64 e])) h') := fun e he => by
    refine ret2 (K := fun rv h' => R (.ret (.tuple #[rv, .int .i64 e])) h') g4 h88 (by rfl) two ?_
    have := hR q vL (ins G t8 (.cells vL 52 (0, 0))) (Sub.put hsG (s1.fresh h8)) (by rw [← he]; exact (hr.sub hsG).ins hq8)
    rw [← he] at this
    exact this
  refine who_chain ls ?_
  simp only [dIf_b, decide_eq_true_eq, decide_eq_false_iff_not]
  refine ⟨fun hbad => quit 60 (by unfold overL; rw [if_pos hbad]), fun hgood => ?_⟩
  rw [lv]
  refine rrefused_ok (hr.sub hsG) ?_
  simp only [AEnd.elim, vBin_neq, dIf_b]
  refine ⟨fun hne => ?_, fun heq => ?_⟩
  · have h0 : refE L b p n ≠ 0 := by simpa using hne
    exact quit _ (by unfold overL; rw [if_neg hgood, if_pos h0])
  · have h0 : refE L b p n = 0 := by simpa using heq
    obtain ⟨j, pn, rfl, hj, rfl, hp4, hpg, hn1, hn2⟩ := refE_0 h0 hs.gd
    obtain ⟨i, rfl, hi⟩ : ∃ i : Nat, a = i ∧ i < L.n := ⟨a.toNat, by omega, by omega⟩
    have hun : overL L i j pn n = if (rOf L i).kept pn < n then (61, L) else (0, addF (addK L i pn (-n)) j pn n) := by
      unfold overL; rw [if_neg hgood, if_neg (by rw [h0]; simp)]; rfl
    have bF := rOf_bd hs hp4 hi
    have bG := rOf_bd hs hp4 hj
    simp only [vFA_p, ls, vIxS_p, vIxA_p]
    refine ⟨by omega, by omega, by omega, by omega, ?_⟩
    rw [show 0 + (i : Int).toNat * 12 + 5 + (pn : Int).toNat * 1 = i * 12 + (5 + pn) by omega, (hr.sub hsG).ld1 hi (by omega) ((rOf L i).at_kept hp4)]
    simp only [vBin_lss, dIf_b, decide_eq_true_eq, decide_eq_false_iff_not]
    refine ⟨fun hlt => quit 61 (by rw [hun, if_pos hlt]), fun hle => ?_⟩
    rw [if_neg hle] at hun
    rw [lv]
    refine rcopy_ok (hr.sub hsG) hn hs.cl fun q' v' h' sc hq' hra => ?_
    simp only [AEnd.elim]
    refine own_t hra fun t11 G4 cap' sG hq11 g11 hra2 l1 => ?_
    simp only [vFA_p, l1, vIxS_p, vIxA_p]
    refine ⟨by omega, by omega, by omega, by omega, ?_⟩
    rw [show 0 + (i : Int).toNat * 12 + 5 + (pn : Int).toNat * 1 = i * 12 + (5 + pn) by omega, hra2.ld1 hi (by omega) ((rOf L i).at_kept hp4)]
    simp only [vBin_sub, vIxS_p, vFA_p, vIxA_p]
    refine ⟨by omega, by omega, by omega, by omega, ?_⟩
    rw [w64 (by omega) (by omega), Int.sub_eq_add_neg]
    refine hra2.st1 (M := addK L i pn (-n)) hi (by omega) rfl rfl rfl (addK_self hp4) (fun k _ hk => addK_other hk) fun o hro => ?_
    obtain ⟨_, e2, _⟩ := hra2.val
    have l2 : ∀ {K : Value → Prop}, vLoad none (.pointer (some ⟨t11, 0 + 1, none⟩)) (ins G4 q' o) K ↔ K (.slice (some ⟨q', 0, none⟩) L.n cap') := fun {K} => by
      have e3 := hra.val
      obtain ⟨c3, e3, _⟩ := e3
      have := (l1 (K := fun v => v = .slice (some ⟨q', 0, none⟩) L.n cap')).2 rfl
      rw [vLoad_1 g11 (v := .slice (some ⟨q', 0, none⟩) L.n c3) (by rw [e3]; rfl)] at this
      rw [← this]
      exact vLoad_1 (by rw [ins_ne _ _ (fun e => hq11 e.symm)]; exact g11) (by rw [e3]; rfl)
    have hfr : ((rOf (addK L i pn (-n)) j).free pn) = (rOf L j).free pn := by
      simp only [rOf, addK, Led.set, allIx, keptIx]
      grind
    have hjM : j < (addK L i pn (-n)).n := hj
    simp only [vFA_p, l2, vIxS_p, vIxA_p]
    refine ⟨by omega, by omega, by omega, by omega, ?_⟩
    rw [show 0 + (j : Int).toNat * 12 + 0 + (pn : Int).toNat * 1 = j * 12 + pn by omega, hro.ld1 hjM (by omega) ((rOf (addK L i pn (-n)) j).at_free hp4)]
    simp only [vBin_add, vIxS_p, vFA_p, vIxA_p]
    refine ⟨by omega, by omega, by omega, by omega, ?_⟩
    rw [w64 (by omega) (by omega)]
    refine hro.st1 (M := addF (addK L i pn (-n)) j pn n) hjM (by omega) rfl rfl rfl (addF_self hp4) (fun k _ hk => addF_other hk) fun o2 hro2 => ?_
    rw [ins_ins] at hro2 ⊢
    exact done_t (R := R) (e := 0) hsG sc sG hq' h88 (s1.fresh h8) hq11 g11 hro2 hra2.two (fun q2 v2 h2 a b _ => by rw [hun] at hR; exact hR q2 v2 h2 a b)
theorem rloose_ok (hr : RefAt h q (.agg vL) L) (hs : L.small) (hn : 0 < L.n) {a p n : Int} (hR : ∀ q' v' h', Sub h h' → RefAt h' q' (.agg v') (overL L a a p n).2 → R (.ret (.tuple #[.agg v', .int .i64 (overL L a a p n).1])) h') :
    ACalls Try.prog 49 #[.agg vL, .int .i64 a, .int .i64 p, .int .i64 n] h R := by
  refine call49 ?_
  unfold sh49
  have two := hr.two
  simp only [Value.cells]
  refine vNew_gen fun t4 G1 h4 s1 h44 => vNew_gen fun t8 G h8 s2 h88 => ?_
  have g4 := s2 _ _ h44
  have hsG := s1.trans s2
  rw [vLoad_n g4 (by omega), two.2.2]
  refine rover_ok (hr.sub hsG) hs hn fun q' v' h' sc hra => ?_
  simp only [AEnd.elim, vExt_20, vExt_21]
  have two' := hra.two
  refine vStore_to (cs := v') (sc _ _ h88) (by rfl) two'.1 two'.2.1 ?_
  rw [vLoad_n (ins_eq _ _ _) (by omega), two'.2.2]
  have hq8 : q' ≠ t8 := fun e => by
    obtain ⟨c, _, _, x, _⟩ := hra
    rw [e, sc _ _ h88] at x
    cases x
  exact hR q' v' _ (Sub.put (hsG.trans sc) (s1.fresh h8)) (hra.ins hq8)
theorem rmark_ok (hr : RefAt h q (.agg vL) L) (hs : L.small) (hn : 0 < L.n) {who s : Int} {t : ByteArray} (hR : ∀ q' v' h', Sub h h' → RefAt h' q' (.agg v') (rmarkL L who s t).2 → R (.ret (.tuple #[.agg v', .int .i64 (rmarkL L who s t).1])) h') :
    ACalls Try.prog 51 #[.agg vL, .int .i64 who, .int .i64 s, .string t] h R := by
  refine call51 ?_
  unfold sh51
  have two := hr.two
  obtain ⟨cap0, e0, _⟩ := hr.val
  simp only [Value.cells]
  refine vNew_gen fun t4 G1 h4 s1 h44 => vNew_gen fun t8 G h8 s2 h88 => ?_
  have g4 := s2 _ _ h44
  have hsG := s1.trans s2
  have hq8 : q ≠ t8 := (hr.sub s1).ne h8
  have lv : ∀ {K : Value → Prop}, vLoad (some 2) (ptr t4) G K ↔ K (.agg vL) := fun {K} => by rw [vLoad_n g4 (by omega), two.2.2]
  have ls : ∀ {K : Value → Prop}, vLoad none (.pointer (some ⟨t4, 0 + 1, none⟩)) G K ↔ K (.slice (some ⟨q, 0, none⟩) L.n cap0) := fun {K} => vLoad_1 g4 (by rw [e0]; rfl)
  have quit : ∀ e, (e, L) = rmarkL L who s t → (vLoad (some 2) (ptr t4) G fun t => vStore 2 (ptr t8) t G fun h' => vLoad (some 2) (ptr t8) h' fun rv => R (.ret (.tuple #[rv, .int .i64 e])) h') := fun e he => by
    refine ret2 (K := fun rv h' => R (.ret (.tuple #[rv, .int .i64 e])) h') g4 h88 (by rfl) two ?_
    have := hR q vL (ins G t8 (.cells vL 52 (0, 0))) (Sub.put hsG (s1.fresh h8)) (by rw [← he]; exact (hr.sub hsG).ins hq8)
    rw [← he] at this
    exact this
  refine who_chain ls ?_
  simp only [dIf_b, decide_eq_true_eq, decide_eq_false_iff_not]
  refine ⟨fun hbad => quit 60 (by unfold rmarkL; rw [if_pos hbad]), fun hgood => ?_⟩
  obtain ⟨i, rfl, hi⟩ : ∃ i : Nat, who = i ∧ i < L.n := ⟨who.toNat, by omega, by omega⟩
  have hun : rmarkL L i s t = markL L i s t := by unfold rmarkL; rw [if_neg hgood]; rfl
  by_cases h1 : s < 1 ∨ 1099511627776 < s ∨ 256 < (t.size : Int)
  · have q1 := quit 1 (by rw [hun]; unfold markL; rw [if_pos h1])
    by_cases a1 : s < 1
    · simp only [vBin_lss, a1, decide_true, boolOf_b, gq_b, Bool.true_eq_false, false_implies, ne_eq, not_false_eq_true, forall_const, true_and, boolOf_u, gq_n, vPick_b, cond_true, dIf_b, and_true]
      exact q1
    · by_cases a2 : 1099511627776 < s
      · simp only [vBin_lss, vBin_gtr, a1, a2, decide_true, decide_false, boolOf_b, gq_b, Bool.true_eq_false, Bool.false_eq_true, false_implies, ne_eq, not_true_eq_false, not_false_eq_true, forall_const, true_and, boolOf_u, gq_n, vPick_b, cond_true, cond_false, dIf_b, and_true]
        exact q1
      · have a3 : 256 < (t.size : Int) := by omega
        simp only [vBin_lss, vBin_gtr, a1, a2, a3, decide_true, decide_false, boolOf_b, gq_b, Bool.true_eq_false, Bool.false_eq_true, false_implies, ne_eq, not_true_eq_false, not_false_eq_true, forall_const, true_and, boolOf_u, gq_n, vPick_b, cond_true, cond_false, dIf_b, and_true, vLenStr_s]
        exact q1
  have a1 : ¬ s < 1 := by omega
  have a2 : ¬ 1099511627776 < s := by omega
  have a3 : ¬ 256 < (t.size : Int) := by omega
  have lt0 : (0 : Int) ≤ (i : Int) := by omega
  have ltn : (i : Int) < (L.n : Int) := by omega
  simp only [vBin_lss, vBin_gtr, a1, a2, a3, decide_true, decide_false, boolOf_b, gq_b, Bool.true_eq_false, Bool.false_eq_true, false_implies, ne_eq, not_true_eq_false, not_false_eq_true, forall_const, true_and, boolOf_u, gq_n, vPick_b, cond_true, cond_false, dIf_b, and_true, vLenStr_s, vFA_p, ls, vIxS_p, lt0, ltn]
  rw [show 0 + (i : Int).toNat * 12 + 10 = i * 12 + 10 by omega, (hr.sub hsG).ld1 hi (by omega) (u := .int .i64 (L.f i 10)) rfl]
  simp only [vBin_leq, dIf_b, decide_eq_true_eq, decide_eq_false_iff_not]
  refine ⟨fun hle => quit 91 (by rw [hun]; unfold markL; rw [if_neg h1, if_pos hle]), fun hgt => ?_⟩
  have hun2 : rmarkL L i s t = (0, (L.set i 10 s).setR i t) := by rw [hun]; unfold markL; rw [if_neg h1, if_neg hgt]
  rw [lv]
  refine rcopy_ok (hr.sub hsG) hn hs.cl fun q' v' h' sc hq' hra => ?_
  simp only [AEnd.elim]
  refine own_t hra fun t11 G4 cap' sG hq11 g11 hra2 l1 => ?_
  simp only [vFA_p, l1, vIxS_p]
  refine ⟨by omega, by omega, ?_⟩
  rw [show 0 + (i : Int).toNat * 12 + 10 = i * 12 + 10 by omega]
  refine hra2.st1 (M := L.set i 10 s) hi (by omega) rfl rfl rfl ?_ (fun k _ hk => ?_) fun o hro => ?_
  · show _ = RAcc.cells { rOf L i with stamp := s }
    refine RAcc.cells_ext (fun p' hp' => ?_) (fun p' hp' => ?_) ?_ rfl
    · simp only [rOf, Led.set]; grind
    · simp only [rOf, Led.set]; grind
    · simp [rOf, Led.set]
  · refine RAcc.cells_ext (fun p' hp' => ?_) (fun p' hp' => ?_) ?_ rfl <;> simp [rOf, Led.set, hk]
  have l2 : ∀ {K : Value → Prop}, vLoad none (.pointer (some ⟨t11, 0 + 1, none⟩)) (ins G4 q' o) K ↔ K (.slice (some ⟨q', 0, none⟩) L.n cap') := fun {K} => by
    obtain ⟨c3, e3, _⟩ := hra.val
    have := (l1 (K := fun v => v = .slice (some ⟨q', 0, none⟩) L.n cap')).2 rfl
    rw [vLoad_1 g11 (v := .slice (some ⟨q', 0, none⟩) L.n c3) (by rw [e3]; rfl)] at this
    rw [← this]
    exact vLoad_1 (by rw [ins_ne _ _ (fun e => hq11 e.symm)]; exact g11) (by rw [e3]; rfl)
  simp only [vFA_p, l2, vIxS_p]
  refine ⟨by omega, by omega, ?_⟩
  rw [show 0 + (i : Int).toNat * 12 + 11 = i * 12 + 11 by omega]
  refine hro.st1 (M := (L.set i 10 s).setR i t) hi (by omega) rfl rfl rfl ?_ (fun k _ hk => ?_) fun o2 hro2 => ?_
  · show _ = RAcc.cells { rOf (L.set i 10 s) i with reply := t }
    refine RAcc.cells_ext (fun p' hp' => rfl) (fun p' hp' => rfl) rfl ?_
    simp [rOf, Led.setR]
  · refine RAcc.cells_ext (fun p' hp' => rfl) (fun p' hp' => rfl) rfl ?_
    simp [rOf, Led.setR, hk]
  rw [ins_ins] at hro2 ⊢
  exact done_t (R := R) (e := 0) hsG sc sG hq' h88 (s1.fresh h8) hq11 g11 hro2 hra2.two (fun q2 v2 h2 a b _ => by rw [hun2] at hR; exact hR q2 v2 h2 a b)
end
end Go.Pw
/- What a ledger tells is what the document's has. -/
set_option linter.unusedSimpArgs false
set_option linter.unusedVariables false
namespace Go.Pw
open Go Go.Proofs

set_option maxRecDepth 100000 in
theorem acct_neq {K : Value → Prop} (L : Led) (i : Nat) : vBin Try.prog .neq 43 (.agg (acctCells L i)) (.agg (acctCells L i)) K ↔ K (.bool false) := by
  refine vBin_run fun x y w => ?_
  have u3 := Try.underlying3
  have a3 := Try.isAgg3
  have z3 := Try.sizeOf3
  have a37 := Try.isAgg37
  have z37 := Try.sizeOf37
  have hS : Try.prog.underlying 43 = some (.struct (Try.prog.fieldsOf 43)) := by kernel_rfl
  have hp : Try.prog.stoodInHeld 43 = false := by kernel_rfl
  have hg := run_eqGuard_agg (P := Try.prog) w .neq 43 x y (acctCells L i) (acctCells L i) (by kernel_rfl)
  have c0 : (acctCells L i)[0]? = some (.int .i64 (L.f i 0)) := rfl
  have c1 : (acctCells L i)[1]? = some (.int .i64 (L.f i 1)) := rfl
  have x1 : (acctCells L i).extract 2 (2 + 4) = #[.int .i64 (L.f i 2), .int .i64 (L.f i 3), .int .i64 (L.f i 4), .int .i64 (L.f i 5)] := rfl
  have x2 : (acctCells L i).extract 6 (6 + 4) = #[.int .i64 (L.f i 6), .int .i64 (L.f i 7), .int .i64 (L.f i 8), .int .i64 (L.f i 9)] := rfl
  have q4 := eq_i4 9997
  have he : (Op.equalIn 10000 43 (.agg (acctCells L i)) (.agg (acctCells L i))).run Try.prog w = .ok true w := by
    rw [show (10000 : Nat) = 9999 + 1 from rfl, run_equalIn_agg w 9999 43 _ _ hS hp]
    simp only [Program.fieldsOf, Try.underlying43]
    clear hg
    go_simp
  rw [Sem.run_bind, hg]
  show (binOp .neq 43 _ _).run Try.prog w = _
  rw [run_neq_struct, he]
  rfl

section
variable {h : PH} {R : AEnd → PH → Prop}
theorem like_round {x b q t3 : Nat} {vL : Array Value} {L : Led} (hs : L.small) (hL : LedAt h x b L) (hr : RefAt h q (.agg vL) L) (h3 : h t3 = some (.cells vL 52 (0, 0))) {i : Nat} (hi : i < L.n)
    (kn : (Value × Value) → (Value × Value) → PH → Prop) (Kp : List PanicEntry → PH → Prop) (x2 xr : (Value × Value × Value) → PH → Prop)
    (hk : ∀ g, Sub h g → kn (ptr x, ptr t3) (.bool false, .int .i64 ((i : Int) + 1)) g) :
    b19_10 Kp x2 xr (ptr x, ptr t3) kn (.bool false, .int .i64 i) h := by
  unfold b19_10
  have hv1 : ∃ cap', vL = #[.int .i64 L.goods, .slice (some ⟨q, 0, none⟩) L.n cap'] := by
    obtain ⟨_, cap', e1, _⟩ := hr
    exact ⟨cap', by cases e1; rfl⟩
  obtain ⟨cap, e8⟩ := hv1
  have hcl := hs.cl
  have hlt : (i : Int) < (L.n : Int) := by omega
  have lsl : ∀ {g : PH}, Sub h g → ∀ {K : Value → Prop}, vLoad none (.pointer (some ⟨t3, 0 + 1, none⟩)) g K ↔ K (.slice (some ⟨q, 0, none⟩) L.n cap) := fun {g} hs' {K} => vLoad_1 (hs' _ _ h3) (by rw [e8]; rfl)
  simp only [vFA_p, lsl (Sub.refl h), vLenS_s, vBin_lss, hlt, decide_true, dIf_b]
  refine ⟨fun _ => ?_, fun e => absurd e (by simp)⟩
  refine acct_ok hL hi ?_
  simp only [AEnd.elim, vExt_20, vExt_21]
  refine vNew_gen fun d G0 hd s1 hdd => ?_
  refine vStore_to (cs := acctCells L i) hdd (by rfl) (by rfl) (by rfl) ?_
  have hd2 : (ins G0 d (.cells (acctCells L i) 43 (0, 0))) d = some (.cells (acctCells L i) 43 (0, 0)) := ins_eq _ _ _
  have s2 : Sub h (ins G0 d (.cells (acctCells L i) 43 (0, 0))) := Sub.put s1 hd
  revert hd2 s2
  generalize (ins G0 d (.cells (acctCells L i) 43 (0, 0))) = G
  intro hd2 s2
  refine last_ok (hL.sub s2) hi ?_
  have la : ∀ {K : Value → Prop}, vLoad (some 10) (ptr d) G K ↔ K (.agg (acctCells L i)) := fun {K} => by rw [vLoad_n hd2 (by simp [acctCells])]; rfl
  simp only [AEnd.elim, vExt_20, vExt_21, vUn_not, Bool.not_true, boolOf_b, gq_b, gd_b, ne_eq, not_true_eq_false, forall_const, false_implies, and_true, vIxS_p, vFA_p, Nat.add_zero, la, lsl s2]
  refine ⟨by omega, by omega, ?_⟩
  rw [show 0 + (i : Int).toNat * 12 = i * 12 by omega, (hr.sub s2).ldA hi]
  refine rshown_ok hs hi ?_
  have ex : ∀ j, j < 12 → ∀ u, (rOf L i).cells[j]? = some u → ∀ {K : Value → Prop}, vLoad none (.pointer (some ⟨q, i * 12 + j, none⟩)) G K ↔ K u := fun j hj u hu {K} => by
    obtain ⟨c, cap', e1, hq, hcs, hcap, hex⟩ := hr
    exact vLoad_1 (s2 _ _ hq) (ext_get (hex i hi) hj hu)
  have x10 : ∀ {K : Value → Prop}, vLoad none (.pointer (some ⟨q, i * 12 + 10, none⟩)) G K ↔ K (.int .i64 (L.f i 10)) := fun {K} => ex 10 (by omega) _ rfl
  have x11 : ∀ {K : Value → Prop}, vLoad none (.pointer (some ⟨q, i * 12 + 11, none⟩)) G K ↔ K (.string (L.r i)) := fun {K} => ex 11 (by omega) _ rfl
  have lt2 : (0 : Int) ≤ (i : Int) := by omega
  simp only [AEnd.elim, la, acct_neq, vPick_b, cond_false, boolOf_b, gq_b, gd_b, ne_eq, not_true_eq_false, forall_const, false_implies, and_true, true_and, vFA_p, lsl s2, vIxS_p, lt2, hlt, show 0 + (i : Int).toNat * 12 = i * 12 by omega, x10, x11, vBin_neq, vBin_sneq, decide_true, Bool.not_true, dIf_b, Bool.false_eq_true, vBin_add]
  rw [w64 (by omega) (by omega)]
  exact hk G s2

theorem like_ok {x b q : Nat} {vL : Array Value} {L : Led} (hs : L.small) (hn : 0 < L.n) (hL : LedAt h x b L) (hr : RefAt h q (.agg vL) L) (hR : R (.ret (.bool true)) h) : ACalls Try.prog 19 #[ptr x, .agg vL] h R := by
  refine ACalls.drop (call19 ?_)
  unfold sh19
  have hv1 : ∃ cap', vL = #[.int .i64 L.goods, .slice (some ⟨q, 0, none⟩) L.n cap'] := by
    obtain ⟨_, cap', e1, _⟩ := hr
    exact ⟨cap', by cases e1; rfl⟩
  obtain ⟨cap, e8⟩ := hv1
  have hcl := hs.cl
  simp only [Value.cells]
  refine vNew_gen fun t3 G1 h3 s1 h33 => ?_
  refine totals_ok (hL.sub s1) hs ?_
  simp only [AEnd.elim, vExt_20, vExt_21]
  refine vNew_gen fun t6 G2 h6 s2 h66 => ?_
  refine vStore_to (cs := cells4 (goodOf L)) h66 (by rfl) (by rfl) (by rfl) ?_
  have g6 : (ins G2 t6 (.cells (cells4 (goodOf L)) 37 (0, 0))) t6 = some (.cells (cells4 (goodOf L)) 37 (0, 0)) := ins_eq _ _ _
  have gs : Sub G1 (ins G2 t6 (.cells (cells4 (goodOf L)) 37 (0, 0))) := Sub.put s2 h6
  revert g6 gs
  generalize (ins G2 t6 (.cells (cells4 (goodOf L)) 37 (0, 0))) = G
  intro g6 gs
  have g3 := gs _ _ h33
  have hsG : Sub h G := s1.trans gs
  have hrG := hr.sub hsG
  have lv : ∀ {K : Value → Prop}, vLoad (some 2) (ptr t3) G K ↔ K (.agg vL) := fun {K} => by
    rw [vLoad_n g3 (by rw [e8]; simp)]
    rw [show vL.extract 0 (0 + 2) = vL by rw [e8]; rfl]
  rw [lv]
  refine rtotal_ok (p := 0) hrG hs (by omega) ?_
  rw [totP_0]
  simp only [AEnd.elim, vBin_neq, decide_true, Bool.not_true, dIf_b]
  refine ⟨fun e => absurd e (by simp), fun _ => ?_⟩
  refine lf_intro (fun m s' g' => ∃ j : Nat, s' = (.bool false, .int .i64 j) ∧ m = 4 - j ∧ j ≤ 4 ∧ g' = G) 4 ⟨0, rfl, rfl, by omega, rfl⟩ ?_
  rintro m s' g' ⟨j, rfl, rfl, hj, rfl⟩
  by_cases h4 : j < 4
  · have key : ∀ (kn : (Value × Value × Value) → (Value × Value) → PH → Prop) Kp x0 (xr : (Value × Value × Value) → PH → Prop), kn (ptr x, ptr t3, ptr t6) (.bool false, .int .i64 ((j : Int) + 1)) g' →
        b19_5 Kp x0 xr (ptr x, ptr t3, ptr t6) kn (.bool false, .int .i64 j) g' := by
      intro kn Kp x0 xr hk
      unfold b19_5
      have hlt : (j : Int) < 4 := by omega
      have w1 : IntKind.i64.wrap ((j : Int) + 1) = (j : Int) + 1 := w64 (by omega) (by omega)
      have l6 : ∀ {K : Value → Prop}, vLoad none (.pointer (some ⟨t6, 0 + (j : Int).toNat * 1, none⟩)) g' K ↔ K (.int .i64 (goodOf L j)) := fun {K} => by
        rw [show 0 + (j : Int).toNat * 1 = j by omega]
        exact vLoad_1 g6 (cells4_get _ h4)
      simp only [vBin_lss, hlt, decide_true, dIf_b, vIxA_p, l6, lv, vBin_add, w1]
      refine ⟨fun _ => ⟨by omega, by omega, ?_⟩, fun e => absurd e (by simp)⟩
      refine rtotal_ok (p := j + 1) hrG hs (by omega) ?_
      rw [totP_g]
      simp only [AEnd.elim, l6, true_and, vBin_neq, decide_true, Bool.not_true, dIf_b, Bool.false_eq_true, false_implies, forall_const]
      exact hk
    exact key _ _ _ _ ⟨rfl, 4 - (j + 1), by omega, j + 1, rfl, rfl, by omega, rfl⟩
  · have e4 : j = 4 := by omega
    subst e4
    unfold b19_5
    simp only [vBin_lss, dIf_b]
    refine ⟨fun e => absurd e (by decide), fun _ => ?_⟩
    intro r hrr
    simp only [Prod.mk.injEq] at hrr
    rw [hrr.1, hrr.2.1, hrr.2.2]
    refine lf_intro (fun m s' g2 => ∃ i : Nat, s' = (.bool false, .int .i64 i) ∧ m = L.n - i ∧ i ≤ L.n ∧ Sub g' g2) L.n ⟨0, rfl, rfl, by omega, Sub.refl _⟩ ?_
    rintro m s' g2 ⟨i, rfl, rfl, hi, hs2⟩
    by_cases hin : i < L.n
    · exact like_round hs (hL.sub (hsG.trans hs2)) (hrG.sub hs2) (hs2 _ _ g3) hin _ _ _ _ fun g3 hs3 => ⟨rfl, L.n - (i + 1), by omega, i + 1, rfl, rfl, by omega, hs2.trans hs3⟩
    · have e : i = L.n := by omega
      subst e
      have hnl : ¬ ((L.n : Int) < (L.n : Int)) := by omega
      have lsl : ∀ {g : PH}, Sub g' g → ∀ {K : Value → Prop}, vLoad none (.pointer (some ⟨t3, 0 + 1, none⟩)) g K ↔ K (.slice (some ⟨q, 0, none⟩) L.n cap) := fun {g} hs' {K} => vLoad_1 (hs' _ _ g3) (by rw [e8]; rfl)
      unfold b19_10
      simp only [vFA_p, lsl hs2, vLenS_s, vBin_lss, hnl, decide_false, dIf_b]
      refine ⟨fun e => absurd e (by simp), fun _ => ?_⟩
      intro r2 hr2
      simp only [Prod.mk.injEq] at hr2
      rw [hr2.1, hr2.2.1]
      refine acct_bad (hL.sub (hsG.trans hs2)) (.inl (by omega)) ?_
      simp only [AEnd.elim, vExt_20, vExt_21]
      refine vNew_gen fun d1 G4 hd1 s4 hdd1 => ?_
      refine vStore_to (cs := acct0) hdd1 (by rfl) (by rfl) (by rfl) ?_
      have s5 : Sub g' (ins G4 d1 (.cells acct0 43 (0, 0))) := Sub.put (hs2.trans s4) (hs2.fresh hd1)
      revert s5
      generalize (ins G4 d1 (.cells acct0 43 (0, 0))) = G5
      intro s5
      simp only [vFA_p, lsl s5, vLenS_s]
      refine acct_bad (hL.sub (hsG.trans s5)) (.inr (by omega)) ?_
      simp only [AEnd.elim, vExt_20, vExt_21]
      refine vNew_gen fun d2 G6 hd2 s6 hdd2 => ?_
      refine vStore_to (cs := acct0) hdd2 (by rfl) (by rfl) (by rfl) ?_
      simp only [vUn_not, Bool.not_false, boolOf_b, gq_b, forall_const, ne_eq, not_true_eq_false, false_implies, and_true, vPick_b, cond_true]
      exact ⟨h, Sub.put ((hsG.trans s5).trans s6) (hsG.fresh (s5.fresh hd2)), hR⟩
end
end Go.Pw
/- What the document makes of a call is what the program makes of it. -/
set_option linter.unusedSimpArgs false
set_option linter.unusedVariables false
namespace Go.Pw
open Go Go.Proofs

structure Same2 (x y : Int × Led) : Prop where
  e : x.1 = y.1
  l : Like x.2 y.2
theorem Like.refl (L : Led) : Like L L := ⟨rfl, rfl, fun _ _ _ _ => rfl, fun _ _ => rfl⟩
theorem Same2.refl (x : Int × Led) : Same2 x x := ⟨rfl, Like.refl _⟩
theorem allIx_g (g : Nat) : allIx (g + 1) = 2 + g := by unfold allIx; rw [if_neg (by omega)]; omega
theorem keptIx_g (g : Nat) : keptIx (g + 1) = 6 + g := by unfold keptIx; rw [if_neg (by omega)]; omega
theorem ix_ne (p : Nat) : allIx p ≠ keptIx p ∨ False := by unfold allIx keptIx; left; split <;> omega
theorem keep_like (L : Led) (i p : Nat) (n : Int) : Like (addK (addF L i p (-n)) i p n) (L.set i (keptIx p) (L.f i (keptIx p) + n)) := by
  have hx : allIx p ≠ keptIx p := (ix_ne p).resolve_right id
  refine ⟨rfl, rfl, fun a j ha hj => ?_, fun _ _ => rfl⟩
  simp only [addK, addF, Led.set]
  generalize allIx p = x at *
  generalize keptIx p = y at *
  grind
theorem over_self (L : Led) (i p : Nat) (n : Int) : Like (addF (addK L i p (-n)) i p n) (L.set i (keptIx p) (L.f i (keptIx p) - n)) := by
  have hx : allIx p ≠ keptIx p := (ix_ne p).resolve_right id
  refine ⟨rfl, rfl, fun a j ha hj => ?_, fun _ _ => rfl⟩
  simp only [addK, addF, Led.set]
  generalize allIx p = x at *
  generalize keptIx p = y at *
  grind
def overTo (L : Led) (i j p : Nat) (n : Int) : Led :=
  let L1 := L.set i (keptIx p) (L.f i (keptIx p) - n)
  let L2 := L1.set i (allIx p) (L1.f i (allIx p) - n)
  L2.set j (allIx p) (L2.f j (allIx p) + n)
theorem over_like (L : Led) (i j p : Nat) (n : Int) : Like (addF (addK L i p (-n)) j p n) (overTo L i j p n) := by
  have hx : allIx p ≠ keptIx p := (ix_ne p).resolve_right id
  refine ⟨rfl, rfl, fun a j ha hj => ?_, fun _ _ => rfl⟩
  simp only [overTo, addK, addF, Led.set]
  generalize allIx p = x at *
  generalize keptIx p = y at *
  grind
theorem kept_ix (L : Led) (i p : Nat) : (rOf L i).kept p = L.f i (keptIx p) := by simp only [rOf, keptIx]; split <;> rfl
theorem free_ix (L : Led) (i p : Nat) : (rOf L i).free p = L.f i (allIx p) - L.f i (keptIx p) := by simp only [rOf, allIx, keptIx]; split <;> rfl

/-- A part's number, of a good. -/
def partN (g : Int) : Int := if g < 0 ∨ 3 < g then -1 else g + 1
section
variable {L : Led} {who n : Int}
theorem onC_refE {F : Nat → Int × Led} {X : Int × Led} {p : Int} (hbad : refE L who p n = 60 → X = (60, L)) (hok : ∀ i : Nat, i < L.n → who = i → Same2 X (F i)) : Same2 X (onC L who F) := by
  unfold onC
  split
  · exact hok _ (by omega) (by omega)
  · rename_i hh
    rw [hbad (by unfold refE; rw [if_pos (by omega)])]
    exact Same2.refl _
theorem refE_nat {i : Nat} (hi : i < L.n) {p : Int} : refE L i p n = if 0 ≤ p ∧ p ≤ L.goods ∧ 1 ≤ n ∧ n ≤ 1099511627776 then 0 else 1 := by
  unfold refE; rw [if_neg (by omega)]
theorem refE_part {i : Nat} (hi : i < L.n) (hg : L.goods ≤ 4) {g : Int} : refE L i (partN g) n = partE L g n := by
  rw [refE_nat hi]
  unfold partE partN
  by_cases h1 : g < 0 ∨ 3 < g
  · rw [if_pos h1, if_neg (by omega), if_neg (by omega)]
  · rw [if_neg h1]
    by_cases h2 : 0 ≤ g ∧ g < L.goods ∧ 1 ≤ n ∧ n ≤ 1099511627776
    · rw [if_pos h2, if_pos (by omega)]
    · rw [if_neg h2, if_neg (by omega)]
theorem refE_cash {i : Nat} (hi : i < L.n) (hg0 : 1 ≤ L.goods) : refE L i 0 n = partE L 0 n := by
  rw [refE_nat hi]
  unfold partE
  by_cases h2 : 0 ≤ (0 : Int) ∧ 0 < L.goods ∧ 1 ≤ n ∧ n ≤ 1099511627776
  · rw [if_pos h2, if_pos (by omega)]
  · rw [if_neg h2, if_neg (by omega)]
theorem part_nat {i : Nat} {g : Int} (hp : partE L g n = 0) (hg : L.goods ≤ 4) : ∃ m : Nat, g = m ∧ m < 4 ∧ (partN g).toNat = m + 1 := by
  have := partE_n hp
  refine ⟨g.toNat, by omega, by omega, ?_⟩
  unfold partN
  rw [if_neg (by omega)]
  omega
theorem in_pay (h : Inv L) : Same2 (inL L who 0 n) (onC L who fun i => payL L i n) := by
  refine onC_refE (p := 0) (n := n) (fun hb => by unfold inL; rw [if_pos (by rw [hb]; decide), hb]) fun i hi hw => ?_
  subst hw
  unfold inL payL
  rw [refE_cash hi h.g0]
  split
  · rename_i hp
    rcases partE_cases L 0 n with h0 | h0
    · exact absurd h0 hp
    · rw [h0]; exact Same2.refl _
  · by_cases hc : 1099511627776 - n < totP L (0 : Int).toNat
    · have : 1099511627776 < cashOf L + n := by rw [← totP_0]; have : totP L (0 : Int).toNat = totP L 0 := rfl; omega
      rw [if_pos hc, if_pos this]; exact Same2.refl _
    · have : ¬ 1099511627776 < cashOf L + n := by rw [← totP_0]; have : totP L (0 : Int).toNat = totP L 0 := rfl; omega
      rw [if_neg hc, if_neg this]; exact Same2.refl _
theorem in_store (h : Inv L) {g : Int} : Same2 (inL L who (partN g) n) (onC L who fun i => storeL L i g n) := by
  refine onC_refE (p := partN g) (n := n) (fun hb => by unfold inL; rw [if_pos (by rw [hb]; decide), hb]) fun i hi hw => ?_
  subst hw
  unfold inL storeL
  rw [refE_part hi h.gd]
  split
  · rename_i hp
    rcases partE_cases L g n with h0 | h0
    · exact absurd h0 hp
    · rw [h0]; exact Same2.refl _
  · rename_i hp
    obtain ⟨m, rfl, hm, hpm⟩ := part_nat (i := i) (Classical.not_not.1 hp) h.gd
    rw [hpm, totP_g]
    simp only [Int.toNat_natCast]
    by_cases hc : 1099511627776 - n < goodOf L m
    · rw [if_pos hc, if_pos (by omega)]; exact Same2.refl _
    · rw [if_neg hc, if_neg (by omega)]
      unfold addF
      rw [allIx_g]
      exact Same2.refl _
theorem out_take (h : Inv L) : Same2 (outL L who 0 n) (onC L who fun i => takeL L i n) := by
  refine onC_refE (p := 0) (n := n) (fun hb => by unfold outL; rw [if_pos (by rw [hb]; decide), hb]) fun i hi hw => ?_
  subst hw
  unfold outL takeL
  rw [refE_cash hi h.g0]
  split
  · rename_i hp
    rcases partE_cases L 0 n with h0 | h0
    · exact absurd h0 hp
    · rw [h0]; exact Same2.refl _
  · have e : (rOf L (i : Int).toNat).free (0 : Int).toNat = L.f i 0 - L.f i 1 := rfl
    rw [e]
    by_cases hc : L.f i 0 - L.f i 1 < n
    · rw [if_pos hc, if_pos hc]; exact Same2.refl _
    · rw [if_neg hc, if_neg hc, Int.sub_eq_add_neg (a := L.f i 0) (b := n)]; exact Same2.refl _
theorem out_fetch (h : Inv L) {g : Int} : Same2 (outL L who (partN g) n) (onC L who fun i => fetchL L i g n) := by
  refine onC_refE (p := partN g) (n := n) (fun hb => by unfold outL; rw [if_pos (by rw [hb]; decide), hb]) fun i hi hw => ?_
  subst hw
  unfold outL fetchL
  rw [refE_part hi h.gd]
  split
  · rename_i hp
    rcases partE_cases L g n with h0 | h0
    · exact absurd h0 hp
    · rw [h0]; exact Same2.refl _
  · rename_i hp
    obtain ⟨m, rfl, hm, hpm⟩ := part_nat (i := i) (Classical.not_not.1 hp) h.gd
    rw [hpm, free_ix, Int.toNat_natCast, Int.toNat_natCast, allIx_g, keptIx_g]
    by_cases hc : L.f i (2 + m) - L.f i (6 + m) < n
    · rw [if_pos hc, if_pos hc]; exact Same2.refl _
    · rw [if_neg hc, if_neg hc, Int.sub_eq_add_neg (a := L.f i (2 + m)) (b := n)]
      unfold addF
      rw [allIx_g]
      exact Same2.refl _
theorem keep_hold (h : Inv L) : Same2 (keepL L who 0 n) (onC L who fun i => holdL L i n) := by
  refine onC_refE (p := 0) (n := n) (fun hb => by
    have : outL L who 0 n = (60, L) := by unfold outL; rw [if_pos (by rw [hb]; decide), hb]
    unfold keepL; rw [this, if_pos (show (60 : Int) ≠ 0 by decide)]) fun i hi hw => ?_
  subst hw
  unfold keepL
  unfold outL holdL
  rw [refE_cash hi h.g0]
  by_cases hp : partE L 0 n ≠ 0
  · rcases partE_cases L 0 n with h0 | h0
    · exact absurd h0 hp
    · rw [if_pos hp, if_pos hp, h0, if_pos (show (1 : Int) ≠ 0 by decide)]; exact Same2.refl _
  · rw [if_neg hp, if_neg hp]
    have e : (rOf L (i : Int).toNat).free (0 : Int).toNat = L.f i 0 - L.f i 1 := rfl
    rw [e]
    by_cases hc : L.f i 0 - L.f i 1 < n
    · rw [if_pos hc, if_pos hc, if_pos (show (61 : Int) ≠ 0 by decide)]; exact Same2.refl _
    · rw [if_neg hc, if_neg hc, if_neg (by simp)]
      exact ⟨rfl, keep_like L i 0 n⟩
theorem keep_lock (h : Inv L) {g : Int} : Same2 (keepL L who (partN g) n) (onC L who fun i => lockL L i g n) := by
  refine onC_refE (p := partN g) (n := n) (fun hb => by
    have : outL L who (partN g) n = (60, L) := by unfold outL; rw [if_pos (by rw [hb]; decide), hb]
    unfold keepL; rw [this, if_pos (show (60 : Int) ≠ 0 by decide)]) fun i hi hw => ?_
  subst hw
  unfold keepL
  unfold outL lockL
  rw [refE_part hi h.gd]
  by_cases hp : partE L g n ≠ 0
  · rcases partE_cases L g n with h0 | h0
    · exact absurd h0 hp
    · rw [if_pos hp, if_pos hp, h0, if_pos (show (1 : Int) ≠ 0 by decide)]; exact Same2.refl _
  · rw [if_neg hp, if_neg hp]
    obtain ⟨m, rfl, hm, hpm⟩ := part_nat (i := i) (Classical.not_not.1 hp) h.gd
    rw [hpm, free_ix, Int.toNat_natCast, Int.toNat_natCast, allIx_g, keptIx_g]
    by_cases hc : L.f i (2 + m) - L.f i (6 + m) < n
    · rw [if_pos hc, if_pos hc, if_pos (show (61 : Int) ≠ 0 by decide)]; exact Same2.refl _
    · rw [if_neg hc, if_neg hc, if_neg (by simp)]
      refine ⟨rfl, ?_⟩
      have := keep_like L i (m + 1) n
      rw [keptIx_g] at this
      exact this
theorem over_free (h : Inv L) : Same2 (overL L who who 0 n) (onC L who fun i => freeL L i n) := by
  refine onC_refE (p := 0) (n := n) (fun hb => by
    unfold overL; rw [if_pos]; unfold refE at hb; split at hb
    · assumption
    · split at hb <;> cases hb) fun i hi hw => ?_
  subst hw
  unfold overL freeL
  rw [if_neg (by omega), refE_cash hi h.g0]
  split
  · rename_i hp
    rcases partE_cases L 0 n with h0 | h0
    · exact absurd h0 hp
    · rw [h0]; exact Same2.refl _
  · rw [kept_ix]
    have e : L.f (i : Int).toNat (keptIx (0 : Int).toNat) = L.f i 1 := rfl
    rw [e]
    by_cases hc : L.f i 1 < n
    · rw [if_pos hc, if_pos hc]; exact Same2.refl _
    · rw [if_neg hc, if_neg hc]
      exact ⟨rfl, over_self L i 0 n⟩
theorem over_unlock (h : Inv L) {g : Int} : Same2 (overL L who who (partN g) n) (onC L who fun i => unlockL L i g n) := by
  refine onC_refE (p := partN g) (n := n) (fun hb => by
    unfold overL; rw [if_pos]; unfold refE at hb; split at hb
    · assumption
    · split at hb <;> cases hb) fun i hi hw => ?_
  subst hw
  unfold overL unlockL
  rw [if_neg (by omega), refE_part hi h.gd]
  split
  · rename_i hp
    rcases partE_cases L g n with h0 | h0
    · exact absurd h0 hp
    · rw [h0]; exact Same2.refl _
  · rename_i hp
    obtain ⟨m, rfl, hm, hpm⟩ := part_nat (i := i) (Classical.not_not.1 hp) h.gd
    rw [hpm, kept_ix, Int.toNat_natCast, Int.toNat_natCast, keptIx_g]
    by_cases hc : L.f i (6 + m) < n
    · rw [if_pos hc, if_pos hc]; exact Same2.refl _
    · rw [if_neg hc, if_neg hc]
      refine ⟨rfl, ?_⟩
      have := over_self L i (m + 1) n
      rw [keptIx_g] at this
      exact this
theorem over_move (h : Inv L) {to : Int} : Same2 (overL L who to 0 n) (onC L who fun i => onC L to fun j => moveL L i j n) := by
  unfold onC
  by_cases hw : 0 ≤ who ∧ who < L.n
  · rw [if_pos hw]
    obtain ⟨i, rfl, hi⟩ : ∃ i : Nat, who = i ∧ i < L.n := ⟨who.toNat, by omega, by omega⟩
    simp only [Int.toNat_natCast]
    by_cases ht : 0 ≤ to ∧ to < L.n
    · rw [if_pos ht]
      obtain ⟨j, rfl, hj⟩ : ∃ j : Nat, to = j ∧ j < L.n := ⟨to.toNat, by omega, by omega⟩
      unfold overL moveL
      rw [if_neg (by omega), refE_cash hj h.g0]
      split
      · rename_i hp
        rcases partE_cases L 0 n with h0 | h0
        · exact absurd h0 hp
        · rw [h0]; exact Same2.refl _
      · rw [kept_ix]
        have e : L.f (i : Int).toNat (keptIx (0 : Int).toNat) = L.f i 1 := rfl
        rw [e]
        by_cases hc : L.f i 1 < n
        · rw [if_pos hc, if_pos hc]; exact Same2.refl _
        · rw [if_neg hc, if_neg hc]
          exact ⟨rfl, over_like L i j 0 n⟩
    · rw [if_neg ht]
      unfold overL
      have : refE L to 0 n = 60 := by unfold refE; rw [if_pos (by omega)]
      rw [if_neg (by omega), if_pos (by rw [this]; decide), this]; exact Same2.refl _
  · rw [if_neg hw]
    unfold overL
    rw [if_pos (by omega)]; exact Same2.refl _
theorem over_hand (h : Inv L) {to g : Int} : Same2 (overL L who to (partN g) n) (onC L who fun i => onC L to fun j => handL L i j g n) := by
  unfold onC
  by_cases hw : 0 ≤ who ∧ who < L.n
  · rw [if_pos hw]
    obtain ⟨i, rfl, hi⟩ : ∃ i : Nat, who = i ∧ i < L.n := ⟨who.toNat, by omega, by omega⟩
    simp only [Int.toNat_natCast]
    by_cases ht : 0 ≤ to ∧ to < L.n
    · rw [if_pos ht]
      obtain ⟨j, rfl, hj⟩ : ∃ j : Nat, to = j ∧ j < L.n := ⟨to.toNat, by omega, by omega⟩
      unfold overL handL
      rw [if_neg (by omega), refE_part hj h.gd]
      split
      · rename_i hp
        rcases partE_cases L g n with h0 | h0
        · exact absurd h0 hp
        · rw [h0]; exact Same2.refl _
      · rename_i hp
        obtain ⟨m, rfl, hm, hpm⟩ := part_nat (i := i) (Classical.not_not.1 hp) h.gd
        rw [hpm, kept_ix]
        simp only [Int.toNat_natCast]
        rw [keptIx_g]
        by_cases hc : L.f i (6 + m) < n
        · rw [if_pos hc, if_pos hc]; exact Same2.refl _
        · rw [if_neg hc, if_neg hc]
          refine ⟨rfl, ?_⟩
          have := over_like L i j (m + 1) n
          unfold overTo at this
          rw [keptIx_g, allIx_g] at this
          exact this
    · rw [if_neg ht]
      unfold overL
      have : refE L to (partN g) n = 60 := by unfold refE; rw [if_pos (by omega)]
      rw [if_neg (by omega), if_pos (by rw [this]; decide), this]; exact Same2.refl _
  · rw [if_neg hw]
    unfold overL
    rw [if_pos (by omega)]; exact Same2.refl _
theorem mark_mark {t : ByteArray} : Same2 (rmarkL L who n t) (onC L who fun i => markL L i n t) := by
  unfold rmarkL onC
  by_cases hw : 0 ≤ who ∧ who < L.n
  · rw [if_pos hw, if_neg (by omega)]; exact Same2.refl _
  · rw [if_neg hw, if_pos (by omega)]; exact Same2.refl _
end
section
variable {h : PH} {R : AEnd → PH → Prop} {q : Nat} {vL : Array Value} {L : Led}
theorem told_ok (hr : RefAt h q (.agg vL) L) (hi : Inv L) (hn : 0 < L.n) {a : ActV} (hR : ∀ q' v' h', Sub h h' → RefAt h' q' (.agg v') (doneL L a).2 → R (.ret (.tuple #[.agg v', .int .i64 (doneL L a).1])) h') :
    ACalls Try.prog 21 #[.agg vL, a.v] h R := by
  refine call21 ?_
  unfold sh21
  have two := hr.two
  have hs := hi.small
  simp only [Value.cells, ActV.v]
  refine vNew_gen fun t2 G1 h2 s1 h22 => vNew_gen fun t3 G2 h3 s2 h33 => vNew_gen fun t4 G h4 s3 h44 => ?_
  have g2 := s3 _ _ (s2 _ _ h22)
  have g3 := s3 _ _ h33
  have hsG := (s1.trans s2).trans s3
  have h4h := (s1.trans s2).fresh h4
  have lv : ∀ {K : Value → Prop}, vLoad (some 2) (ptr t2) G K ↔ K (.agg vL) := fun {K} => by rw [vLoad_n g2 (by omega), two.2.2]
  have hl : ∀ {K : Value → Prop} {o : Nat} {v : Value}, a.cells[o]? = some v → (vLoad none (.pointer (some ⟨t3, o, none⟩)) G K ↔ K v) := fun hv => vLoad_1 g3 hv
  have q0 : a.cells[0]? = some (.int .i64 a.k) := rfl
  have q1 : a.cells[1]? = some (.int .i64 a.who) := rfl
  have q2 : a.cells[2]? = some (.int .i64 a.to) := rfl
  have q3 : a.cells[3]? = some (.int .i64 a.good) := rfl
  have q4 : a.cells[4]? = some (.int .i64 a.n) := rfl
  have q5 : a.cells[5]? = some (.string a.t) := rfl
  have hrG := hr.sub hsG
  have fin : ∀ (X : Int × Led), Same2 X (doneL L a) → ∀ q' v' h', Sub G h' → RefAt h' q' (.agg v') X.2 →
      AEnd.elim (fun t16 h_5 => vExt t16 0 fun t17 => vExt t16 1 fun t18 => vStore 2 (ptr t4) t17 h_5 fun h_6 => vLoad (some 2) (ptr t4) h_6 fun rv => R (.ret (.tuple #[rv, t18])) h_6) (fun c h => R (.pan c) h) (.ret (.tuple #[.agg v', .int .i64 X.1])) h' := fun X hX q' v' h' sh hra => by
    simp only [AEnd.elim, vExt_20, vExt_21]
    have two' := hra.two
    refine vStore_to (cs := v') (sh _ _ h44) (by rfl) two'.1 two'.2.1 ?_
    rw [vLoad_n (ins_eq _ _ _) (by omega), two'.2.2]
    have hq4 : q' ≠ t4 := fun e => by
      obtain ⟨c, _, _, x, _⟩ := hra
      rw [e, sh _ _ h44] at x
      cases x
    rw [hX.e]
    exact hR q' v' _ (Sub.put (hsG.trans sh) h4h) ((hra.ins hq4).like hX.l)
  simp only [vFA_p, Nat.zero_add, hl q0, hl q1, hl q2, hl q3, hl q4, hl q5]
  refine around_11 ?_
  simp only [AEnd.elim, vBin_eql, dIf_b, decide_eq_true_eq, decide_eq_false_iff_not, vFA_p, Nat.zero_add, hl q0, hl q1, hl q2, hl q3, hl q4, hl q5, lv]
  unfold doneL at fin
  clear hR
  refine ⟨fun e => ?_, fun e => ?_⟩
  · rw [if_pos e] at fin
    exact rin_ok (p := 0) hrG hs hn (fin _ (in_pay hi))
  rw [if_neg e] at fin
  refine ⟨fun e => ?_, fun e => ?_⟩
  · rw [if_pos e] at fin
    exact rout_ok (p := 0) hrG hs hn (fun q' v' h' x y _ => fin _ (out_take hi) q' v' h' x y)
  rw [if_neg e] at fin
  refine ⟨fun e => ?_, fun e => ?_⟩
  · rw [if_pos e] at fin
    refine rpart_ok ?_
    simp only [AEnd.elim, lv, hl q1, hl q4, true_and]
    exact rin_ok (p := partN a.good) hrG hs hn (fin _ (in_store hi))
  rw [if_neg e] at fin
  refine ⟨fun e => ?_, fun e => ?_⟩
  · rw [if_pos e] at fin
    refine rpart_ok ?_
    simp only [AEnd.elim, lv, hl q1, hl q4, true_and]
    exact rout_ok (p := partN a.good) hrG hs hn (fun q' v' h' x y _ => fin _ (out_fetch hi) q' v' h' x y)
  rw [if_neg e] at fin
  refine ⟨fun e => ?_, fun e => ?_⟩
  · rw [if_pos e] at fin
    exact rkeep_ok (p := 0) hrG hs hn (fin _ (keep_hold hi))
  rw [if_neg e] at fin
  refine ⟨fun e => ?_, fun e => ?_⟩
  · rw [if_pos e] at fin
    exact rloose_ok (p := 0) hrG hs hn (fin _ (over_free hi))
  rw [if_neg e] at fin
  refine ⟨fun e => ?_, fun e => ?_⟩
  · rw [if_pos e] at fin
    refine rpart_ok ?_
    simp only [AEnd.elim, lv, hl q1, hl q4, true_and]
    exact rkeep_ok (p := partN a.good) hrG hs hn (fin _ (keep_lock hi))
  rw [if_neg e] at fin
  refine ⟨fun e => ?_, fun e => ?_⟩
  · rw [if_pos e] at fin
    refine rpart_ok ?_
    simp only [AEnd.elim, lv, hl q1, hl q4, true_and]
    exact rloose_ok (p := partN a.good) hrG hs hn (fin _ (over_unlock hi))
  rw [if_neg e] at fin
  refine ⟨fun e => ?_, fun e => ?_⟩
  · rw [if_pos e] at fin
    exact rover_ok (p := 0) hrG hs hn (fin _ (over_move hi))
  rw [if_neg e] at fin
  refine ⟨fun e => ?_, fun e => ?_⟩
  · rw [if_pos e] at fin
    refine rpart_ok ?_
    simp only [AEnd.elim, lv, hl q1, hl q2, hl q4, true_and]
    exact rover_ok (p := partN a.good) hrG hs hn (fin _ (over_hand hi))
  rw [if_neg e] at fin
  exact rmark_ok hrG hs hn (fin _ mark_mark)
end
end Go.Pw

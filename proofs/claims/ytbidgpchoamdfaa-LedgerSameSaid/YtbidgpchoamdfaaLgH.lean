/- The wire's writers, and a record's key. -/
import Derived.Test.YtbidgpchoamdfaaLgG
set_option linter.unusedSimpArgs false
set_option linter.unusedVariables false
namespace Go.Pw
open Go Go.Proofs

theorem encN_small {n : Nat} (h : n < 128) : encN n = [UInt8.ofNat n] := by rw [encN, dif_pos h]
theorem encN_big {n : Nat} (h : ¬ n < 128) : encN n = UInt8.ofNat (n % 128 + 128) :: encN (n / 128) := by rw [encN, dif_neg h]
theorem encN_len : ∀ (k n : Nat), n < 128 ^ (k + 1) → (encN n).length ≤ k + 1
  | k, n, h => by
    by_cases hs : n < 128
    · rw [encN_small hs]; simp
    · rw [encN_big hs]
      match k, h with
      | 0, h => exact absurd h (by omega)
      | k + 1, h =>
        have := encN_len k (n / 128) (by rw [Nat.pow_succ] at h; exact Nat.div_lt_of_lt_mul (by rw [Nat.mul_comm]; exact h))
        simp only [List.length_cons]; omega
theorem encN_10 {n : Nat} (h : n < 9223372036854775808) : (encN n).length ≤ 10 := encN_len 9 n (by omega)
theorem u8_of {n : Nat} (h : n < 256) : ((UInt8.ofNat n).toNat : Int) = (n : Int) := by
  rw [UInt8.toNat_ofNat']; omega

theorem wrap_u8n {n : Nat} (h : n < 256) {x : Int} (hx : x = (n : Int)) : IntKind.u8.wrap x = ((UInt8.ofNat n).toNat : Int) := by
  rw [hx, wrap_u8 (by omega) (by omega), u8_of h]
section
variable {h h0 : PH} {R : AEnd → PH → Prop} {p : Nat} {bs : List UInt8} {s : Value}

theorem number_ok {n : Nat} (hw : WB h0 p bs h s) (hn : n < 9223372036854775808) (hl : bs.length < 1000000000) (hR : ∀ h3 s3, WB h0 p (bs ++ encN n) h3 s3 → R (.ret (ptr p)) h3) :
    ACalls Try.prog 54 #[ptr p, .int .i64 n] h R := by
  refine call54 ?_
  unfold sh54
  refine lf_intro (fun m s' g => ∃ (k : Nat) (bs' : List UInt8) (s3 : Value), s' = .int .i64 k ∧ m = k ∧ k < 9223372036854775808 ∧ WB h0 p bs' g s3 ∧ bs' ++ encN k = bs ++ encN n) n ⟨n, bs, s, rfl, rfl, hn, hw, rfl⟩ ?_
  rintro m s' g ⟨k, bs', s3, rfl, rfl, hk, hw', he⟩
  have hlen : bs'.length + (encN m).length = bs.length + (encN n).length := by rw [← List.length_append, he, List.length_append]
  have h10 := encN_10 hn
  unfold b54_1
  simp only [vBin_geq, dIf_b, decide_eq_true_eq, decide_eq_false_iff_not]
  refine ⟨fun hge => ?_, fun hlt => ?_⟩
  · have hb : ¬ m < 128 := by omega
    rw [encN_big hb] at he hlen
    simp only [vNil_p, vFA_p, vLoad_1 hw'.hp (show (#[s3] : Array Value)[0 + 0]? = some s3 from rfl)]
    rw [vBin_and127 _ (by omega) (by omega), vBin_or128 _ (by omega) (by omega)]
    simp only [vConvI_i]
    rw [wrap_u8n (n := m % 128 + 128) (by omega) (by omega)]
    refine wb_push hw' (by simp only [List.length_cons] at hlen; omega) fun h4 s4 hw4 => ?_
    rw [vBin_shr7 _ (by omega)]
    exact ⟨trivial, m / 128, by omega, m / 128, _, s4, by rw [show ((m : Int) / 128) = ((m / 128 : Nat) : Int) by omega], rfl, by omega, hw4, by rw [List.append_assoc]; exact he⟩
  · have hb : m < 128 := by omega
    intro r hr
    simp only [Prod.mk.injEq] at hr
    obtain ⟨r0, r1⟩ := hr
    rw [r0, r1]
    rw [encN_small hb] at he hlen
    simp only [vNil_p, vFA_p, vLoad_1 hw'.hp (show (#[s3] : Array Value)[0 + 0]? = some s3 from rfl), vConvI_i]
    rw [wrap_u8n (n := m) (by omega) rfl]
    refine wb_push hw' (by simp only [List.length_cons] at hlen; omega) fun h4 s4 hw4 => ?_
    rw [he] at hw4
    exact hR _ _ hw4

theorem text_ok {t : ByteArray} (hw : WB h0 p bs h s) (ht : t.size < 16777216) (hl : bs.length < 16777216) (hR : ∀ h3 s3, WB h0 p (bs ++ (encN t.size ++ t.data.toList)) h3 s3 → R (.ret (ptr p)) h3) :
    ACalls Try.prog 55 #[ptr p, .string t] h R := by
  refine call55 ?_
  unfold sh55
  simp only [vLenStr_s]
  refine number_ok hw (by omega) (by omega) fun h3 s3 hw3 => ?_
  have h10 := encN_10 (show t.size < 9223372036854775808 by omega)
  simp only [AEnd.elim, vNil_p, vFA_p, vLoad_1 hw3.hp (show (#[s3] : Array Value)[0 + 0]? = some s3 from rfl)]
  refine wb_text hw3 (by rw [List.length_append]; omega) fun h4 s4 hw4 => ?_
  rw [List.append_assoc] at hw4
  exact hR _ _ hw4

theorem wb_conv {K : Value → Prop} (hw : WB h0 p bs h s) (hk : K (.string ⟨bs.toArray⟩)) : vConvBS s h K := by
  rcases hw.buf with ⟨rfl, rfl⟩ | ⟨g, c, cap, rfl, hg, _, _, hcs, hle, htk⟩
  · exact .inl ⟨rfl, hk⟩
  · exact .inr ⟨g, 0, bs.length, cap, c, _, _, bs, rfl, hg, rfl, by simpa using htk, hk⟩
theorem wb_new (hp : h p = none) : WB h p [] (ins h p (.cells #[.slice none 0 0] 95)) (.slice none 0 0) := ⟨sub_ins _ hp, hp, ins_eq _ _ _, .inl ⟨rfl, rfl⟩⟩

theorem putInt_ok {n : Nat} (hn : n ≤ 9007199254740992) (hR : R (.ret (.tuple #[.string ⟨(encN n).toArray⟩, .int .i64 0])) h) : ACalls Try.prog 24 #[.int .i64 n] h R := by
  refine ACalls.drop (call24 ?_)
  unfold sh24
  have h1 : ¬ ((n : Int) < 0) := by omega
  have h2 : ¬ (9007199254740992 < (n : Int)) := by omega
  simp [h1, h2]
  refine vNew_i fun p hp => ?_
  refine number_ok (wb_new hp) (by omega) (by simp) fun h3 s3 hw3 => ?_
  simp [AEnd.elim, vLoad_1 hw3.hp (show (#[s3] : Array Value)[0]? = some s3 from rfl)]
  refine wb_conv hw3 ?_
  exact ⟨h, hw3.sub, by simpa using hR⟩

theorem putText_ok {t : ByteArray} (ht : t.size ≤ 1048576) (hR : R (.ret (.tuple #[.string ⟨(encN t.size ++ t.data.toList).toArray⟩, .int .i64 0])) h) : ACalls Try.prog 25 #[.string t] h R := by
  refine ACalls.drop (call25 ?_)
  unfold sh25
  have h1 : ¬ (1048576 < (t.size : Int)) := by omega
  simp [h1]
  refine vNew_i fun p hp => ?_
  refine text_ok (wb_new hp) (by omega) (by simp) fun h3 s3 hw3 => ?_
  simp [AEnd.elim, vLoad_1 hw3.hp (show (#[s3] : Array Value)[0]? = some s3 from rfl)]
  refine wb_conv hw3 ?_
  exact ⟨h, hw3.sub, by simpa using hR⟩

/-- An account's key. -/
def keyB (i : Nat) : ByteArray := ⟨#[97, 99, 99, 116, 47, UInt8.ofNat (48 + i / 10), UInt8.ofNat (48 + i % 10)]⟩
theorem fill_two (a b : UInt8) : Instr.fill (fun i => some (i * 1, 1)) (rep #[Value.int IntKind.u8 0] (2 * 1)) [(0, Value.int IntKind.u8 ↑a.toNat), (1, Value.int IntKind.u8 ↑b.toNat)] = some #[.int .u8 a.toNat, .int .u8 b.toNat] := by
  have e : Array.range 2 = #[0, 1] := by decide
  simp [Instr.fill, rep, Value.cells, e]
theorem key_ok {i : Nat} (hi : i < 100) (hR : R (.ret (.string (keyB i))) h) : ACalls Try.prog 26 #[.int .i64 i] h R := by
  refine ACalls.drop (call26 ?_)
  unfold sh26
  rw [vBin_quo _ _ _ _ (by omega)]
  have e1 : ((i : Int).tdiv 10) = ((i / 10 : Nat) : Int) := by rw [Int.tdiv_eq_ediv_of_nonneg (by omega)]; omega
  have e2 : ((i : Int).tmod 10) = ((i % 10 : Nat) : Int) := by rw [Int.tmod_eq_emod_of_nonneg (by omega)]; omega
  rw [e1, w64 (by omega) (by omega)]
  simp only [vBin_add, vConvI_i]
  rw [w64 (by omega) (by omega), wrap_u8n (n := 48 + i / 10) (by omega) (by omega), vBin_rem _ _ _ _ (by omega), e2]
  simp only [vBin_add, vConvI_i]
  rw [w64 (by omega) (by omega), wrap_u8n (n := 48 + i % 10) (by omega) (by omega)]
  refine ⟨by omega, _, fill_two _ _, fun q hq => ?_⟩
  refine .inr ⟨q, 0, 2, 2, _, _, _, [UInt8.ofNat (48 + i / 10), UInt8.ofNat (48 + i % 10)], rfl, ins_eq _ _ _, rfl, rfl, ?_⟩
  show vBin _ _ _ _ _ _
  rw [vBin_sadd _ _ _ (by simp [ByteArray.size])]
  refine ⟨h, sub_ins _ hq, ?_⟩
  have : (⟨#[97, 99, 99, 116, 47]⟩ : ByteArray) ++ ⟨[UInt8.ofNat (48 + i / 10), UInt8.ofNat (48 + i % 10)].toArray⟩ = keyB i := by
    apply ByteArray.ext
    rw [ByteArray.data_append]
    rfl
  rw [this]; exact hR
end
end Go.Pw

/- Bytes: the records' numbers and texts as the program writes them. -/
import Derived.Test.YtbidgpchoamdfaaLgD
set_option linter.unusedSimpArgs false
set_option linter.unusedVariables false
namespace Go.Pw
open Go Go.Proofs

/-! ### words on bits -/
section
variable {P : Program} {K : Value → Prop}
theorem ofInt_toNat {n : Int} (h0 : 0 ≤ n) (h1 : n < 18446744073709551616) : (BitVec.ofInt 64 n).toNat = n.toNat := by
  rw [BitVec.toNat_ofInt]
  have : n % ((2 ^ 64 : Nat) : Int) = n := Int.emod_eq_of_lt h0 (by simpa using h1)
  rw [this]
theorem vBin_and127 (t : TypeId) {n : Int} (h0 : 0 ≤ n) (h1 : n ≤ 9223372036854775807) : vBin P .and t (.int .i64 n) (.int .i64 127) K ↔ K (.int .i64 (n % 128)) := by
  have e : ((n % 2 ^ IntKind.i64.bits).toNat &&& 127 % 2 ^ IntKind.i64.bits) = n.toNat % 128 := by
    show ((n % 18446744073709551616).toNat &&& 127) = _
    rw [Int.emod_eq_of_lt h0 (by omega)]
    exact Nat.and_two_pow_sub_one_eq_mod n.toNat 7
  refine vBin_of fun _ _ => ?_
  simp [eqGuard, binOp, Op.intBits]
  rw [e, show ((n.toNat % 128 : Nat) : Int) = n % 128 by omega, w64 (by omega) (by omega)]
  rfl
theorem or128 : ∀ x : Nat, x < 128 → x ||| 128 = x + 128 := by decide
theorem vBin_or128 (t : TypeId) {n : Int} (h0 : 0 ≤ n) (h1 : n < 128) : vBin P .or t (.int .i64 n) (.int .i64 128) K ↔ K (.int .i64 (n + 128)) := by
  have e : ((n % 2 ^ IntKind.i64.bits).toNat ||| 128 % 2 ^ IntKind.i64.bits) = n.toNat + 128 := by
    show ((n % 18446744073709551616).toNat ||| 128) = _
    rw [Int.emod_eq_of_lt h0 (by omega)]
    exact or128 _ (by omega)
  refine vBin_of fun _ _ => ?_
  simp [eqGuard, binOp, Op.intBits]
  rw [e, show ((n.toNat + 128 : Nat) : Int) = n + 128 by omega, w64 (by omega) (by omega)]
  rfl
theorem vBin_shr7 (t : TypeId) {n : Int} (h0 : 0 ≤ n) : vBin P .shr t (.int .i64 n) (.int .u64 7) K ↔ K (.int .i64 (n / 128)) := by
  refine vBin_of fun _ _ => ?_
  have e : n.fdiv 128 = n / 128 := Int.fdiv_eq_ediv_of_nonneg n (by omega)
  simp [eqGuard, binOp, Op.shift, IntKind.bits, e]
  rfl
theorem wrap_u8 {n : Int} (h0 : 0 ≤ n) (h1 : n < 256) : IntKind.u8.wrap n = n := by
  simp [IntKind.wrap, IntKind.bits, IntKind.signed]; omega
end

/-- A number's letters. -/
def encN (n : Nat) : List UInt8 := if h : n < 128 then [UInt8.ofNat n] else UInt8.ofNat (n % 128 + 128) :: encN (n / 128)
termination_by n
decreasing_by omega

/-- A writer at p: bs is written; everything of h0 stays. -/
structure WB (h0 : PH) (p : Nat) (bs : List UInt8) (h : PH) (s : Value) : Prop where
  sub : Sub h0 h
  hp0 : h0 p = none
  hp : h p = some (.cells #[s] 95 (0, 0))
  buf : (s = .slice none 0 0 ∧ bs = []) ∨ ∃ g c cap, s = .slice (some ⟨g, 0, none⟩) bs.length cap ∧ h g = some (.cells c 5 (0, 0)) ∧ h0 g = none ∧ g ≠ p ∧ c.size = cap ∧ bs.length ≤ cap ∧ c.toList.take bs.length = byteCells bs

theorem byteCells_len (l : List UInt8) : (byteCells l).length = l.length := by simp [byteCells]
theorem byteCells_app (a b : List UInt8) : byteCells (a ++ b) = byteCells a ++ byteCells b := by simp [byteCells]
theorem byte_one {l : List UInt8} : ∀ v ∈ byteCells l, v.oneCell' = true := by
  intro v hv
  simp only [byteCells, List.mem_map] at hv
  obtain ⟨x, _, rfl⟩ := hv
  rfl

section
variable {h h0 : PH} {p : Nat} {bs : List UInt8} {s : Value} {K : PH → Prop}

/-- What an append of the letters 'news' onto a writer's own slice gives, once it is stored. -/
theorem wb_app {str : Bool} {x : Value} {news : List UInt8} {h1 : PH} (hw : WB h0 p bs h s) (hs1 : Sub h h1) (hxs : ∀ c, x ≠ .slice none 0 c) (hlen : (bs.length + news.length) * 1 ≤ roomBytes)
    (hsrc : ∀ K' : Nat → List Value → Prop, K' news.length (byteCells news) → srcCells str 1 x h1 K') (hap : ∀ b off l c, x = .slice (some ⟨b, off, none⟩) l c → h b = none)
    (hk : ∀ h3 s3, WB h0 p (bs ++ news) h3 s3 → K h3) :
    vAppend str 5 1 1 s x h1 fun t h2 => vStore 1 (.pointer (some ⟨p, 0, none⟩)) t h2 K := by
  unfold vAppend
  refine hsrc _ ?_
  rcases hw.buf with ⟨rfl, rfl⟩ | ⟨g, c, cap, rfl, hg, hg0, hgp, hcs, hle, htk⟩
  · refine .inl ⟨rfl, fun hn => ?_, fun hn => ⟨by simpa using hlen, fun b cap rest hb hc hl => ?_⟩⟩
    · have : news = [] := List.eq_nil_of_length_eq_zero hn
      subst this
      refine vStore_to (hs1 _ _ hw.hp) (cs := #[.slice none 0 0]) (by rfl) (by rfl) (by rfl) ?_
      rw [ins_self (hs1 _ _ hw.hp)]
      refine hk _ (.slice none 0 0) ⟨hw.sub.trans hs1, hw.hp0, hs1 _ _ hw.hp, .inl ⟨rfl, rfl⟩⟩
    · have hbp : p ≠ b := fun e => by have := hs1 _ _ hw.hp; rw [e, hb] at this; cases this
      refine vStore_to (cs := #[.slice (some ⟨b, 0, none⟩) news.length cap]) (by rw [ins_ne _ _ hbp]; exact hs1 _ _ hw.hp) (by rfl) (by rfl) (by rfl) ?_
      refine hk _ _ ⟨Sub.put (Sub.put (hw.sub.trans hs1) ((hw.sub.trans hs1).fresh hb)) hw.hp0, hw.hp0, ins_eq _ _ _, .inr ⟨b, (byteCells news ++ rest).toArray, cap, by simp, ?_, (hw.sub.trans hs1).fresh hb, fun e => hbp e.symm, ?_, by simpa using hc, ?_⟩⟩
      · rw [ins_ne _ _ (fun e => hbp e.symm)]; exact ins_eq _ _ _
      · simp only [List.size_toArray, List.length_append]; omega
      · simp [byteCells_len]
  · refine .inr ⟨g, bs.length, cap, c, rfl, hs1 _ _ hg, by omega, hle, hlen, fun b off l c' hx e => ?_, fun b cap' rest hb hc hl => ?_⟩
    · have := hap b off l c' hx
      rw [e, hg] at this; cases this
    · have hp1 := hs1 _ _ hw.hp
      have hbp : p ≠ b := fun e => by
        rcases hb with rfl | hb
        · exact hgp e.symm
        · rw [← e, hp1] at hb; cases hb
      have hb0 : h0 b = none := by
        rcases hb with rfl | hb
        · exact hg0
        · exact (hw.sub.trans hs1).fresh hb
      have hd : ∀ y, y ≠ g → dropB h1 g y = h1 y := fun y hy => by
        unfold dropB
        cases hq : Nat.beq y g
        · rfl
        · exact absurd (Nat.eq_of_beq_eq_true hq) hy
      have hsd : Sub h0 (dropB h1 g) := fun y o hy => by
        rw [hd y (fun e => by rw [e, hg0] at hy; cases hy)]
        exact (hw.sub.trans hs1) y o hy
      refine vStore_to (cs := #[.slice (some ⟨b, 0, none⟩) (bs.length + news.length) cap']) (by rw [ins_ne _ _ hbp, hd p (fun e => hgp e.symm)]; exact hp1) (by rfl) (by rfl) (by rfl) ?_
      have e1 : List.take (bs.length * 1) c.toList = byteCells bs := by rw [Nat.mul_one]; exact htk
      refine hk _ _ ⟨Sub.put (Sub.put hsd hb0) hw.hp0, hw.hp0, ins_eq _ _ _, .inr ⟨b, _, cap', by simp, by rw [ins_ne _ _ (fun e => hbp e.symm)]; exact ins_eq _ _ _, hb0, fun e => hbp e.symm, ?_, by simpa using hc, ?_⟩⟩
      · simp only [List.size_toArray, List.length_append] at hl ⊢; omega
      · rw [e1, byteCells_app, ← byteCells_app bs news]
        simp only
        rw [show (bs ++ news).length = (byteCells (bs ++ news)).length from (byteCells_len _).symm, List.take_left]

theorem fill_one (b : UInt8) : Instr.fill (fun i => some (i * 1, 1)) (rep #[Value.int IntKind.u8 0] (1 * 1)) [(0, Value.int IntKind.u8 ↑b.toNat)] = some #[.int .u8 b.toNat] := by
  have e : Array.range 1 = #[0] := by decide
  simp [Instr.fill, rep, Value.cells, e]
theorem wb_push {b : UInt8} (hw : WB h0 p bs h s) (hl : bs.length < 1073741824) (hk : ∀ h3 s3, WB h0 p (bs ++ [b]) h3 s3 → K h3) :
    (1 * 1 ≤ 2 ^ 24) ∧ vBuildS 5 1 1 #[.int .u8 0] [(0, .int .u8 b.toNat)] h fun t h1 =>
      (0 < 1) ∧ (0 < 1) ∧ (Array.size #[(.int .u8 0 : Value)] = 1) ∧ vAppend false 5 1 1 s t h1 fun t2 h2 => vStore 1 (.pointer (some ⟨p, 0, none⟩)) t2 h2 K := by
  refine ⟨by omega, #[.int .u8 b.toNat], fill_one b, fun q hq => ⟨by omega, by omega, rfl, ?_⟩⟩
  refine wb_app (news := [b]) hw (Sub.put (Sub.refl h) hq) (fun c e => by cases e) (by simp only [List.length_cons, List.length_nil, roomBytes]; omega) (fun K' hk' => .inr (.inr ⟨rfl, q, 0, 1, 1, _, _, _, rfl, ins_eq _ _ _, ?_, ?_, ?_⟩)) (fun b off l c e => by cases e; exact hq) hk
  · simp
  · intro v hv
    have : v = .int .u8 b.toNat := by simpa using hv
    subst this; rfl
  · exact hk'
theorem wb_text {t : ByteArray} (hw : WB h0 p bs h s) (hl : bs.length + t.size < 1073741824) (hk : ∀ h3 s3, WB h0 p (bs ++ t.data.toList) h3 s3 → K h3) :
    (0 < 1) ∧ (0 < 1) ∧ (Array.size #[(.int .u8 0 : Value)] = 1) ∧ vAppend true 5 1 1 s (.string t) h fun t2 h2 => vStore 1 (.pointer (some ⟨p, 0, none⟩)) t2 h2 K := by
  refine ⟨by omega, by omega, rfl, ?_⟩
  have hz : t.data.toList.length = t.size := by rw [Array.length_toList]; rfl
  refine wb_app (news := t.data.toList) hw (Sub.refl h) (fun c e => by cases e) (by rw [hz]; simp only [roomBytes]; omega) (fun K' hk' => .inl ⟨rfl, t, rfl, rfl, by rw [← hz]; exact hk'⟩) (fun b off l c e => by cases e) hk
end
end Go.Pw

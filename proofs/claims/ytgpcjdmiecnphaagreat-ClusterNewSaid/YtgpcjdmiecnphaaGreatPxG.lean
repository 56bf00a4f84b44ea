/- Sums and pieces: the executor tells the truth. -/
import Derived.Test.YtgpcjdmiecnphaaGreatPxF
set_option linter.unusedSimpArgs false
set_option linter.unusedVariables false
namespace Go.Px
open Go Go.Pw
section
variable {P : Program} {ns : List Nm}
theorem ltN_irrefl : ∀ l : List Nat, ltN l l = false
  | [] => rfl
  | a :: l => by
    have h1 : Nat.blt (Nat.mod a 256) (Nat.mod a 256) = false := by cases h : Nat.blt (Nat.mod a 256) (Nat.mod a 256) with | false => rfl | true => exact absurd (blt_iff.1 h) (Nat.lt_irrefl _)
    simp only [ltN, h1, Nat.beq_refl, ltN_irrefl l]
theorem ltN_total : ∀ l m : List Nat, (!ltN m l) = (ltN l m || eqN l m)
  | [], [] => rfl
  | [], _ :: _ => rfl
  | _ :: _, [] => rfl
  | a :: l, b :: m => by
    simp only [ltN, eqN]
    have h := ltN_total l m
    rcases Nat.lt_trichotomy (Nat.mod a 256) (Nat.mod b 256) with hlt | heq | hgt
    · have h1 : Nat.blt (Nat.mod a 256) (Nat.mod b 256) = true := blt_iff.2 hlt
      have h2 : Nat.blt (Nat.mod b 256) (Nat.mod a 256) = false := by cases h : Nat.blt (Nat.mod b 256) (Nat.mod a 256) with | false => rfl | true => exact absurd (blt_iff.1 h) (Nat.lt_asymm hlt)
      have h3 : Nat.beq (Nat.mod b 256) (Nat.mod a 256) = false := by cases h : Nat.beq (Nat.mod b 256) (Nat.mod a 256) with | false => rfl | true => exact absurd (Nat.eq_of_beq_eq_true h) (Nat.ne_of_gt hlt)
      simp only [h1, h2, h3]; rfl
    · have h1 : Nat.blt (Nat.mod b 256) (Nat.mod b 256) = false := by cases h : Nat.blt (Nat.mod b 256) (Nat.mod b 256) with | false => rfl | true => exact absurd (blt_iff.1 h) (Nat.lt_irrefl _)
      rw [heq]
      simp only [h1, Nat.beq_refl]
      exact h
    · have h1 : Nat.blt (Nat.mod b 256) (Nat.mod a 256) = true := blt_iff.2 hgt
      have h2 : Nat.blt (Nat.mod a 256) (Nat.mod b 256) = false := by cases h : Nat.blt (Nat.mod a 256) (Nat.mod b 256) with | false => rfl | true => exact absurd (blt_iff.1 h) (Nat.lt_asymm hgt)
      have h3 : Nat.beq (Nat.mod a 256) (Nat.mod b 256) = false := by cases h : Nat.beq (Nat.mod a 256) (Nat.mod b 256) with | false => rfl | true => exact absurd (Nat.eq_of_beq_eq_true h) (Nat.ne_of_gt hgt)
      simp only [h1, h2, h3]; rfl
theorem leN (l m : List Nat) : (!ltN m l) = (ltN l m || (bytesN l).toList == (bytesN m).toList) := by
  rw [ltN_total]
  congr 1
  rw [toL_bytes, toL_bytes, Bool.eq_iff_iff, beq_iff_eq, eqN_ok]
theorem pureRun_program : pureRun P program = some P := rfl
theorem str_ok {op : BinOp} {t : TypeId} {l m : List Nat} {v : CV} (h : xStr op l m = some v) : Does ns v (vBin P op t (.string (bytesN l)) (.string (bytesN m))) := by
  have lt : ∀ (a b : List Nat), Op.bytesLess (bytesN a).toList (bytesN b).toList = ltN a b := fun a b => by rw [toL_bytes, toL_bytes, ltN_ok]
  unfold xStr at h
  cases op <;> simp only [reduceCtorEq] at h
  case add =>
    cases hb : Nat.ble (l.length + m.length) 9223372036854775807 <;> rw [hb] at h <;> cases h
    have := Nat.le_of_ble_eq_true hb
    refine ⟨_, rfl, fun K hk => (vBin_sadd _ _ _ (by rw [bytesN_size, bytesN_size]; exact this)).2 (by rw [bytesN_app]; exact hk)⟩
  all_goals
    cases h
    refine ⟨_, rfl, fun K hk => (vBin_of (v := .bool _) fun _ _ => ?_).2 hk⟩
  · rw [← lt]; rfl
  · have e := eqN_ok l m
    have : (!ltN m l) = (ltN l m || (bytesN l).toList == (bytesN m).toList) := leN l m
    rw [this, ← lt]; rfl
  · have : ltN m l = !(ltN l m || (bytesN l).toList == (bytesN m).toList) := by rw [← leN l m, Bool.not_not]
    rw [this, ← lt]; rfl
  · rw [← lt]; rfl
theorem xBin_ok {op : BinOp} {t : TypeId} {a b v : CV} {x y : Value} (hx : toV ns a = some x) (hy : toV ns b = some y) (h : xBin P op t a b = some v) : Does ns v (vBin P op t x y) := by
  unfold xBin at h
  split at h
  · rename_i u w hu hw
    have e1 := (toB_ok (ns := ns) hu).symm.trans hx
    have e2 := (toB_ok (ns := ns) hw).symm.trans hy
    cases e1; cases e2
    split at h
    · rename_i r hr
      exact ⟨r, ofVf_ok h, fun K hk => (vBin_of fun ox oy => pureRun_seq (guard_B hu op t ox oy) hr).2 hk⟩
    · cases h
  · split at h
    · cases he : xEq P t a b with
      | none => rw [he] at h; cases h
      | some r => rw [he] at h; cases h; exact ⟨_, rfl, (xEq_ok hx hy he).1⟩
    · cases he : xEq P t a b with
      | none => rw [he] at h; cases h
      | some r => rw [he] at h; cases h; exact ⟨_, rfl, (xEq_ok hx hy he).2⟩
    · split at h
      · rw [toV_str hx, toV_str hy]
        exact str_ok h
      · cases h
theorem fInt_ok {n : Nat} {v : CV} (h : fInt n = some v) : v = .int .i64 (.ofNat n) ∧ n < 9223372036854775808 := by
  cases n with
  | zero => cases h; exact ⟨rfl, by decide⟩
  | succ n =>
    simp only [fInt] at h
    cases hb : Nat.blt n 9223372036854775807 <;> rw [hb] at h <;> cases h
    have := blt_iff.1 hb
    exact ⟨rfl, by omega⟩
theorem two_ok {a b : CV} {f : Nat → Nat → Option CV} {g : Option CV} {v : CV} {W : Prop} (h : two a b f g = some v) (h1 : ∀ x y, a = .int .i64 (.ofNat x) → b = .int .i64 (.ofNat y) → f x y = some v → W) (h2 : g = some v → W) : W := by
  unfold two at h
  cases ha : as64 a with
  | none => rw [ha] at h; exact h2 h
  | some x =>
    cases hb : as64 b with
    | none => rw [ha, hb] at h; exact h2 h
    | some y => rw [ha, hb] at h; exact h1 x y (as64_ok ha) (as64_ok hb) h
theorem cBin_ok {op : BinOp} {t : TypeId} {a b v : CV} {x y : Value} (hx : toV ns a = some x) (hy : toV ns b = some y) (h : (cBin P op t).1 a b = some v) : Does ns v (vBin P op t x y) := by
  have ints : ∀ {m n : Nat}, a = .int .i64 (.ofNat m) → b = .int .i64 (.ofNat n) → x = .int .i64 (m : Int) ∧ y = .int .i64 (n : Int) := fun ha hb => by
    subst ha; subst hb
    simp only [toV, Option.some.injEq] at hx hy
    exact ⟨hx.symm, hy.symm⟩
  unfold cBin at h
  cases op <;> simp only at h
  case add =>
    refine two_ok h (fun m n ha hb hf => ?_) (fun hg => xBin_ok hx hy hg)
    obtain ⟨rfl, rfl⟩ := ints ha hb
    obtain ⟨rfl, hl⟩ := fInt_ok hf
    refine ⟨_, rfl, fun K hk => (vBin_add _ _ _ _).2 ?_⟩
    rw [w64 (by omega) (by omega)]
    exact hk
  case sub =>
    refine two_ok h (fun m n ha hb hf => ?_) (fun hg => xBin_ok hx hy hg)
    cases hle : Nat.ble n m <;> rw [hle] at hf <;> simp only at hf
    · exact xBin_ok hx hy hf
    · obtain ⟨rfl, rfl⟩ := ints ha hb
      obtain ⟨rfl, hl⟩ := fInt_ok hf
      have := Nat.le_of_ble_eq_true hle
      refine ⟨_, rfl, fun K hk => (vBin_sub _ _ _ _).2 ?_⟩
      have e : (m : Int) - (n : Int) = ((m - n : Nat) : Int) := by omega
      rw [e, w64 (by omega) (by omega)]
      exact hk
  case mul =>
    refine two_ok h (fun m n ha hb hf => ?_) (fun hg => xBin_ok hx hy hg)
    obtain ⟨rfl, rfl⟩ := ints ha hb
    obtain ⟨rfl, hl⟩ := fInt_ok hf
    refine ⟨_, rfl, fun K hk => (vBin_mul _ _ _ _).2 ?_⟩
    have e : (m : Int) * (n : Int) = ((m * n : Nat) : Int) := by simp
    rw [e, w64 (by omega) (by omega)]
    exact hk
  case eql =>
    refine two_ok h (fun m n ha hb hf => ?_) (fun hg => xBin_ok hx hy hg)
    obtain ⟨rfl, rfl⟩ := ints ha hb
    cases hf
    refine ⟨_, rfl, fun K hk => (vBin_eql _ _ _ _).2 ?_⟩
    have e : decide ((m : Int) = (n : Int)) = Nat.beq m n := by rw [Bool.eq_iff_iff, decide_eq_true_iff, Int.ofNat_inj]; exact ⟨fun h => by rw [h]; exact Nat.beq_refl n, Nat.eq_of_beq_eq_true⟩
    rw [e]; exact hk
  case neq =>
    refine two_ok h (fun m n ha hb hf => ?_) (fun hg => xBin_ok hx hy hg)
    obtain ⟨rfl, rfl⟩ := ints ha hb
    cases hf
    refine ⟨_, rfl, fun K hk => (vBin_neq _ _ _ _).2 ?_⟩
    have e : decide ((m : Int) = (n : Int)) = Nat.beq m n := by rw [Bool.eq_iff_iff, decide_eq_true_iff, Int.ofNat_inj]; exact ⟨fun h => by rw [h]; exact Nat.beq_refl n, Nat.eq_of_beq_eq_true⟩
    rw [e]; exact hk
  case lss =>
    refine two_ok h (fun m n ha hb hf => ?_) (fun hg => xBin_ok hx hy hg)
    obtain ⟨rfl, rfl⟩ := ints ha hb
    cases hf
    refine ⟨_, rfl, fun K hk => (vBin_lss _ _ _ _).2 ?_⟩
    have e : decide ((m : Int) < (n : Int)) = Nat.blt m n := by rw [Bool.eq_iff_iff, decide_eq_true_iff, blt_iff]; omega
    rw [e]; exact hk
  case leq =>
    refine two_ok h (fun m n ha hb hf => ?_) (fun hg => xBin_ok hx hy hg)
    obtain ⟨rfl, rfl⟩ := ints ha hb
    cases hf
    refine ⟨_, rfl, fun K hk => (vBin_leq _ _ _ _).2 ?_⟩
    have e : decide ((m : Int) ≤ (n : Int)) = Nat.ble m n := by rw [Bool.eq_iff_iff, decide_eq_true_iff, Nat.ble_eq]; omega
    rw [e]; exact hk
  case gtr =>
    refine two_ok h (fun m n ha hb hf => ?_) (fun hg => xBin_ok hx hy hg)
    obtain ⟨rfl, rfl⟩ := ints ha hb
    cases hf
    refine ⟨_, rfl, fun K hk => (vBin_gtr _ _ _ _).2 ?_⟩
    have e : decide ((n : Int) < (m : Int)) = Nat.blt n m := by rw [Bool.eq_iff_iff, decide_eq_true_iff, blt_iff]; omega
    rw [e]; exact hk
  case geq =>
    refine two_ok h (fun m n ha hb hf => ?_) (fun hg => xBin_ok hx hy hg)
    obtain ⟨rfl, rfl⟩ := ints ha hb
    cases hf
    refine ⟨_, rfl, fun K hk => (vBin_geq _ _ _ _).2 ?_⟩
    have e : decide ((n : Int) ≤ (m : Int)) = Nat.ble n m := by rw [Bool.eq_iff_iff, decide_eq_true_iff, Nat.ble_eq]; omega
    rw [e]; exact hk
  all_goals exact xBin_ok hx hy h
theorem un_ok {op : UnOp} {a v : CV} {x : Value} (hx : toV ns a = some x) (h : fUn P op a = some v) : Does ns v (vUn P op x) := by
  unfold fUn at h
  cases hu : toB a with
  | none => rw [hu] at h; cases h
  | some u =>
    rw [hu] at h
    have e1 : u = x := by have := (toB_ok (ns := ns) hu).symm.trans hx; injection this
    subst e1
    simp only at h
    cases hr : pureRun P (Op.unary op u) with
    | none => rw [hr] at h; cases h
    | some r => rw [hr] at h; exact ⟨r, ofVf_ok h, fun K hk => ⟨r, hr, hk⟩⟩
theorem assert_ok {xt t : TypeId} {d : TypeDesc} {z a v : CV} {x : Value} (hu : P.underlying t = some d) (hd : ∀ ms, d ≠ .interface ms) (hz : zvOf P t = some z) (hx : toV ns a = some x) (h : fAssert t z a = some v) : Does ns v (vAssert P xt t x) := by
  have zr : ∃ zv, pureRun P (zeroValue t) = some zv ∧ toV ns z = some zv := by
    unfold zvOf at hz
    cases hi : P.info? t with
    | none => rw [hi] at hz; cases hz
    | some i =>
      rw [hi] at hz
      simp only at hz
      cases hzz : i.zero with
      | none => rw [hzz] at hz; cases hz
      | some zv =>
        rw [hzz] at hz
        have ti : pureRun P (typeInfo t) = some i := by unfold typeInfo; rw [pureRun_bind _ pureRun_program]; simp only [hi]; rfl
        exact ⟨zv, by unfold zeroValue; rw [pureRun_bind _ ti]; simp only [hzz]; rfl, ofV_ok hz⟩
  obtain ⟨zv, z1, z2⟩ := zr
  unfold fAssert at h
  split at h
  · rename_i u w
    obtain ⟨y, h1, rfl⟩ := toV_iface hx
    cases hb : Nat.beq u t <;> rw [hb] at h <;> cases h
    · have hne : u ≠ t := Nat.ne_of_beq_eq_false hb
      refine ⟨_, mk_tup (toVs_mk z2 (toVs_mk rfl rfl)), fun K hk => ⟨_, ?_, hk⟩⟩
      unfold Instr.typeAssert
      rw [pureRun_bind _ (pureRun_underlying hu)]
      cases d <;> first | exact absurd rfl (hd _) | (simp only [if_neg hne]; simp only [if_true]; rw [pureRun_bind _ z1]; rfl)
    · have he : u = t := Nat.eq_of_beq_eq_true hb
      refine ⟨_, mk_tup (toVs_mk h1 (toVs_mk rfl rfl)), fun K hk => ⟨_, ?_, hk⟩⟩
      unfold Instr.typeAssert
      rw [pureRun_bind _ (pureRun_underlying hu)]
      cases d <;> first | exact absurd rfl (hd _) | (simp only [if_pos he]; rfl)
  · cases h
    simp only [toV, Option.some.injEq] at hx
    subst hx
    refine ⟨_, mk_tup (toVs_mk z2 (toVs_mk rfl rfl)), fun K hk => ⟨_, ?_, hk⟩⟩
    unfold Instr.typeAssert
    rw [pureRun_bind _ (pureRun_underlying hu)]
    cases d <;> first | exact absurd rfl (hd _) | (simp only [if_true]; rw [pureRun_bind _ z1]; rfl)
  · cases h
end
end Go.Px

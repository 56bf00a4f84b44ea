/- The executor's comparisons and sums tell the truth. -/
import Derived.Test.YtgpcjdmiecnphaaGreatPxE
set_option linter.unusedSimpArgs false
set_option linter.unusedVariables false
namespace Go.Px
open Go Go.Pw
section
variable {P : Program} {ns : List Nm}

/-- That x and y are (or are not) the same, as the model reckons it. -/
structure EqW (P : Program) (t : TypeId) (x y : Value) (r : Bool) : Prop where
  g1 : ∀ ox oy, pureRun P (eqGuard .eql t ox oy x y) = some ()
  g2 : ∀ ox oy, pureRun P (eqGuard .neq t ox oy x y) = some ()
  b1 : binOp .eql t x y = (do pure (.bool (← Op.equal t x y)))
  b2 : binOp .neq t x y = (do pure (.bool (!(← Op.equal t x y))))
  e : pureRun P (Op.equal t x y) = some r
theorem equalS {t : TypeId} {d : TypeDesc} {x y : Value} {r : Bool} (hu : P.underlying t = some d) (h : ∀ n, pureRun P (Op.equalIn (n + 1) t x y) = some r) : pureRun P (Op.equal t x y) = some r := h 9999

theorem eqK_agg {j k : IntKind} {a b : Int} {l m : List Nat} {r : Bool} (h : eqK (.agg [.int j a, .str l]) (.agg [.int k b, .str m]) = some r) : j = k ∧ r = ((a == b) && eqN l m) := by
  simp only [eqK] at h
  cases hb : kb j k <;> rw [hb] at h <;> simp only [reduceCtorEq, Option.some.injEq] at h
  refine ⟨?_, h.symm⟩
  unfold kb at hb
  split at hb
  · rename_i h'; simpa using h'
  · cases hb
/-- What is known of a type of pairs. -/
theorem keyOK_agg {t : TypeId} {k : IntKind} {a : Int} {l : List Nat} (h : keyOK P t (.agg [.int k a, .str l]) = true) : ∃ f g k1, P.underlying t = some (.struct ⟨[f, g]⟩) ∧ P.underlying f.type = some (.int k1) ∧ P.underlying g.type = some .string ∧ f.offset = 0 ∧ g.offset = 1 ∧ f.name ≠ "_" ∧ g.name ≠ "_" ∧ P.stoodInHeld t = false := by
  simp only [keyOK] at h
  split at h
  · rename_i f g hu
    split at h
    · rename_i k1 h1 h2 h3 h4
      simp only [Bool.and_eq_true, Bool.not_eq_true', beq_eq_false_iff_ne] at h
      exact ⟨f, g, k1, hu, h1, h2, h3, h4, h.1.1, h.1.2, h.2⟩
    · cases h
  · cases h
theorem isAgg_of {t : TypeId} {d : TypeDesc} (hu : P.underlying t = some d) (hd : aggD d = false) : pureRun P (isAgg t) = some false := by
  unfold isAgg
  rw [pureRun_bind _ (pureRun_underlying hu)]
  cases d <;> first | rfl | cases hd
theorem part_one {t : TypeId} {d : TypeDesc} (hu : P.underlying t = some d) (hd : aggD d = false) {cs : Array Value} {i : Nat} {v : Value} (hi : cs[i]? = some v) : pureRun P (part t cs i) = some v := by
  unfold part
  rw [pureRun_bind _ (isAgg_of hu hd)]
  simp [hi]
  rfl
theorem eq_int (n : Nat) {t : TypeId} {k1 k : IntKind} (hu : P.underlying t = some (.int k1)) (a b : Int) : pureRun P (Op.equalIn (n + 1) t (.int k a) (.int k b)) = some (a == b) := by
  rw [Op.equalIn, pureRun_bind _ (pureRun_underlying hu)]
  simp
  rfl
theorem eq_str (n : Nat) {t : TypeId} (hu : P.underlying t = some .string) (a b : ByteArray) : pureRun P (Op.equalIn (n + 1) t (.string a) (.string b)) = some (a == b) := by
  rw [Op.equalIn, pureRun_bind _ (pureRun_underlying hu)]
  rfl
theorem bytesN_beq (l m : List Nat) : (bytesN l == bytesN m) = eqN l m := by
  show ((l.map UInt8.ofNat).toArray == (m.map UInt8.ofNat).toArray) = eqN l m
  rw [Bool.eq_iff_iff, beq_iff_eq, eqN_ok]
  simp
theorem eq_pair (n : Nat) {t : TypeId} {f g : Field} {k1 k : IntKind} (hu : P.underlying t = some (.struct ⟨[f, g]⟩)) (h1 : P.underlying f.type = some (.int k1)) (h2 : P.underlying g.type = some .string) (h3 : f.offset = 0) (h4 : g.offset = 1) (h5 : f.name ≠ "_") (h6 : g.name ≠ "_") (h7 : P.stoodInHeld t = false)
    (a b : Int) (l m : List Nat) : pureRun P (Op.equalIn (n + 2) t (.agg #[.int k a, .string (bytesN l)]) (.agg #[.int k b, .string (bytesN m)])) = some ((a == b) && eqN l m) := by
  rw [Op.equalIn, pureRun_bind _ (pureRun_underlying hu)]
  have pr : pureRun P program = some P := rfl
  simp only
  rw [pureRun_bind _ pr]
  simp only [h7, Bool.false_eq_true, if_false]
  have p1 : ∀ (c : Int) (s : List Nat), pureRun P (part f.type #[.int k c, .string (bytesN s)] f.offset) = some (.int k c) := fun c s => part_one h1 rfl (by rw [h3]; rfl)
  have p2 : ∀ (c : Int) (s : List Nat), pureRun P (part g.type #[.int k c, .string (bytesN s)] g.offset) = some (.string (bytesN s)) := fun c s => part_one h2 rfl (by rw [h4]; rfl)
  simp only [Array.forIn_toList.symm, List.forIn_cons, List.forIn_nil, bind_assoc, if_pos h5, if_pos h6, ne_eq, h5, h6, not_false_eq_true, if_true]
  rw [pureRun_bind _ (p1 a l), pureRun_bind _ (p1 b m), pureRun_bind _ (eq_int n h1 a b)]
  cases (a == b)
  · simp; rfl
  · simp only [Bool.not_true, Bool.false_eq_true, if_false, pure_bind, bind_assoc, Bool.true_and]
    rw [pureRun_bind _ (p2 a l), pureRun_bind _ (p2 b m), pureRun_bind _ (eq_str n h2 _ _), bytesN_beq]
    cases eqN l m <;> simp <;> rfl
theorem toL_bytes (l : List Nat) : (bytesN l).toList = l.map UInt8.ofNat := by
  rw [ByteArray.toList_eq]
  exact bytesN_list l
theorem ltN_ok : ∀ (l m : List Nat), Op.bytesLess (l.map UInt8.ofNat) (m.map UInt8.ofNat) = ltN l m
  | l, [] => by cases l <;> rfl
  | [], _ :: _ => rfl
  | a :: l, b :: m => by
    simp only [List.map_cons, Op.bytesLess, ltN, ltN_ok l m]
    have h1 : (decide (UInt8.ofNat a < UInt8.ofNat b)) = Nat.blt (Nat.mod a 256) (Nat.mod b 256) := by
      rw [Bool.eq_iff_iff, blt_iff, decide_eq_true_iff, UInt8.lt_iff_toNat_lt]
      simp
      rfl
    have h2 : (UInt8.ofNat a == UInt8.ofNat b) = Nat.beq (Nat.mod a 256) (Nat.mod b 256) := by
      rw [Bool.eq_iff_iff, beq_iff_eq, byte_eq]
      exact ⟨fun h => by change Nat.beq (a % 256) (b % 256) = true; rw [h]; exact Nat.beq_refl _, fun h => Nat.eq_of_beq_eq_true h⟩
    rw [h1, h2]
    cases Nat.blt (Nat.mod a 256) (Nat.mod b 256) <;> cases Nat.beq (Nat.mod a 256) (Nat.mod b 256) <;> rfl

theorem eqS (n : Nat) {t : TypeId} {d : TypeDesc} (hu : P.underlying t = some d) {x y : Value} {r : Bool} (h : (match d, x, y with
    | .pointer _, .pointer none, .pointer none => some true
    | .pointer _, .pointer none, .pointer (some _) => some false
    | .pointer _, .pointer (some _), .pointer none => some false
    | .slice _, .slice none _ _, .slice none _ _ => some true
    | .slice _, .slice (some _) _ _, .slice none _ _ => some false
    | .map _ _, .map none, .map none => some true
    | .map _ _, .map (some _), .map none => some false
    | .func _ _ _, .nilFunc, .nilFunc => some true
    | .func _ _ _, .func _ _ _, .nilFunc => some false
    | .interface _, .nilIface, .nilIface => some true
    | .interface _, .iface _ _, .nilIface => some false
    | _, _, _ => none) = some r) : pureRun P (Op.equalIn (n + 1) t x y) = some r := by
  rw [Op.equalIn, pureRun_bind _ (pureRun_underlying hu)]
  split at h <;> first | (cases h; rfl) | cases h
theorem EqW.mk1 {t : TypeId} {x y : Value} {r : Bool} (ha : ∀ c, x ≠ .agg c) (hn : x ≠ .nilIface) (b1 : binOp .eql t x y = (do pure (.bool (← Op.equal t x y)))) (b2 : binOp .neq t x y = (do pure (.bool (!(← Op.equal t x y)))))
    (h : ∀ n, pureRun P (Op.equalIn (n + 1) t x y) = some r) : EqW P t x y r :=
  ⟨fun _ _ => pureRun_eqGuard ha hn, fun _ _ => pureRun_eqGuard ha hn, b1, b2, h 9999⟩
theorem EqW.does {t : TypeId} {x y : Value} {r : Bool} (h : EqW P t x y r) : (∀ K : Value → Prop, K (.bool r) → vBin P .eql t x y K) ∧ (∀ K : Value → Prop, K (.bool (!r)) → vBin P .neq t x y K) :=
  ⟨fun K hk => (vBin_eq h.g1 h.b1 h.e).2 hk, fun K hk => (vBin_ne h.g2 h.b2 h.e).2 hk⟩
theorem eqK_shape {l m : List CV} {r : Bool} (h : eqK (.agg l) (.agg m) = some r) : ∃ j a s k b s', l = [.int j a, .str s] ∧ m = [.int k b, .str s'] := by
  unfold eqK at h
  split at h
  · rename_i e1 e2; cases e1
  · rename_i e1 e2; cases e1
  · rename_i e1 e2; cases e1; cases e2; exact ⟨_, _, _, _, _, _, rfl, rfl⟩
  · cases h
theorem guard_agg {t : TypeId} (hg : P.eqGuardType P.depth t = false) {op : BinOp} (ho : op = .eql ∨ op = .neq) {xs ys : Array Value} (ox oy : Operand) : pureRun P (eqGuard op t ox oy (.agg xs) (.agg ys)) = some () := by
  have pr : pureRun P program = some P := rfl
  rcases ho with rfl | rfl <;>
  · unfold eqGuard
    simp only [Bool.not_true, Bool.false_eq_true, if_false]
    rw [pureRun_bind _ pr, pureRun_bind _ pr]
    simp only [hg]
    rfl
theorem guard_nil {t : TypeId} {ms : Array (String × TypeId)} (hu : P.underlying t = some (.interface ms)) (hm : ms.isEmpty = true) {op : BinOp} (ho : op = .eql ∨ op = .neq) (ox oy : Operand) : pureRun P (eqGuard op t ox oy .nilIface .nilIface) = some () := by
  have e : pureRun P (Op.eqGuardIn Op.maxDepth t .nilIface .nilIface) = some false := by
    show pureRun P (Op.eqGuardIn (9999 + 1) t .nilIface .nilIface) = some false
    rw [Op.eqGuardIn, pureRun_bind _ (pureRun_underlying hu)]
    simp only [hm]
    rfl
  rcases ho with rfl | rfl <;>
  · unfold eqGuard
    simp only [Bool.not_true, Bool.false_eq_true, if_false]
    have key : ∀ (b : Bool) (X : Sem Unit), pureRun P X = some () → pureRun P (if b = true then pure () else X) = some () := fun b X hX => by
      cases b
      · simpa using hX
      · rfl
    exact key _ _ (by rw [pureRun_bind _ e]; rfl)
theorem xEq_ok {t : TypeId} {a b : CV} {x y : Value} {r : Bool} (hx : toV ns a = some x) (hy : toV ns b = some y) (h : xEq P t a b = some r) :
    (∀ K : Value → Prop, K (.bool r) → vBin P .eql t x y K) ∧ (∀ K : Value → Prop, K (.bool (!r)) → vBin P .neq t x y K) := by
  have und : ∀ {β : Type} {F : TypeDesc → Option β} {z : β}, (match P.underlying t with | some d => F d | none => none) = some z → ∃ d, P.underlying t = some d ∧ F d = some z := fun {β F z} h => by
    cases hu : P.underlying t with
    | none => rw [hu] at h; cases h
    | some d => rw [hu] at h; exact ⟨d, rfl, h⟩
  unfold xEq at h
  split at h
  · rw [toV_str hx, toV_str hy]
    cases h
    exact ⟨fun K hk => (vBin_seq _ _ _).2 (by rw [bytesN_eq]; exact hk), fun K hk => (vBin_sneq _ _ _).2 (by rw [bytesN_eq]; exact hk)⟩
  all_goals first
    | (split at h
       · rename_i hu
         cases h
         obtain ⟨m, h1, rfl⟩ := toV_ptr hx
         simp only [toV, Option.some.injEq] at hy
         subst hy
         exact (EqW.mk1 (by intro c hc; cases hc) (by intro hc; cases hc) rfl rfl fun n => eqS n hu rfl).does
       · cases h)
    | (split at h
       · rename_i hu
         cases h
         obtain ⟨m, h1, rfl⟩ := toV_ptr hy
         simp only [toV, Option.some.injEq] at hx
         subst hx
         exact (EqW.mk1 (by intro c hc; cases hc) (by intro hc; cases hc) rfl rfl fun n => eqS n hu rfl).does
       · cases h)
    | (split at h
       · rename_i hu
         cases h
         simp only [toV, Option.some.injEq] at hx hy
         subst hx; subst hy
         exact (EqW.mk1 (by intro c hc; cases hc) (by intro hc; cases hc) rfl rfl fun n => eqS n hu rfl).does
       · cases h)
    | (split at h
       · rename_i hu
         cases h
         obtain ⟨m, h1, h2, rfl⟩ := toV_sl hx
         simp only [toV, Option.some.injEq] at hy
         subst hy
         exact (EqW.mk1 (by intro c hc; cases hc) (by intro hc; cases hc) rfl rfl fun n => eqS n hu rfl).does
       · cases h)
    | (split at h
       · rename_i hu
         cases h
         obtain ⟨m, h1, h2, rfl⟩ := toV_sle hx
         simp only [toV, Option.some.injEq] at hy
         subst hy
         exact (EqW.mk1 (by intro c hc; cases hc) (by intro hc; cases hc) rfl rfl fun n => eqS n hu rfl).does
       · cases h)
    | (split at h
       · rename_i hu
         cases h
         obtain ⟨m, h1, rfl⟩ := toV_slk hx
         simp only [toV, Option.some.injEq] at hy
         subst hy
         exact (EqW.mk1 (by intro c hc; cases hc) (by intro hc; cases hc) rfl rfl fun n => eqS n hu rfl).does
       · cases h)
    | (split at h
       · rename_i hu
         cases h
         obtain ⟨m, h1, rfl⟩ := toV_mp hx
         simp only [toV, Option.some.injEq] at hy
         subst hy
         exact (EqW.mk1 (by intro c hc; cases hc) (by intro hc; cases hc) rfl rfl fun n => eqS n hu rfl).does
       · cases h)
    | (split at h
       · rename_i hu
         cases h
         obtain ⟨m, z, h1, h2, rfl⟩ := toV_fn hx
         simp only [toV, Option.some.injEq] at hy
         subst hy
         exact (EqW.mk1 (by intro c hc; cases hc) (by intro hc; cases hc) rfl rfl fun n => eqS n hu rfl).does
       · cases h)
    | (split at h
       · rename_i hu
         cases h
         obtain ⟨m, h1, rfl⟩ := toV_iface hx
         simp only [toV, Option.some.injEq] at hy
         subst hy
         exact (EqW.mk1 (by intro c hc; cases hc) (by intro hc; cases hc) rfl rfl fun n => eqS n hu rfl).does
       · cases h)
    | (cases h; done)
    | skip
  · rename_i l m
    split at h
    · rename_i hk
      simp only [Bool.and_eq_true, Bool.not_eq_true'] at hk
      obtain ⟨j, a, s, k, b, s', rfl, rfl⟩ := eqK_shape h
      obtain ⟨rfl, rfl⟩ := eqK_agg h
      obtain ⟨f, g, k1, h0, h1, h2, h3, h4, h5, h6, h7⟩ := keyOK_agg hk.1
      simp only [toV, toVs, Option.some.injEq] at hx hy
      subst hx; subst hy
      have e : pureRun P (Op.equal t (.agg #[.int j a, .string (bytesN s)]) (.agg #[.int j b, .string (bytesN s')])) = some ((a == b) && eqN s s') := eq_pair 9998 h0 h1 h2 h3 h4 h5 h6 h7 a b s s'
      exact (EqW.mk (guard_agg hk.2.2 (.inl rfl)) (guard_agg hk.2.2 (.inr rfl)) rfl rfl e).does
    · cases h
  · split at h
    · rename_i ms hu
      split at h
      · rename_i hm
        cases h
        simp only [toV, Option.some.injEq] at hx hy
        subst hx; subst hy
        exact (EqW.mk (guard_nil hu hm (.inl rfl)) (guard_nil hu hm (.inr rfl)) rfl rfl (eqS 9999 hu rfl)).does
      · cases h
    · cases h
end
end Go.Px

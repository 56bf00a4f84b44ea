/- Comparisons, sums and literals over numbered blocks. -/
import Derived.Test.YtgpcjdmiecnphaaGreatPxB
set_option linter.unusedSimpArgs false
set_option linter.unusedVariables false
namespace Go.Px
open Go Go.Pw
noncomputable section

/-! ### strings -/
def eqN : List Nat → List Nat → Bool
  | [], [] => true
  | a :: l, b :: m => match Nat.beq (Nat.mod a 256) (Nat.mod b 256) with | true => eqN l m | false => false
  | _, _ => false
def ltN : List Nat → List Nat → Bool
  | _, [] => false
  | [], _ :: _ => true
  | a :: l, b :: m => match Nat.blt (Nat.mod a 256) (Nat.mod b 256) with
    | true => true
    | false => match Nat.beq (Nat.mod a 256) (Nat.mod b 256) with | true => ltN l m | false => false
theorem byte_eq (a b : Nat) : UInt8.ofNat a = UInt8.ofNat b ↔ a % 256 = b % 256 := by
  constructor
  · intro h
    have := congrArg UInt8.toNat h
    simpa using this
  · intro h
    apply UInt8.toNat_inj.1
    simpa using h
theorem eqN_ok : ∀ (l m : List Nat), eqN l m = true ↔ l.map UInt8.ofNat = m.map UInt8.ofNat
  | [], [] => by simp [eqN]
  | [], b :: m => by simp [eqN]
  | a :: l, [] => by simp [eqN]
  | a :: l, b :: m => by
    simp only [eqN, List.map_cons, List.cons.injEq, byte_eq]
    cases hb : Nat.beq (Nat.mod a 256) (Nat.mod b 256) with
    | true =>
      have : a % 256 = b % 256 := Nat.eq_of_beq_eq_true hb
      simp [this, eqN_ok l m]
    | false =>
      have : ¬ a % 256 = b % 256 := Nat.ne_of_beq_eq_false hb
      simp [this]
theorem bytesN_eq (l m : List Nat) : decide (bytesN l = bytesN m) = eqN l m := by
  have : (bytesN l = bytesN m) ↔ eqN l m = true := by
    rw [eqN_ok]
    unfold bytesN
    constructor
    · intro h; injection h with h; simpa using h
    · intro h; rw [h]
  cases he : eqN l m with
  | true => exact decide_eq_true (this.2 he)
  | false => exact decide_eq_false (fun h => by rw [this.1 h] at he; cases he)
theorem bytesN_app (l m : List Nat) : bytesN l ++ bytesN m = bytesN (l ++ m) := by
  unfold bytesN
  apply ByteArray.ext
  simp
theorem bytesN_size (l : List Nat) : (bytesN l).size = l.length := by
  unfold bytesN ByteArray.size
  simp
theorem bytesN_list (l : List Nat) : (bytesN l).data.toList = l.map UInt8.ofNat := by unfold bytesN; simp

/-! ### literals -/
def xFill (place : Nat → Option (Nat × Nat)) (cells : List CV) : List (Nat × CV) → Option (List CV)
  | [] => some cells
  | (i, v) :: rest => match place i with
    | none => none
    | some (off, size) => match Nat.beq (cellsX v).length size, Nat.ble (off + size) cells.length with
      | true, true => xFill place (setL cells off (cellsX v)) rest
      | _, _ => none
section
variable {P : Program} {ns : List Nm}
theorem foldl_set (vs : List Value) : ∀ (o k : Nat) (c : Array Value), (vs.zipIdx k).foldl (fun cs (p : Value × Nat) => cs.setIfInBounds (o + p.2) p.1) c = wr c (o + k) vs := by
  induction vs with
  | nil => intro o k c; rfl
  | cons v vs ih =>
    intro o k c
    simp only [List.zipIdx_cons, List.foldl_cons, wr]
    rw [ih]
    rfl
theorem wr_list {c : Array Value} {o : Nat} {vs : List Value} (h : o + vs.length ≤ c.size) : (wr c o vs).toList = c.toList.take o ++ (vs ++ c.toList.drop (o + vs.length)) := by
  rw [wr_behind h]; simp
theorem xFill_ok {place : Nat → Option (Nat × Nat)} : ∀ {ps : List (Nat × CV)} {qs : List (Nat × Value)} {c r : List CV} {x : Array Value}, toVs ns c = some x.toList →
    ps.length = qs.length → (∀ (j : Nat) i v, ps[j]? = some (i, v) → ∃ y, qs[j]? = some (i, y) ∧ toV ns v = some y) → xFill place c ps = some r → ∃ y, Instr.fill place x qs = some y ∧ toVs ns r = some y.toList
  | [], qs, c, r, x, hc, hl, hp, h => by
    have : qs = [] := by cases qs with | nil => rfl | cons _ _ => simp at hl
    subst this
    simp only [xFill, Option.some.injEq] at h
    subst h
    exact ⟨x, rfl, hc⟩
  | (i, v) :: ps, qs, c, r, x, hc, hl, hp, h => by
    obtain ⟨y, h0, h1⟩ := hp 0 i v (by simp)
    cases qs with
    | nil => simp at hl
    | cons q qs =>
      simp only [List.getElem?_cons_zero, Option.some.injEq] at h0
      subst h0
      simp only [xFill] at h
      simp only [Instr.fill]
      cases hpl : place i with
      | none => rw [hpl] at h; cases h
      | some os =>
        obtain ⟨off, size⟩ := os
        rw [hpl] at h
        simp only at h ⊢
        have hcs := toV_cells h1
        have hl1 : y.cells.size = (cellsX v).length := by have := toVs_len hcs; simpa using this
        have hl2 : x.size = c.length := by have := toVs_len hc; simpa using this
        cases hb1 : Nat.beq (cellsX v).length size <;> cases hb2 : Nat.ble (off + size) c.length <;> rw [hb1, hb2] at h <;> simp only [reduceCtorEq] at h
        have e1 : (cellsX v).length = size := Nat.eq_of_beq_eq_true hb1
        have e2 : off + size ≤ c.length := Nat.le_of_ble_eq_true hb2
        have cond : ¬ (y.cells.size ≠ size ∨ off + y.cells.size > x.size) := by omega
        have hz : (y.cells.zipIdx.foldl (fun cs (p : Value × Nat) => cs.setIfInBounds (off + p.2) p.1) x) = wr x off y.cells.toList := by
          have := foldl_set y.cells.toList off 0 x
          rw [Nat.add_zero] at this
          rw [← this, ← Array.foldl_toList, Array.toList_zipIdx]
        have hn : toVs ns (setL c off (cellsX v)) = some (wr x off y.cells.toList).toList := by
          rw [wr_list (by simp; omega)]
          unfold setL
          refine toVs_append (toVs_take _ hc) (toVs_append hcs ?_)
          have : y.cells.toList.length = (cellsX v).length := by simpa using hl1
          rw [this]
          exact toVs_drop _ hc
        obtain ⟨z, h3, h4⟩ := xFill_ok (qs := qs) hn (by simpa using hl) (fun j i' v' hj => by simpa using hp (j + 1) i' v' (by simpa using hj)) h
        refine ⟨z, ?_, h4⟩
        have hd : (decide (y.cells.size ≠ size) || decide (off + y.cells.size > x.size)) = false := by
          have h1 : ¬ (y.cells.size ≠ size) := by omega
          have h2 : ¬ (off + y.cells.size > x.size) := by omega
          simp [h1, h2]
        simp only [hz]
        rw [if_neg (by simpa using cond)]
        exact h3
theorem xPs_ok {E : CE} {ρ : Env} (hE : RelE ns E ρ) : ∀ {l : List (Nat × Operand)} {v : List (Nat × CV)}, xPs l E = some v → v.length = l.length ∧ ∀ (j : Nat) i u, v[j]? = some (i, u) → ∃ y, (l.map fun p => (p.1, evalE ρ p.2))[j]? = some (i, y) ∧ toV ns u = some y
  | [], v, h => by simp [xPs, nBx] at h; subst h; exact ⟨rfl, fun j i u hj => by simp at hj⟩
  | (k, x) :: l, v, h => by
    simp only [xPs, nBx] at h
    cases h1 : (oBx x).1 E with
    | none => rw [h1] at h; simp at h
    | some a =>
      cases h2 : (nBx l).1 E with
      | none => rw [h1, h2] at h; simp at h
      | some b =>
        rw [h1, h2] at h; simp at h; subst h
        obtain ⟨q1, q2⟩ := xPs_ok hE h2
        refine ⟨by simp [q1], fun j i u hj => ?_⟩
        cases j with
        | zero => simp at hj; obtain ⟨rfl, rfl⟩ := hj; exact ⟨_, by simp, xO_ok hE h1⟩
        | succ j => simpa using q2 j i u (by simpa using hj)

/-! ### two operands -/
def toB : CV → Option Value
  | .bool b => some (.bool b)
  | .int k n => some (.int k n)
  | _ => none
theorem toB_ok {v : CV} {x : Value} (h : toB v = some x) : toV ns v = some x := by
  unfold toB at h
  split at h <;> first | (cases h; rfl) | cases h
theorem guard_B {v : CV} {x y : Value} (h : toB v = some x) (op : BinOp) (t : TypeId) (ox oy : Operand) : pureRun P (eqGuard op t ox oy x y) = some () := by
  unfold toB at h
  split at h <;> cases h <;> cases op <;> cases y <;> rfl
theorem guard_op {op : BinOp} (h1 : op ≠ .eql) (h2 : op ≠ .neq) (t : TypeId) (ox oy : Operand) (x y : Value) : pureRun P (eqGuard op t ox oy x y) = some () := by
  cases op <;> first | rfl | exact absurd rfl h1 | exact absurd rfl h2

/-! ### maps -/
def kb (j k : IntKind) : Bool := match decide (j = k) with | true => true | false => false
def eqK : CV → CV → Option Bool
  | .int j a, .int k b => match kb j k with | true => some (a == b) | false => none
  | .str l, .str m => some (eqN l m)
  | .agg [.int j a, .str l], .agg [.int k b, .str m] => match kb j k with | true => some ((a == b) && eqN l m) | false => none
  | _, _ => none
/-- The type of keys: whole numbers, strings, or a pair of both. -/
def keyOK (P : Program) (t : TypeId) (k : CV) : Bool := match k with
  | .int _ _ => match P.underlying t with | some (.int _) => true | _ => false
  | .str _ => match P.underlying t with | some .string => true | _ => false
  | .agg [.int _ _, .str _] => match P.underlying t with
    | some (.struct ⟨[f, g]⟩) => match P.underlying f.type, P.underlying g.type, f.offset, g.offset with
      | some (.int _), some .string, 0, 1 => !(f.name == "_") && !(g.name == "_") && !(P.stoodInHeld t)
      | _, _, _, _ => false
    | _ => false
  | _ => false
def xEq (P : Program) (t : TypeId) (a b : CV) : Option Bool := match a, b with
  | .str l, .str m => some (eqN l m)
  | .nilp, .nilp => match P.underlying t with | some (.pointer _) => some true | _ => none
  | .ptr _ _, .nilp => match P.underlying t with | some (.pointer _) => some false | _ => none
  | .nilp, .ptr _ _ => match P.underlying t with | some (.pointer _) => some false | _ => none
  | .nilsl, .nilsl => match P.underlying t with | some (.slice _) => some true | _ => none
  | .sl _ _ _ _, .nilsl => match P.underlying t with | some (.slice _) => some false | _ => none
  | .sle _ _ _ _, .nilsl => match P.underlying t with | some (.slice _) => some false | _ => none
  | .slk _ _ _ _, .nilsl => match P.underlying t with | some (.slice _) => some false | _ => none
  | .nilmp, .nilmp => match P.underlying t with | some (.map _ _) => some true | _ => none
  | .mp _, .nilmp => match P.underlying t with | some (.map _ _) => some false | _ => none
  | .nilfn, .nilfn => match P.underlying t with | some (.func _ _ _) => some true | _ => none
  | .fn _ _ _, .nilfn => match P.underlying t with | some (.func _ _ _) => some false | _ => none
  | .iface _ _, .nilif => match P.underlying t with | some (.interface _) => some false | _ => none
  | .agg l, .agg m => match keyOK P t (.agg l) && (keyOK P t (.agg m) && !(P.eqGuardType P.depth t)) with | true => eqK (.agg l) (.agg m) | false => none
  | .nilif, .nilif => match P.underlying t with | some (.interface ms) => (match ms.isEmpty with | true => some true | false => none) | _ => none
  | _, _ => none
def xStr (op : BinOp) (l m : List Nat) : Option CV := match op with
  | .add => match Nat.ble (l.length + m.length) 9223372036854775807 with | true => some (.str (l ++ m)) | false => none
  | .lss => some (.bool (ltN l m))
  | .gtr => some (.bool (ltN m l))
  | .geq => some (.bool (!ltN l m))
  | .leq => some (.bool (!ltN m l))
  | _ => none
def xBin (P : Program) (op : BinOp) (t : TypeId) (a b : CV) : Option CV := match toB a, toB b with
  | some x, some y => match pureRun P (binOp op t x y) with
    | some r => ofVf r
    | none => none
  | _, _ => match op with
    | .eql => match xEq P t a b with | some r => some (.bool r) | none => none
    | .neq => match xEq P t a b with | some r => some (.bool (!r)) | none => none
    | op => match a, b with
      | .str l, .str m => xStr op l m
      | _, _ => none
/-! ### the same, shorter where both are small -/
def as64 : CV → Option Nat
  | .int .i64 (.ofNat n) => some n
  | _ => none
theorem as64_ok {v : CV} {n : Nat} (h : as64 v = some n) : v = .int .i64 (.ofNat n) := by
  unfold as64 at h
  split at h <;> first | (cases h; rfl) | cases h
def fInt : Nat → Option CV
  | 0 => some (.int .i64 (.ofNat 0))
  | n + 1 => match Nat.blt n 9223372036854775807 with
    | true => some (.int .i64 (.ofNat (n + 1)))
    | false => none
def two (a b : CV) (f : Nat → Nat → Option CV) (g : Option CV) : Option CV := ob (as64 a) (fun x => ob (as64 b) (fun y => f x y) g) g
def cBin (P : Program) (op : BinOp) (t : TypeId) : Bx (CV → CV → Option CV) := match op with
  | .add => ⟨fun a b => two a b (fun x y => fInt (x + y)) (xBin P .add t a b)⟩
  | .sub => ⟨fun a b => two a b (fun x y => match Nat.ble y x with | true => fInt (x - y) | false => xBin P .sub t a b) (xBin P .sub t a b)⟩
  | .mul => ⟨fun a b => two a b (fun x y => fInt (x * y)) (xBin P .mul t a b)⟩
  | .eql => ⟨fun a b => two a b (fun x y => some (.bool (Nat.beq x y))) (xBin P .eql t a b)⟩
  | .neq => ⟨fun a b => two a b (fun x y => some (.bool (!(Nat.beq x y)))) (xBin P .neq t a b)⟩
  | .lss => ⟨fun a b => two a b (fun x y => some (.bool (Nat.blt x y))) (xBin P .lss t a b)⟩
  | .leq => ⟨fun a b => two a b (fun x y => some (.bool (Nat.ble x y))) (xBin P .leq t a b)⟩
  | .gtr => ⟨fun a b => two a b (fun x y => some (.bool (Nat.blt y x))) (xBin P .gtr t a b)⟩
  | .geq => ⟨fun a b => two a b (fun x y => some (.bool (Nat.ble y x))) (xBin P .geq t a b)⟩
  | op => ⟨fun a b => xBin P op t a b⟩
end
end
end Go.Px

/- Values over numbered blocks, memory over numbered blocks, and what they stand for once the blocks have names. -/
import Derived.Test.YtgpcjdmiecnphaaGreatPwM
import Derived.Test.YtgpcjdmiecnphaaGreatPwS
set_option linter.unusedSimpArgs false
set_option linter.unusedVariables false
namespace Go.Px
open Go Go.Pw

/-- What is told by a text alone (the kernel reckons a structure once). -/
structure Bx (α : Type) where
  f : α

/-- (told by the recursors: fewer steps in the kernel) -/
noncomputable def ob {α β : Type} (x : Option α) (f : α → β) (d : β) : β := Option.rec (motive := fun _ => β) d f x
noncomputable def bo {β : Type} (b : Bool) (x y : β) : β := Bool.rec (motive := fun _ => β) y x b
theorem ob_none {α β : Type} (f : α → β) (d : β) : ob none f d = d := rfl
theorem ob_some {α β : Type} (v : α) (f : α → β) (d : β) : ob (some v) f d = f v := rfl
theorem bo_true {β : Type} (x y : β) : bo true x y = x := rfl
theorem bo_false {β : Type} (x y : β) : bo false x y = y := rfl

/-! ### tables by numbers -/
def Tn (α : Type) : Nat → Type
  | 0 => α
  | n + 1 => Tn α n × Tn α n
def Tn.mk {α : Type} (a : α) : (n : Nat) → Tn α n
  | 0 => a
  | n + 1 => (Tn.mk a n, Tn.mk a n)
def ev (k : Nat) : Bool := Nat.beq (Nat.mod k 2) 0
noncomputable def Tn.get {α : Type} (n : Nat) : Nat → Bx (Tn α n → α) :=
  Nat.rec (motive := fun n => Nat → Bx (Tn α n → α)) (fun _ => ⟨fun t => t⟩)
    (fun _ g k => Bool.rec (motive := fun _ => Bx _) ⟨fun t => (g (Nat.div k 2)).1 t.2⟩ ⟨fun t => (g (Nat.div k 2)).1 t.1⟩ (ev k)) n
noncomputable def Tn.put {α : Type} (n : Nat) : Nat → Bx (α → Tn α n → Tn α n) :=
  Nat.rec (motive := fun n => Nat → Bx (α → Tn α n → Tn α n)) (fun _ => ⟨fun v _ => v⟩)
    (fun _ g k => Bool.rec (motive := fun _ => Bx _) ⟨fun v t => (t.1, (g (Nat.div k 2)).1 v t.2)⟩ ⟨fun v t => ((g (Nat.div k 2)).1 v t.1, t.2)⟩ (ev k)) n
theorem Tn.get_succ {α : Type} (n k : Nat) : Tn.get (α := α) (n + 1) k = (match ev k with | true => ⟨fun t => (Tn.get n (Nat.div k 2)).1 t.1⟩ | false => ⟨fun t => (Tn.get n (Nat.div k 2)).1 t.2⟩) := by
  have : ∀ b : Bool, (Bool.rec (motive := fun _ => Bx (Tn α (n + 1) → α)) ⟨fun t => (Tn.get n (Nat.div k 2)).1 t.2⟩ ⟨fun t => (Tn.get n (Nat.div k 2)).1 t.1⟩ b) = (match b with | true => ⟨fun t => (Tn.get n (Nat.div k 2)).1 t.1⟩ | false => ⟨fun t => (Tn.get n (Nat.div k 2)).1 t.2⟩) := fun b => by cases b <;> rfl
  exact this (ev k)
theorem Tn.put_succ {α : Type} (n k : Nat) : Tn.put (α := α) (n + 1) k = (match ev k with | true => ⟨fun v t => ((Tn.put n (Nat.div k 2)).1 v t.1, t.2)⟩ | false => ⟨fun v t => (t.1, (Tn.put n (Nat.div k 2)).1 v t.2)⟩) := by
  have : ∀ b : Bool, (Bool.rec (motive := fun _ => Bx (α → Tn α (n + 1) → Tn α (n + 1))) ⟨fun v t => (t.1, (Tn.put n (Nat.div k 2)).1 v t.2)⟩ ⟨fun v t => ((Tn.put n (Nat.div k 2)).1 v t.1, t.2)⟩ b) = (match b with | true => ⟨fun v t => ((Tn.put n (Nat.div k 2)).1 v t.1, t.2)⟩ | false => ⟨fun v t => (t.1, (Tn.put n (Nat.div k 2)).1 v t.2)⟩) := fun b => by cases b <;> rfl
  exact this (ev k)
theorem ev_iff (k : Nat) : ev k = true ↔ k % 2 = 0 := by
  unfold ev
  constructor
  · intro h; exact Nat.eq_of_beq_eq_true h
  · intro h; change Nat.beq (k % 2) 0 = true; rw [h]; rfl
theorem Tn.get_mk {α : Type} (a : α) : ∀ (n k : Nat), (Tn.get n k).1 (Tn.mk a n) = a
  | 0, _ => rfl
  | n + 1, k => by
    rw [Tn.get_succ]
    cases ev k <;> exact Tn.get_mk a n _
theorem Tn.get_put {α : Type} (v : α) : ∀ (n k j : Nat) (t : Tn α n), k < 2 ^ n → j < 2 ^ n → (Tn.get n j).1 ((Tn.put n k).1 v t) = if j = k then v else (Tn.get n j).1 t
  | 0, k, j, t, hk, hj => by
    have : j = k := by omega
    rw [if_pos this]; rfl
  | n + 1, k, j, t, hk, hj => by
    have hk2 : Nat.div k 2 < 2 ^ n := by change k / 2 < 2 ^ n; omega
    have hj2 : Nat.div j 2 < 2 ^ n := by change j / 2 < 2 ^ n; omega
    rw [Tn.get_succ, Tn.put_succ]
    have e1 := ev_iff k
    have e2 := ev_iff j
    cases hk' : ev k <;> cases hj' : ev j <;> rw [hk'] at e1 <;> rw [hj'] at e2 <;> simp only [reduceCtorEq, false_iff, true_iff] at e1 e2 <;> simp only
    · rw [Tn.get_put v n _ _ t.2 hk2 hj2]
      have : (Nat.div j 2 = Nat.div k 2) ↔ (j = k) := by change j / 2 = k / 2 ↔ j = k; omega
      simp only [this]
    · have : j ≠ k := by omega
      rw [if_neg this]
    · have : j ≠ k := by omega
      rw [if_neg this]
    · rw [Tn.get_put v n _ _ t.1 hk2 hj2]
      have : (Nat.div j 2 = Nat.div k 2) ↔ (j = k) := by change j / 2 = k / 2 ↔ j = k; omega
      simp only [this]


/-! ### sixteen places -/
structure N16 (α : Type) where
  a0 : α
  a1 : α
  a2 : α
  a3 : α
  a4 : α
  a5 : α
  a6 : α
  a7 : α
  a8 : α
  a9 : α
  a10 : α
  a11 : α
  a12 : α
  a13 : α
  a14 : α
  a15 : α
def N16.mk1 {α : Type} (a : α) : N16 α := ⟨a, a, a, a, a, a, a, a, a, a, a, a, a, a, a, a⟩
def sel {α : Type} : Nat → Bx (N16 α → α)
  | 0 => ⟨fun E => E.a0⟩
  | 1 => ⟨fun E => E.a1⟩
  | 2 => ⟨fun E => E.a2⟩
  | 3 => ⟨fun E => E.a3⟩
  | 4 => ⟨fun E => E.a4⟩
  | 5 => ⟨fun E => E.a5⟩
  | 6 => ⟨fun E => E.a6⟩
  | 7 => ⟨fun E => E.a7⟩
  | 8 => ⟨fun E => E.a8⟩
  | 9 => ⟨fun E => E.a9⟩
  | 10 => ⟨fun E => E.a10⟩
  | 11 => ⟨fun E => E.a11⟩
  | 12 => ⟨fun E => E.a12⟩
  | 13 => ⟨fun E => E.a13⟩
  | 14 => ⟨fun E => E.a14⟩
  | _ => ⟨fun E => E.a15⟩
def put16 {α : Type} : Nat → Bx (α → N16 α → N16 α)
  | 0 => ⟨fun v E => ⟨v, E.a1, E.a2, E.a3, E.a4, E.a5, E.a6, E.a7, E.a8, E.a9, E.a10, E.a11, E.a12, E.a13, E.a14, E.a15⟩⟩
  | 1 => ⟨fun v E => ⟨E.a0, v, E.a2, E.a3, E.a4, E.a5, E.a6, E.a7, E.a8, E.a9, E.a10, E.a11, E.a12, E.a13, E.a14, E.a15⟩⟩
  | 2 => ⟨fun v E => ⟨E.a0, E.a1, v, E.a3, E.a4, E.a5, E.a6, E.a7, E.a8, E.a9, E.a10, E.a11, E.a12, E.a13, E.a14, E.a15⟩⟩
  | 3 => ⟨fun v E => ⟨E.a0, E.a1, E.a2, v, E.a4, E.a5, E.a6, E.a7, E.a8, E.a9, E.a10, E.a11, E.a12, E.a13, E.a14, E.a15⟩⟩
  | 4 => ⟨fun v E => ⟨E.a0, E.a1, E.a2, E.a3, v, E.a5, E.a6, E.a7, E.a8, E.a9, E.a10, E.a11, E.a12, E.a13, E.a14, E.a15⟩⟩
  | 5 => ⟨fun v E => ⟨E.a0, E.a1, E.a2, E.a3, E.a4, v, E.a6, E.a7, E.a8, E.a9, E.a10, E.a11, E.a12, E.a13, E.a14, E.a15⟩⟩
  | 6 => ⟨fun v E => ⟨E.a0, E.a1, E.a2, E.a3, E.a4, E.a5, v, E.a7, E.a8, E.a9, E.a10, E.a11, E.a12, E.a13, E.a14, E.a15⟩⟩
  | 7 => ⟨fun v E => ⟨E.a0, E.a1, E.a2, E.a3, E.a4, E.a5, E.a6, v, E.a8, E.a9, E.a10, E.a11, E.a12, E.a13, E.a14, E.a15⟩⟩
  | 8 => ⟨fun v E => ⟨E.a0, E.a1, E.a2, E.a3, E.a4, E.a5, E.a6, E.a7, v, E.a9, E.a10, E.a11, E.a12, E.a13, E.a14, E.a15⟩⟩
  | 9 => ⟨fun v E => ⟨E.a0, E.a1, E.a2, E.a3, E.a4, E.a5, E.a6, E.a7, E.a8, v, E.a10, E.a11, E.a12, E.a13, E.a14, E.a15⟩⟩
  | 10 => ⟨fun v E => ⟨E.a0, E.a1, E.a2, E.a3, E.a4, E.a5, E.a6, E.a7, E.a8, E.a9, v, E.a11, E.a12, E.a13, E.a14, E.a15⟩⟩
  | 11 => ⟨fun v E => ⟨E.a0, E.a1, E.a2, E.a3, E.a4, E.a5, E.a6, E.a7, E.a8, E.a9, E.a10, v, E.a12, E.a13, E.a14, E.a15⟩⟩
  | 12 => ⟨fun v E => ⟨E.a0, E.a1, E.a2, E.a3, E.a4, E.a5, E.a6, E.a7, E.a8, E.a9, E.a10, E.a11, v, E.a13, E.a14, E.a15⟩⟩
  | 13 => ⟨fun v E => ⟨E.a0, E.a1, E.a2, E.a3, E.a4, E.a5, E.a6, E.a7, E.a8, E.a9, E.a10, E.a11, E.a12, v, E.a14, E.a15⟩⟩
  | 14 => ⟨fun v E => ⟨E.a0, E.a1, E.a2, E.a3, E.a4, E.a5, E.a6, E.a7, E.a8, E.a9, E.a10, E.a11, E.a12, E.a13, v, E.a15⟩⟩
  | _ => ⟨fun v E => ⟨E.a0, E.a1, E.a2, E.a3, E.a4, E.a5, E.a6, E.a7, E.a8, E.a9, E.a10, E.a11, E.a12, E.a13, E.a14, v⟩⟩
theorem lt16 {i : Nat} (h : i < 16) : i = 0 ∨ i = 1 ∨ i = 2 ∨ i = 3 ∨ i = 4 ∨ i = 5 ∨ i = 6 ∨ i = 7 ∨ i = 8 ∨ i = 9 ∨ i = 10 ∨ i = 11 ∨ i = 12 ∨ i = 13 ∨ i = 14 ∨ i = 15 := by omega
theorem sel_put {α : Type} {i j : Nat} (hi : i < 16) (hj : j < 16) (v : α) (E : N16 α) : (sel j).1 ((put16 i).1 v E) = if j = i then v else (sel j).1 E := by
  rcases lt16 hi with rfl | rfl | rfl | rfl | rfl | rfl | rfl | rfl | rfl | rfl | rfl | rfl | rfl | rfl | rfl | rfl <;> rcases lt16 hj with rfl | rfl | rfl | rfl | rfl | rfl | rfl | rfl | rfl | rfl | rfl | rfl | rfl | rfl | rfl | rfl <;> rfl
theorem sel_mk1 {α : Type} (j : Nat) (a : α) : (sel j).1 (N16.mk1 a) = a := by
  unfold sel; split <;> rfl

/-! ### values -/
inductive CV where
  | bool (b : Bool)
  | int (k : IntKind) (n : Int)
  | flt (k : FloatKind) (n : Nat)
  | str (s : List Nat)
  | ptr (b off : Nat)
  | nilp
  /-- a slice of the row b, from the cell off on; i elements stand ahead of it in the row -/
  | sl (b off len i : Nat)
  | slk (b off len cap : Nat)
  /-- no element: at off' if there is room behind i elements, else at off -/
  | sle (b off off' i : Nat)
  | nilsl
  | mp (b : Nat)
  | nilmp
  | fn (f : FuncId) (first cap : List CV)
  | nilfn
  | iface (t : TypeId) (v : CV)
  | nilif
  | agg (l : List CV)
  | tup (l : List CV)
  /-- what an operation leaves that was passed over -/
  | und

/-- A block's name, where it begins there, and how many elements it has room for. -/
structure Nm where
  b : Nat
  o : Nat
  c : Nat
def bytesN (l : List Nat) : ByteArray := ⟨(l.map UInt8.ofNat).toArray⟩
mutual
def toV (ns : List Nm) : CV → Option Value
  | .bool b => some (.bool b)
  | .int k n => some (.int k n)
  | .flt k n => some (.float k n)
  | .str l => some (.string (bytesN l))
  | .ptr b off => match ns[b]? with | some m => some (.pointer (some ⟨m.b, m.o + off, none⟩)) | none => none
  | .nilp => some (.pointer none)
  | .sl b off len i => match ns[b]? with | some m => (match Nat.ble len (m.c - i) with | true => some (.slice (some ⟨m.b, m.o + off, none⟩) len (m.c - i)) | false => none) | none => none
  | .sle b off off' i => match ns[b]? with | some m => (match Nat.ble i m.c with | true => some (.slice (some ⟨m.b, m.o + (match m.c - i with | 0 => off | _ + 1 => off'), none⟩) 0 (m.c - i)) | false => none) | none => none
  | .slk b off len cap => match ns[b]? with | some m => some (.slice (some ⟨m.b, m.o + off, none⟩) len cap) | none => none
  | .nilsl => some (.slice none 0 0)
  | .mp b => match ns[b]? with | some m => some (.map (some m.b)) | none => none
  | .nilmp => some (.map none)
  | .fn f a c => match toVs ns a, toVs ns c with | some x, some y => some (.func (.func f) x.toArray y.toArray) | _, _ => none
  | .nilfn => some .nilFunc
  | .iface t v => match toV ns v with | some x => some (.iface t x) | none => none
  | .nilif => some .nilIface
  | .und => some undef
  | .agg l => match toVs ns l with | some x => some (.agg x.toArray) | none => none
  | .tup l => match toVs ns l with | some x => some (.tuple x.toArray) | none => none
def toVs (ns : List Nm) : List CV → Option (List Value)
  | [] => some []
  | v :: l => match toV ns v, toVs ns l with | some x, some y => some (x :: y) | _, _ => none
end
def Ext (ns ns' : List Nm) : Prop := ∃ l, ns' = ns ++ l
theorem Ext.refl (ns : List Nm) : Ext ns ns := ⟨[], by simp⟩
theorem Ext.trans {a b c : List Nm} (h1 : Ext a b) (h2 : Ext b c) : Ext a c := by
  obtain ⟨l, rfl⟩ := h1; obtain ⟨m, rfl⟩ := h2; exact ⟨l ++ m, by simp⟩
theorem Ext.one (ns : List Nm) (m : Nm) : Ext ns (ns ++ [m]) := ⟨[m], rfl⟩
theorem Ext.get {ns ns' : List Nm} (h : Ext ns ns') {b : Nat} {m : Nm} (hb : ns[b]? = some m) : ns'[b]? = some m := by
  obtain ⟨l, rfl⟩ := h
  rw [List.getElem?_append_left (List.getElem?_eq_some_iff.1 hb).1]; exact hb
section
variable {ns ns' : List Nm}
mutual
theorem toV_ext (he : Ext ns ns') : ∀ (v : CV) {x : Value}, toV ns v = some x → toV ns' v = some x
  | .bool _, _, h | .int _ _, _, h | .flt _ _, _, h | .str _, _, h | .nilp, _, h | .nilsl, _, h | .nilmp, _, h | .nilfn, _, h | .nilif, _, h | .und, _, h => by simpa only [toV] using h
  | .ptr b _, _, h | .sl b _ _ _, _, h | .sle b _ _ _, _, h | .slk b _ _ _, _, h | .mp b, _, h => by
    simp only [toV] at h ⊢
    cases hb : ns[b]? with
    | none => rw [hb] at h; cases h
    | some m => rw [hb] at h; rw [he.get hb]; exact h
  | .fn f a c, _, h => by
    simp only [toV] at h ⊢
    cases ha : toVs ns a with
    | none => rw [ha] at h; simp at h
    | some x =>
      cases hc : toVs ns c with
      | none => rw [ha, hc] at h; simp at h
      | some y => rw [ha, hc] at h; rw [toVs_ext he a ha, toVs_ext he c hc]; exact h
  | .iface t v, _, h => by
    simp only [toV] at h ⊢
    cases ha : toV ns v with
    | none => rw [ha] at h; simp at h
    | some x => rw [ha] at h; rw [toV_ext he v ha]; exact h
  | .agg l, _, h | .tup l, _, h => by
    simp only [toV] at h ⊢
    cases ha : toVs ns l with
    | none => rw [ha] at h; simp at h
    | some x => rw [ha] at h; rw [toVs_ext he l ha]; exact h
theorem toVs_ext (he : Ext ns ns') : ∀ (l : List CV) {x : List Value}, toVs ns l = some x → toVs ns' l = some x
  | [], _, h => h
  | v :: l, _, h => by
    simp only [toVs] at h ⊢
    cases ha : toV ns v with
    | none => rw [ha] at h; simp at h
    | some x =>
      cases hc : toVs ns l with
      | none => rw [ha, hc] at h; simp at h
      | some y => rw [ha, hc] at h; rw [toV_ext he v ha, toVs_ext he l hc]; exact h
end

theorem toVs_cons {v : CV} {l : List CV} {x : List Value} (h : toVs ns (v :: l) = some x) : ∃ a y, toV ns v = some a ∧ toVs ns l = some y ∧ x = a :: y := by
  simp only [toVs] at h
  cases ha : toV ns v with
  | none => rw [ha] at h; simp at h
  | some a =>
    cases hc : toVs ns l with
    | none => rw [ha, hc] at h; simp at h
    | some y => rw [ha, hc] at h; simp at h; exact ⟨a, y, rfl, rfl, h.symm⟩
theorem toVs_mk {v : CV} {l : List CV} {a : Value} {y : List Value} (h1 : toV ns v = some a) (h2 : toVs ns l = some y) : toVs ns (v :: l) = some (a :: y) := by
  simp only [toVs, h1, h2]
theorem toVs_len : ∀ {l : List CV} {x : List Value}, toVs ns l = some x → x.length = l.length
  | [], x, h => by simp [toVs] at h; subst h; rfl
  | v :: l, x, h => by obtain ⟨a, y, _, h2, rfl⟩ := toVs_cons h; simp [toVs_len h2]
theorem toVs_append : ∀ {l m : List CV} {x y : List Value}, toVs ns l = some x → toVs ns m = some y → toVs ns (l ++ m) = some (x ++ y)
  | [], m, x, y, h, h' => by simp [toVs] at h; subst h; simpa using h'
  | v :: l, m, x, y, h, h' => by obtain ⟨a, z, h1, h2, rfl⟩ := toVs_cons h; exact toVs_mk h1 (toVs_append h2 h')
theorem toVs_drop : ∀ (n : Nat) {l : List CV} {x : List Value}, toVs ns l = some x → toVs ns (l.drop n) = some (x.drop n)
  | 0, l, x, h => by simpa using h
  | n + 1, [], x, h => by simp [toVs] at h; subst h; simp [toVs]
  | n + 1, v :: l, x, h => by obtain ⟨a, z, h1, h2, rfl⟩ := toVs_cons h; simpa using toVs_drop n h2
theorem toVs_take : ∀ (n : Nat) {l : List CV} {x : List Value}, toVs ns l = some x → toVs ns (l.take n) = some (x.take n)
  | 0, l, x, h => by simp [toVs]
  | n + 1, [], x, h => by simp [toVs] at h; subst h; simp [toVs]
  | n + 1, v :: l, x, h => by obtain ⟨a, z, h1, h2, rfl⟩ := toVs_cons h; simpa using toVs_mk h1 (toVs_take n h2)
theorem toVs_get : ∀ {l : List CV} {x : List Value} {i : Nat} {v : CV}, toVs ns l = some x → l[i]? = some v → ∃ a, toV ns v = some a ∧ x[i]? = some a
  | [], x, i, v, h, hi => by simp at hi
  | u :: l, x, 0, v, h, hi => by obtain ⟨a, z, h1, h2, rfl⟩ := toVs_cons h; simp at hi; subst hi; exact ⟨a, h1, by simp⟩
  | u :: l, x, i + 1, v, h, hi => by obtain ⟨a, z, h1, h2, rfl⟩ := toVs_cons h; simp at hi; obtain ⟨b, h3, h4⟩ := toVs_get h2 hi; exact ⟨b, h3, by simpa using h4⟩

def cellsX : CV → List CV
  | .agg l => l
  | v => [v]
theorem toV_cells {v : CV} {x : Value} (h : toV ns v = some x) : toVs ns (cellsX v) = some x.cells.toList := by
  cases v
  case agg l =>
    simp only [toV] at h
    simp only [cellsX]
    cases ha : toVs ns l with
    | none => rw [ha] at h; simp at h
    | some y => rw [ha] at h; simp at h; subst h; simp [Value.cells]
  all_goals
    have : x.cells = #[x] := by
      revert h
      simp only [toV]
      first
        | (intro h; cases h; rfl)
        | (split <;> intro h <;> cases h <;> rfl)
        | (split <;> (try split) <;> intro h <;> cases h <;> rfl)
    rw [this]
    exact toVs_mk h rfl

def oneX : CV → Bool
  | .agg _ => false
  | .tup _ => false
  | .und => false
  | _ => true
theorem toV_one {v : CV} {x : Value} (h : toV ns v = some x) (ho : oneX v = true) : x.oneCell' = true := by
  cases v
  case agg l => simp [oneX] at ho
  case tup l => simp [oneX] at ho
  case und => simp [oneX] at ho
  all_goals
    revert h
    simp only [toV]
    first
      | (intro h; cases h; rfl)
      | (split <;> intro h <;> cases h <;> rfl)
      | (split <;> (try split) <;> intro h <;> cases h <;> rfl)
theorem toVs_one : ∀ {l : List CV} {x : List Value}, toVs ns l = some x → l.all oneX = true → ∀ a ∈ x, a.oneCell' = true
  | [], x, h, ho, a, ha => by simp [toVs] at h; subst h; cases ha
  | v :: l, x, h, ho, a, ha => by
    obtain ⟨b, y, h1, h2, rfl⟩ := toVs_cons h
    simp only [List.all_cons, Bool.and_eq_true] at ho
    rcases List.mem_cons.1 ha with rfl | hm
    · exact toV_one h1 ho.1
    · exact toVs_one h2 ho.2 a hm

/-! ### constants -/
def ofVf : Value → Option CV
  | .bool b => some (.bool b)
  | .int k n => some (.int k n)
  | .float k n => some (.flt k n)
  | .string s => some (.str (s.data.toList.map UInt8.toNat))
  | .pointer none => some .nilp
  | .slice none 0 0 => some .nilsl
  | .map none => some .nilmp
  | .nilFunc => some .nilfn
  | .nilIface => some .nilif
  | .func (.func f) ⟨[]⟩ ⟨[]⟩ => some (.fn f [] [])
  | _ => none
def ofVs : List Value → Option (List CV)
  | [] => some []
  | v :: l => match ofVf v, ofVs l with | some a, some b => some (a :: b) | _, _ => none
def ofV : Value → Option CV
  | .agg ⟨l⟩ => match ofVs l with | some x => some (.agg x) | none => none
  | v => ofVf v
theorem ofVf_ok {v : Value} {c : CV} (h : ofVf v = some c) : toV ns c = some v := by
  unfold ofVf at h
  split at h <;> first | (cases h; rfl) | skip
  · cases h
    rename_i s
    simp only [toV, bytesN, List.map_map]
    have : (UInt8.ofNat ∘ UInt8.toNat) = id := by funext x; simp
    rw [this]
    simp
  · cases h
theorem ofVs_ok : ∀ {l : List Value} {c : List CV}, ofVs l = some c → toVs ns c = some l
  | [], c, h => by simp [ofVs] at h; subst h; rfl
  | v :: l, c, h => by
    simp only [ofVs] at h
    cases ha : ofVf v with
    | none => rw [ha] at h; simp at h
    | some a =>
      cases hb : ofVs l with
      | none => rw [ha, hb] at h; simp at h
      | some b => rw [ha, hb] at h; simp at h; subst h; exact toVs_mk (ofVf_ok ha) (ofVs_ok hb)
theorem ofV_ok {v : Value} {c : CV} (h : ofV v = some c) : toV ns c = some v := by
  unfold ofV at h
  split at h
  · rename_i l
    cases ha : ofVs l with
    | none => rw [ha] at h; simp at h
    | some x => rw [ha] at h; simp at h; subst h; simp only [toV, ofVs_ok ha]
  · exact ofVf_ok h
end
end Go.Px

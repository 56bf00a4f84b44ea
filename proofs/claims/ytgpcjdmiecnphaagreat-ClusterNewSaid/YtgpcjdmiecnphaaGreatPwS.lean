/- The words at values of known shape, and small laws on parts of memory. -/
import Derived.Test.YtgpcjdmiecnphaaGreatPwH
import Derived.Laws.Strings
set_option linter.unusedSimpArgs false
set_option linter.unusedVariables false
namespace Go.Pw
open Go

theorem ACalls.drop {P : Program} {f : FuncId} {args : Array Value} {h : PH} {R : AEnd → PH → Prop} (H : ACalls P f args h fun e h' => ∃ g, Sub g h' ∧ R e g) : ACalls P f args h R := by
  refine ⟨H.1, fun w hw => (H.2 w hw).mono fun e w' he => ?_⟩
  have key : ∀ {h' g : PH}, Sub g h' → Framed h h' w w' → Framed h g w w' := fun hs hf => ⟨hf.os, hf.tape, hf.output, hf.size, fun b hb hn => by
    obtain ⟨a, c⟩ := hf.keep b hb hn
    refine ⟨?_, c⟩
    cases hg : (_ : PH) b with
    | none => exact hg
    | some o => rw [hs b o hg] at a; cases a⟩
  cases e <;> simp only at he ⊢
  · obtain ⟨h', a, b, g, c, d⟩ := he; exact ⟨g, a.sub c, key c b, d⟩
  · obtain ⟨h', a, b, g, c, d⟩ := he; exact ⟨g, a.sub c, key c b, d⟩

theorem Sub.refl (h : PH) : Sub h h := fun _ _ h => h
theorem Sub.trans {a b c : PH} (h1 : Sub a b) (h2 : Sub b c) : Sub a c := fun x o h => h2 x o (h1 x o h)
theorem Sub.put {h g : PH} {b : Nat} {o : Obj} (hs : Sub h g) (hb : h b = none) : Sub h (ins g b o) := fun x p hp => by
  by_cases hx : x = b
  · subst hx; rw [hb] at hp; cases hp
  · rw [ins_ne _ _ hx]; exact hs x p hp
theorem Sub.both {h g : PH} {b : Nat} {o : Obj} (hs : Sub h g) : Sub (ins h b o) (ins g b o) := fun x p hp => by
  by_cases hx : x = b
  · subst hx; rw [ins_eq] at hp ⊢; exact hp
  · rw [ins_ne _ _ hx] at hp ⊢; exact hs x p hp
theorem Sub.over {h g : PH} {b : Nat} {o p : Obj} (hs : Sub (ins h b o) g) : Sub (ins h b p) (ins g b p) := fun x q hq => by
  by_cases hx : x = b
  · subst hx; rw [ins_eq] at hq ⊢; exact hq
  · rw [ins_ne _ _ hx] at hq ⊢; exact hs x q (by rw [ins_ne _ _ hx]; exact hq)
theorem Sub.under {h g : PH} {b : Nat} {o : Obj} (hb : h b = none) (hs : Sub (ins h b o) g) : Sub h g := fun x p hp => hs x p (by rw [ins_ne _ _ (ne_of_apply_ne h (by rw [hp, hb]; simp))]; exact hp)
theorem Sub.fresh {h g : PH} {b : Nat} (hs : Sub h g) (hb : g b = none) : h b = none := by
  cases hh : h b with
  | none => rfl
  | some o => rw [hs b o hh] at hb; cases hb
theorem Sub.get {h g : PH} {b : Nat} {o : Obj} (hs : Sub (ins h b o) g) : g b = some o := hs b o (ins_eq h b o)
theorem ins_self {h : PH} {b : Nat} {o : Obj} (hb : h b = some o) : ins h b o = h := by
  funext x
  by_cases hx : x = b
  · subst hx; rw [ins_eq, hb]
  · rw [ins_ne _ _ hx]
theorem ins_ins (h : PH) (b : Nat) (o p : Obj) : ins (ins h b o) b p = ins h b p := by
  funext x
  by_cases hx : x = b
  · subst hx; rw [ins_eq, ins_eq]
  · rw [ins_ne _ _ hx, ins_ne _ _ hx, ins_ne _ _ hx]
theorem fresh_of {h : PH} {b c : Nat} {o : Obj} (hf : ins h b o c = none) : h c = none ∧ c ≠ b := by
  by_cases hx : c = b
  · subst hx; rw [ins_eq] at hf; cases hf
  · rw [ins_ne _ _ hx] at hf; exact ⟨hf, hx⟩
theorem ne_fresh {h : PH} {b x : Nat} {o : Obj} (hb : h b = none) (hx : h x = some o) : x ≠ b := fun e => by subst e; rw [hb] at hx; cases hx
theorem ins_get {h : PH} {b x : Nat} {o : Obj} (hx : x ≠ b) : ins h b o x = h x := ins_ne h o hx

theorem w64 {x : Int} (h1 : -9223372036854775808 ≤ x) (h2 : x ≤ 9223372036854775807) : IntKind.i64.wrap x = x := by rw [IntKind.wrap_i64]; omega

section
variable {P : Program} {h : PH} {K : Value → Prop}

@[simp] theorem vPick_b (t : Bool) (a b : Value) : vPick (.bool t) a b K ↔ K (cond t a b) := ⟨fun ⟨_, e, k⟩ => by cases e; exact k, fun k => ⟨t, rfl, k⟩⟩
@[simp] theorem dIf_b (t : Bool) (A B : Prop) : dIf (.bool t) A B ↔ (t = true → A) ∧ (t = false → B) := ⟨fun ⟨_, e, k⟩ => by cases e; exact k, fun k => ⟨t, rfl, k⟩⟩

theorem vBin_run {op : BinOp} {t : TypeId} {a b v : Value} (hv : ∀ x y w, (do eqGuard op t x y a b; binOp op t a b : Sem Value).run P w = .ok v w) : vBin P op t a b K ↔ K v :=
  ⟨fun ⟨u, hu, k⟩ => by have := (hu (.const undef) (.const undef) default).symm.trans (hv (.const undef) (.const undef) default); injection this with e; subst e; exact k, fun k => ⟨v, hv, k⟩⟩
theorem vBin_of {op : BinOp} {t : TypeId} {a b v : Value} (hv : ∀ x y, pureRun P (do eqGuard op t x y a b; binOp op t a b) = some v) : vBin P op t a b K ↔ K v := vBin_run fun x y w => pureRun_run w _ (hv x y)
theorem pureRun_seq {α β : Type} {s : Sem α} {a : α} {f : α → Sem β} {v : β} (h1 : pureRun P s = some a) (h2 : pureRun P (f a) = some v) : pureRun P (s >>= f) = some v := by rw [pureRun_bind s h1]; exact h2

@[simp] theorem vBin_add (t : TypeId) (k : IntKind) (a b : Int) : vBin P .add t (.int k a) (.int k b) K ↔ K (.int k (k.wrap (a + b))) := vBin_of fun _ _ => by simp [eqGuard, binOp, Op.intArith]; rfl
@[simp] theorem vBin_sub (t : TypeId) (k : IntKind) (a b : Int) : vBin P .sub t (.int k a) (.int k b) K ↔ K (.int k (k.wrap (a - b))) := vBin_of fun _ _ => by simp [eqGuard, binOp, Op.intArith]; rfl
@[simp] theorem vBin_mul (t : TypeId) (k : IntKind) (a b : Int) : vBin P .mul t (.int k a) (.int k b) K ↔ K (.int k (k.wrap (a * b))) := vBin_of fun _ _ => by simp [eqGuard, binOp, Op.intArith]; rfl
theorem vBin_quo (t : TypeId) (k : IntKind) (a b : Int) (hb : b ≠ 0) : vBin P .quo t (.int k a) (.int k b) K ↔ K (.int k (k.wrap (a.tdiv b))) := vBin_of fun _ _ => by simp [eqGuard, binOp, Op.intDiv, hb]; rfl
theorem vBin_rem (t : TypeId) (k : IntKind) (a b : Int) (hb : b ≠ 0) : vBin P .rem t (.int k a) (.int k b) K ↔ K (.int k (a.tmod b)) := vBin_of fun _ _ => by simp [eqGuard, binOp, Op.intDiv, hb]; rfl
@[simp] theorem vBin_lss (t : TypeId) (k : IntKind) (a b : Int) : vBin P .lss t (.int k a) (.int k b) K ↔ K (.bool (decide (a < b))) := vBin_of fun _ _ => by simp [eqGuard, binOp, Op.intCmp]; rfl
@[simp] theorem vBin_leq (t : TypeId) (k : IntKind) (a b : Int) : vBin P .leq t (.int k a) (.int k b) K ↔ K (.bool (decide (a ≤ b))) := vBin_of fun _ _ => by simp [eqGuard, binOp, Op.intCmp]; rfl
@[simp] theorem vBin_gtr (t : TypeId) (k : IntKind) (a b : Int) : vBin P .gtr t (.int k a) (.int k b) K ↔ K (.bool (decide (b < a))) := vBin_of fun _ _ => by simp [eqGuard, binOp, Op.intCmp]; rfl
@[simp] theorem vBin_geq (t : TypeId) (k : IntKind) (a b : Int) : vBin P .geq t (.int k a) (.int k b) K ↔ K (.bool (decide (b ≤ a))) := vBin_of fun _ _ => by simp [eqGuard, binOp, Op.intCmp]; rfl
@[simp] theorem vBin_eql (t : TypeId) (k : IntKind) (a b : Int) : vBin P .eql t (.int k a) (.int k b) K ↔ K (.bool (decide (a = b))) := vBin_of fun _ _ => by simp [eqGuard, binOp, Op.intCmp]; rfl
@[simp] theorem vBin_neq (t : TypeId) (k : IntKind) (a b : Int) : vBin P .neq t (.int k a) (.int k b) K ↔ K (.bool (!decide (a = b))) := vBin_of fun _ _ => by simp [eqGuard, binOp, Op.intCmp]; rfl

theorem bool_eq_true_of {a b : Bool} (h : a = b) : Value.bool a = .bool b := by rw [h]
theorem str_eq (x y : ByteArray) : (x.toList == y.toList) = decide (x = y) := by
  rw [ByteArray.toList_eq, ByteArray.toList_eq]
  by_cases h : x = y
  · subst h; simp
  · have : x.data.toList ≠ y.data.toList := fun e => h (by
      cases x; cases y
      simp only [ByteArray.mk.injEq]
      exact Array.ext' e)
    have h2 : ¬ x.data = y.data := fun e => this (by rw [e])
    simp [h, h2]
@[simp] theorem vBin_seq (t : TypeId) (x y : ByteArray) : vBin P .eql t (.string x) (.string y) K ↔ K (.bool (decide (x = y))) := vBin_of fun _ _ => by
  rw [← str_eq]; simp [eqGuard, binOp, Op.stringOp]; rfl
@[simp] theorem vBin_sneq (t : TypeId) (x y : ByteArray) : vBin P .neq t (.string x) (.string y) K ↔ K (.bool (!decide (x = y))) := vBin_of fun _ _ => by
  rw [← str_eq]; simp [eqGuard, binOp, Op.stringOp]; rfl
theorem vBin_sadd (t : TypeId) (x y : ByteArray) (hs : x.size + y.size ≤ 9223372036854775807) : vBin P .add t (.string x) (.string y) K ↔ K (.string (x ++ y)) := vBin_of fun _ _ => by
  have : ¬ (((x.size + y.size : Nat) : Int) > IntKind.i64.max) := by simp [IntKind.max, IntKind.bits, IntKind.signed]; omega
  simp only [binOp, Op.stringOp, eqGuard, this, if_false]; rfl

@[simp] theorem vUn_not (b : Bool) : vUn P .not (.bool b) K ↔ K (.bool !b) := ⟨fun ⟨v, h, k⟩ => by cases h; exact k, fun k => ⟨_, rfl, k⟩⟩
@[simp] theorem vUn_neg (kd : IntKind) (a : Int) : vUn P .neg (.int kd a) K ↔ K (.int kd (kd.wrap (0 - a))) := ⟨fun ⟨v, h, k⟩ => by cases h; exact k, fun k => ⟨_, rfl, k⟩⟩
theorem vExt_t (vs : Array Value) (i : Nat) : vExt (.tuple vs) i K ↔ ∃ v, vs[i]? = some v ∧ K v := ⟨fun ⟨_, v, e, h, k⟩ => by cases e; exact ⟨v, h, k⟩, fun ⟨v, h, k⟩ => ⟨vs, v, rfl, h, k⟩⟩
@[simp] theorem vExt_20 (a b : Value) : vExt (.tuple #[a, b]) 0 K ↔ K a := by simp [vExt_t]
@[simp] theorem vExt_21 (a b : Value) : vExt (.tuple #[a, b]) 1 K ↔ K b := by simp [vExt_t]
@[simp] theorem vExt_30 (a b c : Value) : vExt (.tuple #[a, b, c]) 0 K ↔ K a := by simp [vExt_t]
@[simp] theorem vExt_31 (a b c : Value) : vExt (.tuple #[a, b, c]) 1 K ↔ K b := by simp [vExt_t]
@[simp] theorem vExt_32 (a b c : Value) : vExt (.tuple #[a, b, c]) 2 K ↔ K c := by simp [vExt_t]
@[simp] theorem vFA_p (off b o : Nat) : vFA off (.pointer (some ⟨b, o, none⟩)) K ↔ K (.pointer (some ⟨b, o + off, none⟩)) := ⟨fun ⟨_, _, e, k⟩ => by cases e; exact k, fun k => ⟨b, o, rfl, k⟩⟩
@[simp] theorem vNil_p (b : Addr) : vNil (.pointer (some b)) K ↔ K (.pointer (some b)) := ⟨fun h => h.2, fun k => ⟨rfl, k⟩⟩
@[simp] theorem vIxA_p (len esz b o : Nat) (kd : IntKind) (n : Int) : vIxA len esz (.pointer (some ⟨b, o, none⟩)) (.int kd n) K ↔ 0 ≤ n ∧ n < (len : Int) ∧ K (.pointer (some ⟨b, o + n.toNat * esz, none⟩)) :=
  ⟨fun ⟨_, _, _, _, e, e', h1, h2, k⟩ => by cases e; cases e'; exact ⟨h1, h2, k⟩, fun ⟨h1, h2, k⟩ => ⟨_, _, _, _, rfl, rfl, h1, h2, k⟩⟩
@[simp] theorem vIxS_p (esz b o len cap : Nat) (kd : IntKind) (n : Int) : vIxS esz (.slice (some ⟨b, o, none⟩) len cap) (.int kd n) K ↔ 0 ≤ n ∧ n < (len : Int) ∧ K (.pointer (some ⟨b, o + n.toNat * esz, none⟩)) :=
  ⟨fun ⟨_, _, _, _, _, _, e, e', h1, h2, k⟩ => by cases e; cases e'; exact ⟨h1, h2, k⟩, fun ⟨h1, h2, k⟩ => ⟨_, _, _, _, _, _, rfl, rfl, h1, h2, k⟩⟩
theorem vLoad_p {b off : Nat} {c : Array Value} {e : TypeId} {fr : Nat × Nat} (hb : h b = some (.cells c e fr)) (sz : Option Nat) : vLoad sz (.pointer (some ⟨b, off, none⟩)) h K ↔ cellsAt sz c off K :=
  ⟨fun ⟨_, _, _, _, _, ea, hb', k⟩ => by cases ea; rw [hb] at hb'; cases hb'; exact k, fun k => ⟨b, off, c, e, fr, rfl, hb, k⟩⟩
theorem cellsAt_one {c : Array Value} {off : Nat} {v : Value} (hv : c[off]? = some v) : cellsAt none c off K ↔ K v := ⟨fun ⟨u, hu, k⟩ => by rw [hv] at hu; cases hu; exact k, fun k => ⟨v, hv, k⟩⟩
theorem vLoad_1 {b off : Nat} {c : Array Value} {e : TypeId} {fr : Nat × Nat} {v : Value} (hb : h b = some (.cells c e fr)) (hv : c[off]? = some v) : vLoad none (.pointer (some ⟨b, off, none⟩)) h K ↔ K v := by
  rw [vLoad_p hb, cellsAt_one hv]
theorem vLoad_n {b off n : Nat} {c : Array Value} {e : TypeId} {fr : Nat × Nat} (hb : h b = some (.cells c e fr)) (hn : off + n ≤ c.size) : vLoad (some n) (.pointer (some ⟨b, off, none⟩)) h K ↔ K (.agg (c.extract off (off + n))) := by
  rw [vLoad_p hb]; exact ⟨fun k => k.2, fun k => ⟨hn, k⟩⟩
theorem vStore_p {n b off : Nat} {c : Array Value} {e : TypeId} {v : Value} {K : PH → Prop} (hb : h b = some (.cells c e (0, 0))) (hn : v.cells.size = n) (hl : off + n ≤ c.size) (ho : v.cells.toList.all Value.oneCell' = true) :
    vStore n (.pointer (some ⟨b, off, none⟩)) v h K ↔ K (ins h b (.cells (wr c off v.cells.toList) e (0, 0))) :=
  ⟨fun ⟨_, _, _, _, _, ea, hb', _, _, _, _, k⟩ => by cases ea; rw [hb] at hb'; cases hb'; exact k, fun k => ⟨b, off, c, e, (0, 0), rfl, hb, hn, hl, ho, .inl (Nat.zero_le _), k⟩⟩
theorem vStore_1 {b off : Nat} {c : Array Value} {e : TypeId} {v : Value} {K : PH → Prop} (hb : h b = some (.cells c e (0, 0))) (hl : off < c.size) (ho : v.oneCell' = true) :
    vStore 1 (.pointer (some ⟨b, off, none⟩)) v h K ↔ K (ins h b (.cells (c.setIfInBounds off v) e (0, 0))) := by
  have hc : v.cells = #[v] := by cases v <;> first | rfl | cases ho
  rw [vStore_p hb (by rw [hc]; rfl) hl (by rw [hc]; simp [ho])]
  rw [hc]; rfl
theorem wr_all : ∀ (vs : List Value) (c : Array Value), c.size = vs.length → wr c 0 vs = vs.toArray := fun vs c hc => by
  rw [wr_behind (by omega)]
  have : c.toList.drop (0 + vs.length) = [] := List.drop_eq_nil_of_le (by simp; omega)
  rw [this]; simp
theorem vStore_all {n b : Nat} {c cs : Array Value} {e : TypeId} {K : PH → Prop} (hb : h b = some (.cells c e (0, 0))) (h1 : c.size = n) (h2 : cs.size = n) (ho : cs.toList.all Value.oneCell' = true) :
    vStore n (.pointer (some ⟨b, 0, none⟩)) (.agg cs) h K ↔ K (ins h b (.cells cs e (0, 0))) := by
  rw [vStore_p (v := .agg cs) hb h2 (by omega) ho, wr_all _ _ (by rw [h1]; exact h2.symm)]
  simp [Value.cells]
theorem vStore_to {n b : Nat} {c cs : Array Value} {e : TypeId} {K : PH → Prop} (hb : h b = some (.cells c e (0, 0))) (h1 : c.size = n) (h2 : cs.size = n) (ho : cs.toList.all Value.oneCell' = true) (hk : K (ins h b (.cells cs e (0, 0)))) :
    vStore n (.pointer (some ⟨b, 0, none⟩)) (.agg cs) h K := (vStore_all hb h1 h2 ho).2 hk
@[simp] theorem vLenS_s (p : Option Addr) (len cap : Nat) : vLenS (.slice p len cap) K ↔ K (.int .i64 len) := ⟨fun ⟨_, _, _, e, k⟩ => by cases e; exact k, fun k => ⟨_, _, _, rfl, k⟩⟩
@[simp] theorem vLenStr_s (s : ByteArray) : vLenStr (.string s) K ↔ K (.int .i64 s.size) := ⟨fun ⟨_, e, k⟩ => by cases e; exact k, fun k => ⟨_, rfl, k⟩⟩
@[simp] theorem vConvI_i (k k' : IntKind) (n : Int) : vConvI k (.int k' n) K ↔ K (.int k (k.wrap n)) := ⟨fun ⟨_, _, e, k⟩ => by cases e; exact k, fun k => ⟨_, _, rfl, k⟩⟩
@[simp] theorem vMinMax_i (mx : Bool) (k k' : IntKind) (a b : Int) : vMinMax mx (.int k a) (.int k' b) K ↔ K (.int k (if (if mx then b > a else b < a) then b else a)) := ⟨fun ⟨_, _, _, _, e, e', k⟩ => by cases e; cases e'; exact k, fun k => ⟨_, _, _, _, rfl, rfl, k⟩⟩
@[simp] theorem vIface_v (t : TypeId) (a : Value) : vIface t a K ↔ K (.iface t a) := Iff.rfl
@[simp] theorem vFunc_v (f : Fn) (a b : Array Value) : vFunc f a b K ↔ K (.func f a b) := Iff.rfl
@[simp] theorem boolOf_b (b : Bool) : boolOf (.bool b) = some b := rfl
@[simp] theorem gq_b (b w : Bool) (op : (Value → PH → Prop) → Prop) (K : Value → PH → Prop) : gq (some b) w op K h ↔ (b = w → op K) ∧ (b ≠ w → K undef h) := by
  simp [gq]
@[simp] theorem boolOf_u : boolOf undef = none := rfl
@[simp] theorem gq_n (w : Bool) (op : (Value → PH → Prop) → Prop) (K : Value → PH → Prop) : gq none w op K h ↔ K undef h := by simp [gq]
@[simp] theorem gd_n (w : Bool) (A : Prop) : gd none w A ↔ True := by simp [gd]
@[simp] theorem gd_b (b w : Bool) (A : Prop) : gd (some b) w A ↔ (b = w → A) := by simp [gd]
theorem vNew_i {cells : Array Value} {e : TypeId} {K : Value → PH → Prop} (hk : ∀ b, h b = none → K (.pointer (some ⟨b, 0, none⟩)) (ins h b (.cells cells e (0, 0)))) : vNew cells e h K := hk
theorem pureRun_underlying {t : TypeId} {d : TypeDesc} (hu : P.underlying t = some d) : pureRun P (underlying t) = some d := by
  unfold underlying program
  show pureRun P (Sem.program fun p => _) = _
  simp only [pureRun, Sem.bind, hu]
  rfl
theorem pureRun_eqGuard {op : BinOp} {t : TypeId} {x y : Operand} {a b : Value} (ha : ∀ c, a ≠ .agg c) (hn : a ≠ .nilIface) : pureRun P (eqGuard op t x y a b) = some () := by
  unfold eqGuard
  cases op <;> first | rfl | (cases a <;> first | rfl | exact absurd rfl (ha _) | exact absurd rfl hn)
theorem vBin_eq {t : TypeId} {a b : Value} {r : Bool} (h0 : ∀ x y, pureRun P (eqGuard .eql t x y a b) = some ()) (hb : binOp .eql t a b = (do pure (.bool (← Op.equal t a b)))) (hr : pureRun P (Op.equal t a b) = some r) : vBin P .eql t a b K ↔ K (.bool r) :=
  vBin_of fun x y => pureRun_seq (h0 x y) (by rw [hb]; exact pureRun_seq hr rfl)
theorem vBin_ne {t : TypeId} {a b : Value} {r : Bool} (h0 : ∀ x y, pureRun P (eqGuard .neq t x y a b) = some ()) (hb : binOp .neq t a b = (do pure (.bool (!(← Op.equal t a b))))) (hr : pureRun P (Op.equal t a b) = some r) : vBin P .neq t a b K ↔ K (.bool (!r)) :=
  vBin_of fun x y => pureRun_seq (h0 x y) (by rw [hb]; exact pureRun_seq hr rfl)
theorem equalIn_pnil (d : Nat) {t e : TypeId} (hu : P.underlying t = some (.pointer e)) (a : Addr) : pureRun P (Op.equalIn (d + 1) t (.pointer (some a)) (.pointer none)) = some false := by
  rw [Op.equalIn]
  exact pureRun_seq (pureRun_underlying hu) rfl
theorem equalIn_nilnil (d : Nat) {t e : TypeId} (hu : P.underlying t = some (.pointer e)) : pureRun P (Op.equalIn (d + 1) t (.pointer none) (.pointer none)) = some true := by
  rw [Op.equalIn]
  exact pureRun_seq (pureRun_underlying hu) rfl
theorem equal_pnil {t e : TypeId} (hu : P.underlying t = some (.pointer e)) (a : Addr) : pureRun P (Op.equal t (.pointer (some a)) (.pointer none)) = some false := equalIn_pnil 9999 hu a
theorem equal_nilnil {t e : TypeId} (hu : P.underlying t = some (.pointer e)) : pureRun P (Op.equal t (.pointer none) (.pointer none)) = some true := equalIn_nilnil 9999 hu
/-- A pointer against nil. -/
theorem vBin_pnil {t e : TypeId} (hu : P.underlying t = some (.pointer e)) (a : Addr) : vBin P .eql t (.pointer (some a)) (.pointer none) K ↔ K (.bool false) :=
  vBin_eq (fun _ _ => pureRun_eqGuard (fun _ h => by cases h) (fun h => by cases h)) rfl (equal_pnil hu a)
theorem vBin_nilp {t e : TypeId} (hu : P.underlying t = some (.pointer e)) : vBin P .eql t (.pointer none) (.pointer none) K ↔ K (.bool true) :=
  vBin_eq (fun _ _ => pureRun_eqGuard (fun _ h => by cases h) (fun h => by cases h)) rfl (equal_nilnil hu)
theorem vBin_pneq {t e : TypeId} (hu : P.underlying t = some (.pointer e)) (a : Addr) : vBin P .neq t (.pointer (some a)) (.pointer none) K ↔ K (.bool true) :=
  vBin_ne (fun _ _ => pureRun_eqGuard (fun _ h => by cases h) (fun h => by cases h)) rfl (equal_pnil hu a)
theorem vBin_nilneq {t e : TypeId} (hu : P.underlying t = some (.pointer e)) : vBin P .neq t (.pointer none) (.pointer none) K ↔ K (.bool false) :=
  vBin_ne (fun _ _ => pureRun_eqGuard (fun _ h => by cases h) (fun h => by cases h)) rfl (equal_nilnil hu)
end
end Go.Pw

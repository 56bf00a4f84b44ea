/- Partial heaps over the model's worlds, and regions that draw their order over them: one canonical order serves every order. -/
import Derived.Orders
import Derived.Below
set_option linter.unusedSimpArgs false
set_option linter.unusedVariables false
namespace Go.Pw
open Go

abbrev PH := Nat → Option Obj
abbrev Env := Nat → Value

/-- The part h of memory is what w holds there. -/
def Holds (h : PH) (w : World) : Prop := ∀ b o, h b = some o → w.heap[b]? = some o

/-- From w to w' nothing turned but what h owns, and what is new. -/
structure Framed (h h' : PH) (w w' : World) : Prop where
  os : w'.os = w.os
  tape : w'.tape = w.tape
  output : w'.output = w.output
  size : w.heap.size ≤ w'.heap.size
  keep : ∀ b, b < w.heap.size → h b = none → h' b = none ∧ w'.heap[b]? = w.heap[b]?

theorem Framed.refl (h : PH) (w : World) : Framed h h w w := ⟨rfl, rfl, rfl, Nat.le_refl _, fun _ _ h => ⟨h, rfl⟩⟩
theorem Framed.trans {h h1 h2 : PH} {w w1 w2 : World} (a : Framed h h1 w w1) (b : Framed h1 h2 w1 w2) : Framed h h2 w w2 :=
  ⟨b.os.trans a.os, b.tape.trans a.tape, b.output.trans a.output, Nat.le_trans a.size b.size, fun k hk hn => by
    obtain ⟨x, y⟩ := a.keep k hk hn
    obtain ⟨x', y'⟩ := b.keep k (Nat.lt_of_lt_of_le hk a.size) x
    exact ⟨x', y'.trans y⟩⟩

theorem nbeq {x b : Nat} (hx : x ≠ b) : Nat.beq x b = false := by
  cases hq : Nat.beq x b with
  | false => rfl
  | true => exact absurd (Nat.eq_of_beq_eq_true hq) hx
def ins (h : PH) (b : Nat) (o : Obj) : PH := fun x => cond (Nat.beq x b) (some o) (h x)
theorem ins_eq (h : PH) (b : Nat) (o : Obj) : ins h b o b = some o := by simp [ins]
theorem ins_ne (h : PH) {b x : Nat} (o : Obj) (hx : x ≠ b) : ins h b o x = h x := by
  have : Nat.beq x b = false := nbeq hx
  simp [ins, this]
theorem ins_comm (h : PH) {b c : Nat} (o p : Obj) (hx : b ≠ c) : ins (ins h b o) c p = ins (ins h c p) b o := by
  funext x
  by_cases h1 : x = b
  · subst h1; rw [ins_ne _ _ hx, ins_eq, ins_eq]
  · by_cases h2 : x = c
    · subst h2; rw [ins_eq, ins_ne _ _ h1, ins_eq]
    · rw [ins_ne _ _ h2, ins_ne _ _ h1, ins_ne _ _ h1, ins_ne _ _ h2]

theorem Holds.lt {h : PH} {w : World} (hw : Holds h w) {b : Nat} {o : Obj} (hb : h b = some o) : b < w.heap.size := by
  have := hw b o hb
  exact (Array.getElem?_eq_some_iff.1 this).1
theorem Holds.none {h : PH} {w : World} (hw : Holds h w) {b : Nat} (hb : w.heap.size ≤ b) : h b = none := by
  cases hh : h b with
  | none => rfl
  | some o => have := hw.lt hh; omega

/-- A smaller part. -/
def Sub (h g : PH) : Prop := ∀ b o, h b = some o → g b = some o
theorem Holds.sub {h g : PH} {w : World} (hs : Sub h g) (hw : Holds g w) : Holds h w := fun b o hb => hw b o (hs b o hb)
theorem sub_ins {h : PH} {b : Nat} (o : Obj) (hb : h b = none) : Sub h (ins h b o) := fun x p hp => by
  by_cases hx : x = b
  · subst hx; rw [hb] at hp; cases hp
  · rw [ins_ne _ _ hx]; exact hp

/-- The block b lies beside h: what h's call leaves, with b laid beside. -/
theorem frame_ins {h h' : PH} {b : Nat} {o : Obj} {w w' : World} (hb : h b = none) (hw : Holds (ins h b o) w) (hw' : Holds h' w') (hf : Framed h h' w w') :
    h' b = none ∧ Holds (ins h' b o) w' ∧ Framed (ins h b o) (ins h' b o) w w' := by
  have hlt : b < w.heap.size := hw.lt (ins_eq h b o)
  obtain ⟨h1, h2⟩ := hf.keep b hlt hb
  refine ⟨h1, fun x p hp => ?_, ⟨hf.os, hf.tape, hf.output, hf.size, fun x hx hn => ?_⟩⟩
  · by_cases hx : x = b
    · subst hx; rw [ins_eq] at hp; rw [h2, hw x o (ins_eq h x o)]; exact hp
    · rw [ins_ne _ _ hx] at hp; exact hw' x p hp
  · by_cases hxb : x = b
    · subst hxb; rw [ins_eq] at hn; cases hn
    · rw [ins_ne _ _ hxb] at hn ⊢; exact hf.keep x hx hn

/-- The block b is let go. -/
theorem frame_drop {h h' : PH} {b : Nat} {o : Obj} {w w' : World} (hf : Framed h h' w w') : Framed (ins h b o) h' w w' :=
  ⟨hf.os, hf.tape, hf.output, hf.size, fun x hx hn => by
    by_cases hxb : x = b
    · subst hxb; rw [ins_eq] at hn; cases hn
    · rw [ins_ne _ _ hxb] at hn; exact hf.keep x hx hn⟩

/-- The same, a larger part g of memory in the place of one block. -/
theorem frame_sub {h g : PH} (v : Nat) {w w' : World} (hs : Sub h g) (hw : Holds g w) (hw' : Holds h w') (hf : Framed h h w w') : Holds g w' ∧ Framed g g w w' := by
  refine ⟨fun b o hb => ?_, ⟨hf.os, hf.tape, hf.output, hf.size, fun b hb hn => ⟨hn, ?_⟩⟩⟩
  · cases hh : h b with
    | none => rw [(hf.keep b (hw.lt hb) hh).2]; exact hw b o hb
    | some p =>
      have := hs b p hh
      rw [hb] at this
      injection this with e
      subst e
      exact hw' b o hh
  · have : h b = none := by
      cases hh : h b with
      | none => rfl
      | some p => rw [hs b p hh] at hn; cases hn
    exact (hf.keep b hb this).2

/-! ### environments -/
def upd (ρ : Env) (d : Option Tmp) (v : Value) : Env :=
  match d with
  | none => ρ
  | some d => fun t => cond (Nat.beq t d) v (ρ t)
def evalE (ρ : Env) : Operand → Value
  | .tmp t => ρ t
  | .const v => v
  | .global g => .pointer (some ⟨g, 0, none⟩)
  | .func f => .func (.func f) #[] #[]
def envOf (a : Act) : Env := fun t => a.tmps.getD t undef
theorem eval_envOf (a : Act) : a.eval = evalE (envOf a) := by funext x; cases x <;> rfl
theorem upd_eq (ρ : Env) (d : Tmp) (v : Value) : upd ρ (some d) v d = v := by simp [upd]
theorem upd_ne (ρ : Env) {d t : Tmp} (v : Value) (h : t ≠ d) : upd ρ (some d) v t = ρ t := by
  have : Nat.beq t d = false := nbeq h
  simp [upd, this]
theorem envOf_put {a : Act} {d : Option Tmp} (v : Value) (h : ∀ x, d = some x → x < a.tmps.size) : envOf (a.put d v) = upd (envOf a) d v := by
  cases d with
  | none => rfl
  | some d =>
    funext t
    have hd := h d rfl
    by_cases ht : t = d
    · subst ht; rw [upd_eq]; simp [envOf, Act.put, hd]
    · rw [upd_ne _ _ ht]
      simp [envOf, Act.put, Array.getElem?_setIfInBounds_ne (Ne.symm ht)]
theorem upd_comm (ρ : Env) {x y : Option Tmp} (v u : Value) (h : ∀ d, x = some d → y ≠ some d) : upd (upd ρ x v) y u = upd (upd ρ y u) x v := by
  cases x with
  | none => rfl
  | some d =>
    cases y with
    | none => rfl
    | some e =>
      have hne : d ≠ e := fun he => h d rfl (he ▸ rfl)
      funext t
      by_cases h1 : t = d
      · subst h1; rw [upd_ne _ _ hne, upd_eq, upd_eq]
      · by_cases h2 : t = e
        · subst h2; rw [upd_eq, upd_ne _ _ h1, upd_eq]
        · rw [upd_ne _ _ h2, upd_ne _ _ h1, upd_ne _ _ h1, upd_ne _ _ h2]

def yieldedE (ops : Array Oper) (ρ : Env) (j : Nat) : Option Bool :=
  match (ops[j]?).bind (·.dst) with
  | some t => (match ρ t with | .bool b => some b | _ => none)
  | none => none
theorem yielded_envOf (ops : Array Oper) (a : Act) : yielded ops a.tmps = yieldedE ops (envOf a) := by
  funext j
  unfold yielded yieldedE envOf
  cases (ops[j]?).bind (·.dst) with
  | none => rfl
  | some t =>
    simp only [Option.bind_some]
    rw [Array.getD_eq_getD_getElem?]
    cases h : a.tmps[t]? with
    | none => rfl
    | some v => cases v <;> rfl

theorem evalE_upd {ρ : Env} {dst : Option Tmp} {v : Value} {x : Operand} (h : ∀ d, dst = some d → x ≠ .tmp d) : evalE (upd ρ dst v) x = evalE ρ x := by
  cases dst with
  | none => rfl
  | some d =>
    cases x with
    | tmp t => exact upd_ne _ _ (fun e => h d rfl (e ▸ rfl))
    | _ => rfl
theorem execOp_upd {ops : Array Oper} (o : Oper) (hs : ∀ cs b, o.op ≠ .select cs b) (ρ : Env) (dst : Option Tmp) (v : Value) (h : ∀ d, dst = some d → d ∉ o.looksAt ops) :
    execOp (evalE (upd ρ dst v)) o = execOp (evalE ρ) o :=
  execOp_congr o hs fun x hx => evalE_upd fun d hd hxd => h d hd (by
    subst hxd
    exact List.mem_append_left _ (List.mem_filterMap.2 ⟨.tmp d, by simpa using hx, rfl⟩))
theorem wanted_upd {ops : Array Oper} (o : Oper) (ρ : Env) (dst : Option Tmp) (v : Value) (h : ∀ d, dst = some d → d ∉ o.looksAt ops) :
    Region.wanted o (yieldedE ops (upd ρ dst v)) = Region.wanted o (yieldedE ops ρ) := by
  cases dst with
  | none => rfl
  | some d =>
    unfold Region.wanted
    cases hg : o.guard with
    | none => rfl
    | some gw =>
      obtain ⟨g, want⟩ := gw
      have hy : yieldedE ops (upd ρ (some d) v) g = yieldedE ops ρ g := by
        unfold yieldedE
        cases ht : (ops[g]?).bind (·.dst) with
        | none => rfl
        | some t =>
          have hne : t ≠ d := fun e => h d rfl (by subst e; simp [Oper.looksAt, hg, ht])
          simp only [upd_ne _ _ hne]
      simp only [hy]

/-! ### what one operation does, over a part of memory -/
/-- It hands v back and leaves the part h as it is. -/
def OpY (P : Program) (o : Oper) (ρ : Env) (h : PH) (v : Value) : Prop := ∀ w, Holds h w →
  match (execOp (evalE ρ) o).run P w with
  | .ok (.value u) w' => w' = w ∧ u = v
  | .ok (.enter f args) w' => w' = w ∧ Calls P f args w fun e w'' => match e with
      | .returned u => u = v ∧ Holds h w'' ∧ Framed h h w w''
      | .panicked _ => False
      | .outgrown => False
  | _ => False

/-- It lays one new block, of which only the environment decides, and hands back a value that names it. -/
def OpA (P : Program) (o : Oper) (ρ : Env) (obj : Obj) (mk : Nat → Value) : Prop := ∀ w,
  (execOp (evalE ρ) o).run P w = .ok (.value (mk w.heap.size)) { w with heap := w.heap.push obj }

/-- Anything else: what may follow is asked of K, what may follow a panic of Kp. -/
def OpL (P : Program) (o : Oper) (ρ : Env) (h : PH) (K : Value → PH → Prop) (Kp : List PanicEntry → PH → Prop) : Prop := ∀ w, Holds h w →
  (match (execOp (evalE ρ) o).run P w with
  | .ok (.value v) w' => ∃ h', Holds h' w' ∧ Framed h h' w w' ∧ K v h'
  | .ok .skip w' => ∃ h', Holds h' w' ∧ Framed h h' w w' ∧ K undef h'
  | .ok (.enter f args) w' => w' = w ∧ Calls P f args w fun e w'' => match e with
      | .returned v => ∃ h', Holds h' w'' ∧ Framed h h' w w'' ∧ K v h'
      | .panicked c => ∃ h', Holds h' w'' ∧ Framed h h' w w'' ∧ Kp c h'
      | .outgrown => False
  | .halt (.panic v) w' => ∃ h', Holds h' w' ∧ Framed h h' w w' ∧ Kp [{ v, recovered := false }] h'
  | _ => False) ∨
  False

theorem OpL.mono {P : Program} {o : Oper} {ρ : Env} {h : PH} {K K' : Value → PH → Prop} {Kp Kp' : List PanicEntry → PH → Prop}
    (hk : ∀ v h', K v h' → K' v h') (hp : ∀ c h', Kp c h' → Kp' c h') (H : OpL P o ρ h K Kp) : OpL P o ρ h K' Kp' := by
  intro w hw
  rcases H w hw with H | H
  · left
    generalize (execOp (evalE ρ) o).run P w = r at H
    cases r with
    | ok n w' =>
      cases n <;> simp only at H ⊢
      case value v => obtain ⟨h', a, b, c⟩ := H; exact ⟨h', a, b, hk _ _ c⟩
      case skip => obtain ⟨h', a, b, c⟩ := H; exact ⟨h', a, b, hk _ _ c⟩
      case enter f args =>
        refine ⟨H.1, H.2.mono fun e w'' he => ?_⟩
        cases e <;> simp only at he ⊢
        · obtain ⟨h', a, b, c⟩ := he; exact ⟨h', a, b, hk _ _ c⟩
        · obtain ⟨h', a, b, c⟩ := he; exact ⟨h', a, b, hp _ _ c⟩
    | halt x w' =>
      cases x <;> simp only at H ⊢
      case panic v => obtain ⟨h', a, b, c⟩ := H; exact ⟨h', a, b, hp _ _ c⟩
  · exact .inr H

theorem OpY.sub {P : Program} {o : Oper} {ρ : Env} {h g : PH} {v : Value} (hs : Sub h g) (H : OpY P o ρ h v) : OpY P o ρ g v := by
  intro w hw
  have h1 := H w (hw.sub hs)
  generalize (execOp (evalE ρ) o).run P w = r at h1
  cases r with
  | halt x w' => cases x <;> exact h1
  | ok n w' =>
    cases n <;> simp only at h1 ⊢
    case value u => exact h1
    case enter f args =>
      refine ⟨h1.1, h1.2.mono fun e w'' he => ?_⟩
      cases e <;> simp only at he ⊢
      obtain ⟨a, b, c⟩ := he
      obtain ⟨x, y⟩ := frame_sub 0 hs hw b c
      exact ⟨a, x, y⟩

/-- With one block more beside. -/
theorem OpL.frame {P : Program} {o : Oper} {ρ : Env} {h : PH} {K : Value → PH → Prop} {Kp : List PanicEntry → PH → Prop} {b : Nat} {obj : Obj} (hb : h b = none)
    (H : OpL P o ρ h K Kp) : OpL P o ρ (ins h b obj) (fun v g => ∃ h', h' b = none ∧ g = ins h' b obj ∧ K v h') Kp := by
  intro w hw
  have hw0 : Holds h w := hw.sub (sub_ins obj hb)
  rcases H w hw0 with H | H
  · left
    generalize (execOp (evalE ρ) o).run P w = r at H
    cases r with
    | ok n w' =>
      cases n <;> simp only at H ⊢
      case value v => obtain ⟨h', a, f, c⟩ := H; obtain ⟨x, y, z⟩ := frame_ins hb hw a f; exact ⟨_, y, z, h', x, rfl, c⟩
      case skip => obtain ⟨h', a, f, c⟩ := H; obtain ⟨x, y, z⟩ := frame_ins hb hw a f; exact ⟨_, y, z, h', x, rfl, c⟩
      case enter f args =>
        refine ⟨H.1, H.2.mono fun e w'' he => ?_⟩
        cases e <;> simp only at he ⊢
        · obtain ⟨h', a, f, c⟩ := he; obtain ⟨x, y, z⟩ := frame_ins hb hw a f; exact ⟨_, y, z, h', x, rfl, c⟩
        · obtain ⟨h', a, f, c⟩ := he; exact ⟨h', a, frame_drop f, c⟩
    | halt x w' =>
      cases x <;> simp only at H ⊢
      case panic v => obtain ⟨h', a, f, c⟩ := H; exact ⟨h', a, frame_drop f, c⟩
  · exact .inr H

end Go.Pw

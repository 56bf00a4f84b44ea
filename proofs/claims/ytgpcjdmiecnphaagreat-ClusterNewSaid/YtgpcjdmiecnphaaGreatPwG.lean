/- A predicate transformer by recursion on the code, over environments and parts of memory; it is sound for the model. -/
import Derived.Test.YtgpcjdmiecnphaaGreatPwF
set_option linter.unusedSimpArgs false
set_option linter.unusedVariables false
namespace Go.Pw
open Go

section
variable (P : Program) (qf : FuncId → Bool)

def denOp (o : Oper) (ρ : Env) (h : PH) (K : Value → PH → Prop) (Kp : List PanicEntry → PH → Prop) : Prop :=
  match clsOf P qf o with
  | .pure => denQ P o ρ h (fun v => K v h)
  | .read => denQ P o ρ h (fun v => K v h)
  | .alloc => denA P o ρ h K
  | .loud => denL P o ρ h K Kp

def yieldedL (l : List Oper) (ρ : Env) (j : Nat) : Option Bool :=
  match (l[j]?).bind (·.dst) with
  | some t => boolOf (ρ t)
  | none => none

def isB (o : Oper) : Bool := match o.op with | .buildSlice .. => true | _ => false
def reYs (l : List Oper) (ρ : Env) (h : PH) : List Nat → Prop → Prop
  | [], X => X
  | q :: qs, X => match l[q]? with
    | some o => match isB o with
      | true => reYs l ρ h qs X
      | false => (match o.guard with
        | none => denQ P o ρ h (fun v => match o.dst with | some d => ρ d = v | none => True)
        | some (j, w) => gd (yieldedL l ρ j) w (denQ P o ρ h (fun v => match o.dst with | some d => ρ d = v | none => True))) ∧ reYs l ρ h qs X
    | none => reYs l ρ h qs X
/-- What lays a block can be carried out already. -/
def preF (l : List Oper) (ρ : Env) : List Nat → Prop → Prop
  | [], X => X
  | q :: qs, X => match l[q]? with
    | some o => match isB o with
      | true => (match o.guard with
        | none => denA P o ρ (fun _ => none) (fun _ _ => True)
        | some (j, w) => gd (yieldedL l ρ j) w (denA P o ρ (fun _ => none) (fun _ _ => True))) ∧ preF l ρ qs X
      | false => preF l ρ qs X
    | none => preF l ρ qs X

def denC (l : List Oper) (Q : Env → PH → Prop) (Kp : List PanicEntry → PH → Prop) : List (Nat × List Nat) → Env → PH → Prop
  | [], ρ, h => Q ρ h
  | (i, qs) :: rest, ρ, h => match l[i]? with
    | none => False
    | some o => preF P l ρ qs (match o.guard with
      | none => denOp P qf o ρ h (fun v h' => reYs P l ρ h' qs (denC l Q Kp rest (upd ρ o.dst v) h')) Kp
      | some (j, w) => gq (yieldedL l ρ j) w (fun K => denOp P qf o ρ h K Kp) (fun v h' => reYs P l ρ h' qs (denC l Q Kp rest (upd ρ o.dst v) h')) h)

def seqGo : Nat → Nat → List (Nat × List Nat)
  | 0, _ => []
  | n + 1, i => (i, []) :: seqGo n (i + 1)

def LoopW (B : (Exit → Env → PH → Prop) → Env → PH → Prop) (Q : Exit → Env → PH → Prop) (ρ : Env) (h : PH) : Prop :=
  ∃ (I : Nat → Env → PH → Prop) (n : Nat), I n ρ h ∧ ∀ n ρ h, I n ρ h → B (fun e ρ' h' => match e with
    | .normal => ∃ m, m < n ∧ I m ρ' h'
    | e => Q e ρ' h') ρ h

abbrev Loops := Code → (Exit → Env → PH → Prop) → Env → PH → Prop
def den (ords : Nat → List (Nat × List Nat)) (Kp : List PanicEntry → PH → Prop) (L : Loops) : Code → (Exit → Env → PH → Prop) → Env → PH → Prop
  | .skip, Q, ρ, h => Q .normal ρ h
  | .region id ops draw, Q, ρ, h => denC P qf ops.toList (Q .normal) Kp (match draw with | true => ords id | false => seqGo ops.toList.length 0) ρ h
  | .seq a b, Q, ρ, h => den ords Kp L a (fun e ρ h => match e with | .normal => den ords Kp L b Q ρ h | e => Q e ρ h) ρ h
  | .cond c a b, Q, ρ, h => dIf (evalE ρ c) (den ords Kp L a Q ρ h) (den ords Kp L b Q ρ h)
  | .block id c, Q, ρ, h => den ords Kp L c (fun e ρ h => match e with
    | .exit i => match Nat.beq i id with | true => Q .normal ρ h | false => Q (.exit i) ρ h
    | e => Q e ρ h) ρ h
  | .loop c, Q, ρ, h => L c Q ρ h
  | .ret, Q, ρ, h => Q .ret ρ h
  | .exit id, Q, ρ, h => Q (.exit id) ρ h
  | _, _, _, _ => False

/-- The loops of a piece of code, the outer ones ahead of what is in them. -/
def loopsOf : Code → List Code
  | .seq a b => loopsOf a ++ loopsOf b
  | .cond _ a b => loopsOf a ++ loopsOf b
  | .block _ c => loopsOf c
  | .loop c => c :: loopsOf c
  | _ => []
/-- What is said of the loops of a piece of code bears what is asked of a loop. -/
def LoopsOK (ords : Nat → List (Nat × List Nat)) (Kp : List PanicEntry → PH → Prop) (L : Loops) (c : Code) : Prop :=
  ∀ b ∈ loopsOf c, ∀ Q ρ h, L b Q ρ h → ∃ Q0 : Exit → Env → PH → Prop, (∀ e ρ h, Q0 e ρ h → Q e ρ h) ∧ LoopW (den P qf ords Kp L b) Q0 ρ h

def aloneB (ops : Array Oper) (ms : Array Nat) (listed : Array Bool) (i : Nat) : Bool :=
  (List.range ops.size).all fun k => k == i || listed.getD k true || (match ops[k]? with | some o => clsOf P qf o == .alloc || (ms.getD k 0).testBit i | none => true)
def readsB (ops : Array Oper) (ms : Array Nat) (listed : Array Bool) (i : Nat) (qs : List Nat) : Bool :=
  (List.range ops.size).all fun q => !listed.getD q false || (ms.getD i 0).testBit q || (match ops[q]? with | some o => clsOf P qf o != .read | none => true) || qs.contains q
/-- Of what lays a block and is not asked ahead: that it always can be. -/
def idleB (ops : Array Oper) (ms : Array Nat) (listed : Array Bool) (i : Nat) (qs : List Nat) : Bool :=
  (List.range ops.size).all fun k => k == i || listed.getD k true || (ms.getD k 0).testBit i || (match ops[k]? with
    | none => true
    | some ok => clsOf P qf ok != .alloc || ((!isB ok || qs.contains k) && (List.range ops.size).all fun l => l == i || l == k || listed.getD l true || (ms.getD l 0).testBit i || (match ops[l]? with
      | none => true
      | some ol => clsOf P qf ol != .alloc || (match ok.dst with | none => true | some d => !(ol.looksAt ops).contains d))))
def canonB (ops : Array Oper) (ms : Array Nat) : List (Nat × List Nat) → Array Bool → Bool
  | [], listed => (List.range ops.size).all fun k => listed.getD k true
  | (i, qs) :: rest, listed => (match ops[i]? with
    | none => false
    | some o => (Region.ready .any ops listed).contains i && Region.free .any ops listed i && (match clsOf P qf o with
      | .pure => true
      | .read => true
      | .alloc => aloneB P qf ops ms listed i && idleB P qf ops ms listed i qs
      | .loud => (aloneB P qf ops ms listed i && idleB P qf ops ms listed i qs) && readsB P qf ops ms listed i qs)) && canonB ops ms rest (listed.setIfInBounds i true)
def lookB (ops : Array Oper) (ms : Array Nat) : Bool :=
  (List.range ops.size).all fun q => match ops[q]? with
    | none => true
    | some oq => clsOf P qf oq != .read || (oq.dst.isSome && (List.range ops.size).all fun k => match ops[k]? with
      | none => true
      | some ok => match ok.dst with
        | none => true
        | some d => (!(oq.looksAt ops).contains d || (ms.getD q 0).testBit k) && (k == q || oq.dst != some d))
def totalB (ops : Array Oper) : Bool := ops.toList.all fun o => match o.op with | .alloc e => (zeroOf P e).isSome | _ => true
def regB (ops : Array Oper) (order : List (Nat × List Nat)) : Bool :=
  Region.noSelect ops && lookB P qf ops (masks ops) && totalB P ops && canonB P qf ops (masks ops) order (Array.replicate ops.size false) && decide (order.length = ops.size)
def codeOK (n : Nat) (ords : Nat → List (Nat × List Nat)) : Code → Bool
  | .region id ops draw => (ops.toList.all fun o => match o.dst with | some d => decide (d < n) | none => true) && (match draw with | true => regB P qf ops (ords id) | false => true)
  | .seq a b => codeOK n ords a && codeOK n ords b
  | .cond _ a b => codeOK n ords a && codeOK n ords b
  | .block _ c => codeOK n ords c
  | .loop c => codeOK n ords c
  | .skip => true
  | .ret => true
  | .exit _ => true
  | _ => false

def tupleOf : List Value → Value
  | [v] => v
  | l => .tuple l.toArray
def resL (rs : List ResultVar) (ρ : Env) (h : PH) (K : List Value → Prop) : Prop :=
  match rs with
  | [] => K []
  | .tmp t :: rs => resL rs ρ h (fun vs => K (ρ t :: vs))
  | .cell a t :: rs => match szOf P t with
    | some sz => vLoad sz (ρ a) h (fun v => resL rs ρ h (fun vs => K (v :: vs)))
    | none => False
def env0 (args : Array Value) : Env := fun t => args.toList.getD t undef
def denF (ords : Nat → List (Nat × List Nat)) (L : Loops) (rs : List ResultVar) (c : Code) (args : Array Value) (h : PH) (R : AEnd → PH → Prop) : Prop :=
  den P qf ords (fun c h => R (.pan c) h) L c (fun e ρ h => match e with
    | .normal => resL P rs ρ h (fun vs => R (.ret (tupleOf vs)) h)
    | .ret => resL P rs ρ h (fun vs => R (.ret (tupleOf vs)) h)
    | _ => False) (env0 args) h
end

section
variable {P : Program} {qf : FuncId → Bool} {n : Nat} {ords : Nat → List (Nat × List Nat)}

theorem OpY.opL {o : Oper} {ρ : Env} {h : PH} {v : Value} {K : Value → PH → Prop} {Kp : List PanicEntry → PH → Prop} (hy : OpY P o ρ h v) (hk : K v h) : OpL P o ρ h K Kp := by
  intro w hw
  left
  have := hy w hw
  generalize (execOp (evalE ρ) o).run P w = r at this
  cases r with
  | halt x w' => exact this.elim
  | ok nx w' =>
    cases nx <;> simp only at this ⊢
    case value u => obtain ⟨rfl, rfl⟩ := this; exact ⟨h, hw, Framed.refl _ _, hk⟩
    case enter f args =>
      refine ⟨this.1, this.2.mono fun e w'' he => ?_⟩
      cases e <;> simp only at he ⊢
      obtain ⟨rfl, a, b⟩ := he
      exact ⟨h, a, b, hk⟩

theorem OpA.opL {o : Oper} {ρ : Env} {h : PH} {obj : Obj} {mk : Nat → Value} {K : Value → PH → Prop} {Kp : List PanicEntry → PH → Prop} (ha : OpA P o ρ obj mk) (hk : ∀ b, h b = none → K (mk b) (ins h b obj)) : OpL P o ρ h K Kp := by
  intro w hw
  left
  rw [ha w]
  exact ⟨_, Holds.push hw rfl, Framed.push rfl rfl rfl rfl, hk _ (hw.none (Nat.le_refl _))⟩

theorem denOp_opL {o : Oper} {ρ : Env} {h : PH} {K : Value → PH → Prop} {Kp : List PanicEntry → PH → Prop} (hd : denOp P qf o ρ h K Kp) : OpL P o ρ h K Kp := by
  unfold denOp at hd
  cases hc : clsOf P qf o <;> rw [hc] at hd <;> simp only at hd
  · obtain ⟨v, hs, hk⟩ := denQ_pure hc hd; exact hs.opY.opL hk
  · obtain ⟨v, hs, hk⟩ := denQ_read hc hd; exact hs.opL hk
  · exact denL_sound hd
  · obtain ⟨obj, mk, ha, hk⟩ := denA_sound hc hd; exact ha.opL hk

def AQ (n : Nat) (G : Act → Prop) (h0 : PH) (w0 : World) (Q : Exit → Env → PH → Prop) (Kp : List PanicEntry → PH → Prop) : Exit → Act → World → Prop := fun e a w =>
  match e with
  | .outgrown => False
  | .panic c => G a ∧ ∃ h, Holds h w ∧ Framed h0 h w0 w ∧ Kp c h
  | e => n ≤ a.tmps.size ∧ G a ∧ ∃ h, Holds h w ∧ Framed h0 h w0 w ∧ Q e (envOf a) h

/-- One operation, in the model. -/
theorem wp_of_opL {G : Act → Prop} {o : Oper} {a : Act} {h h0 : PH} {w w0 : World} {K : Value → PH → Prop} {Q : Exit → Env → PH → Prop} {Kp : List PanicEntry → PH → Prop} {next : Act → World → Prop}
    (H : OpL P o (envOf a) h K Kp) (hd : G a) (hw : Holds h w) (hf : Framed h0 h w0 w)
    (hn : ∀ v h' w', Holds h' w' → Framed h h' w w' → K v h' → next (a.put o.dst v) w') : o.wp P a w next (AQ n G h0 w0 Q Kp) ∨ (o.asks P a w ∧ LetsOut (AQ n G h0 w0 Q Kp)) := by
  rcases H w hw with H | H
  · left
    unfold Oper.wp
    rw [eval_envOf]
    generalize (execOp (evalE (envOf a)) o).run P w = r at H
    cases r with
    | halt x w' =>
      cases x <;> simp only at H ⊢
      case panic v => obtain ⟨h', b, c, d⟩ := H; exact ⟨hd, h', b, hf.trans c, d⟩
      all_goals exact H.elim
    | ok nx w' =>
      cases nx <;> simp only at H ⊢
      case value v => obtain ⟨h', b, c, d⟩ := H; exact hn v h' w' b c d
      case skip => obtain ⟨h', b, c, d⟩ := H; exact hn _ h' w' b c d
      case enter f args =>
        obtain ⟨rfl, hc⟩ := H
        refine hc.mono fun e w'' he => ?_
        cases e <;> simp only at he ⊢
        · obtain ⟨h', b, c, d⟩ := he; exact hn _ h' w'' b c d
        · obtain ⟨h', b, c, d⟩ := he; exact ⟨hd, h', b, hf.trans c, d⟩
      all_goals exact H.elim
  · exact H.elim

theorem yieldedL_eq (ops : Array Oper) (ρ : Env) : yieldedL ops.toList ρ = yieldedE ops ρ := by
  funext j
  unfold yieldedL yieldedE boolOf
  simp only [Array.getElem?_toList]
  rfl

theorem wanted_none {o : Oper} {y : Nat → Option Bool} (hg : o.guard = none) : Region.wanted o y = true := by unfold Region.wanted; rw [hg]
theorem wanted_some {o : Oper} {y : Nat → Option Bool} {j : Nat} {w : Bool} (hg : o.guard = some (j, w)) : Region.wanted o y = (y j == some w) := by unfold Region.wanted; rw [hg]

theorem reYs_out {l : List Oper} {ρ : Env} {h : PH} {X : Prop} : ∀ (qs : List Nat), reYs P l ρ h qs X → X
  | [], hx => hx
  | q :: qs, hx => by
    simp only [reYs] at hx
    split at hx
    · split at hx
      · exact reYs_out qs hx
      · exact reYs_out qs hx.2
    · exact reYs_out qs hx
theorem preF_out {l : List Oper} {ρ : Env} {X : Prop} : ∀ (qs : List Nat), preF P l ρ qs X → X
  | [], hx => hx
  | q :: qs, hx => by
    simp only [preF] at hx
    split at hx
    · split at hx
      · exact preF_out qs hx.2
      · exact preF_out qs hx
    · exact preF_out qs hx

theorem wpOps_of_denC {G : Act → Prop} {ops : Array Oper} {Q : Exit → Env → PH → Prop} {Kp : List PanicEntry → PH → Prop} {h0 : PH} {w0 : World} (hdst : ∀ o ∈ ops.toList, ∀ d, o.dst = some d → d < n) (hG : ∀ o ∈ ops.toList, ∀ a v, G a → G (a.put o.dst v)) :
    ∀ (order : List (Nat × List Nat)) (a : Act) (h : PH) (w : World), n ≤ a.tmps.size → G a → Holds h w → Framed h0 h w0 w → denC P qf ops.toList (Q .normal) Kp order (envOf a) h →
      wpOps P ops (AQ n G h0 w0 Q Kp) (order.map (·.1)) a w
  | [], a, h, w, hs, hd, hw, hf, H => ⟨hs, hd, h, hw, hf, H⟩
  | (i, qs) :: rest, a, h, w, hs, hd, hw, hf, H => by
    simp only [denC, Array.getElem?_toList] at H
    simp only [List.map_cons, wpOps]
    cases ho : ops[i]? with
    | none => rw [ho] at H; exact H.elim
    | some o =>
      rw [ho] at H
      simp only at H ⊢
      have H := preF_out qs H
      have hmem : o ∈ ops.toList := by simpa using Array.mem_of_getElem? ho
      have hput : ∀ v, envOf (a.put o.dst v) = upd (envOf a) o.dst v := fun v => envOf_put v fun d hd => Nat.lt_of_lt_of_le (hdst o hmem d hd) hs
      have hsz : ∀ v, n ≤ (a.put o.dst v).tmps.size := fun v => by cases o.dst <;> simpa [Act.put] using hs
      have hdd : ∀ v, G (a.put o.dst v) := fun v => hG o hmem a v hd
      have go : denOp P qf o (envOf a) h (fun v h' => reYs P ops.toList (envOf a) h' qs (denC P qf ops.toList (Q .normal) Kp rest (upd (envOf a) o.dst v) h')) Kp →
          o.wp P a w (wpOps P ops (AQ n G h0 w0 Q Kp) (rest.map (·.1))) (AQ n G h0 w0 Q Kp) ∨ (o.asks P a w ∧ LetsOut (AQ n G h0 w0 Q Kp)) := fun hden =>
        wp_of_opL (denOp_opL hden) hd hw hf fun v h' w' b c d => wpOps_of_denC hdst hG rest _ h' w' (hsz v) (hdd v) b (hf.trans c) (by rw [hput]; exact reYs_out qs d)
      cases hg : o.guard with
      | none =>
        rw [hg] at H
        rw [wanted_none hg, if_pos rfl]
        exact go H
      | some jw =>
        obtain ⟨j, wt⟩ := jw
        rw [hg] at H
        rw [wanted_some hg, yielded_envOf, ← yieldedL_eq]
        obtain ⟨h1, h2⟩ := H
        by_cases hy : yieldedL ops.toList (envOf a) j = some wt
        · rw [hy]; simp only [beq_self_eq_true, if_true]; exact go (h1 hy)
        · have : (yieldedL ops.toList (envOf a) j == some wt) = false := by simpa using hy
          rw [this]
          simp only [Bool.false_eq_true, if_false]
          exact wpOps_of_denC hdst hG rest _ h w (hsz _) (hdd _) hw hf (by rw [hput]; exact reYs_out qs (h2 hy))

theorem seqGo_map : ∀ (m i : Nat), (seqGo m i).map (·.1) = List.range' i m
  | 0, _ => rfl
  | m + 1, i => by simp [seqGo, List.range'_succ, seqGo_map m (i + 1)]

theorem wpAny_of_anyA {G : Act → Prop} {ops : Array Oper} {Q : Exit → Env → PH → Prop} {Kp : List PanicEntry → PH → Prop} {h0 : PH} {w0 : World} (hdst : ∀ o ∈ ops.toList, ∀ d, o.dst = some d → d < n) (hG : ∀ o ∈ ops.toList, ∀ a v, G a → G (a.put o.dst v)) :
    ∀ (fuel : Nat) (listed : Array Bool) (a : Act) (h : PH) (w : World), n ≤ a.tmps.size → G a → Holds h w → Framed h0 h w0 w → anyA P ops (clsOf P qf) (Q .normal) Kp fuel listed (envOf a) h →
      wpAny P .any ops (AQ n G h0 w0 Q Kp) fuel listed a w
  | 0, listed, a, h, w, hs, hd, hw, hf, H => ⟨H.1, hs, hd, h, hw, hf, H.2⟩
  | fuel + 1, listed, a, h, w, hs, hd, hw, hf, H => by
    refine ⟨fun h0 => ⟨hs, hd, h, hw, hf, H.1 h0⟩, fun i hi => ?_⟩
    have H := H.2 i hi
    unfold stepA at H
    unfold wpOp
    cases ho : ops[i]? with
    | none => rw [ho] at H; exact wpAny_of_anyA hdst hG fuel _ a h w hs hd hw hf H
    | some o =>
      rw [ho] at H
      simp only at H ⊢
      have hmem : o ∈ ops.toList := by simpa using Array.mem_of_getElem? ho
      have hput : ∀ v, envOf (a.put o.dst v) = upd (envOf a) o.dst v := fun v => envOf_put v fun d hd => Nat.lt_of_lt_of_le (hdst o hmem d hd) hs
      have hsz : ∀ v, n ≤ (a.put o.dst v).tmps.size := fun v => by cases o.dst <;> simpa [Act.put] using hs
      have hdd : ∀ v, G (a.put o.dst v) := fun v => hG o hmem a v hd
      rw [yielded_envOf]
      by_cases hwt : Region.wanted o (yieldedE ops (envOf a)) = true
      · rw [if_pos hwt] at H
        rw [if_pos hwt]
        have hL : OpL P o (envOf a) h (fun v h' => anyA P ops (clsOf P qf) (Q .normal) Kp fuel (listed.setIfInBounds i true) (upd (envOf a) o.dst v) h') Kp := by
          cases hc : clsOf P qf o <;> rw [hc] at H <;> simp only at H
          · obtain ⟨v, b, c⟩ := H; exact (b.sub (fun x p hx => by cases hx)).opL c
          · obtain ⟨v, b, c⟩ := H; exact b.opL c
          · exact H.mono (fun v h' hh => hh.2) (fun _ _ hh => hh)
          · obtain ⟨obj, mk, b, c⟩ := H; exact b.opL c
        exact wp_of_opL hL hd hw hf fun v h' w' b c d => wpAny_of_anyA hdst hG fuel _ _ h' w' (hsz v) (hdd v) b (hf.trans c) (by rw [hput]; exact d)
      · rw [if_neg hwt] at H
        rw [if_neg hwt]
        exact wpAny_of_anyA hdst hG fuel _ _ h w (hsz _) (hdd _) hw hf (by rw [hput]; exact H)

theorem regOK_of {ops : Array Oper} (h1 : Region.noSelect ops = true) (h2 : lookB P qf ops (masks ops) = true) (h3 : totalB P ops = true) : RegOK P ops (clsOf P qf) := by
  have look : ∀ (q k : Nat) (oq ok : Oper) (d : Tmp), ops[q]? = some oq → ops[k]? = some ok → clsOf P qf oq = .read → ok.dst = some d →
      (d ∈ oq.looksAt ops → ((masks ops).getD q 0).testBit k = true) ∧ (k ≠ q → oq.dst ≠ some d) ∧ oq.dst.isSome = true := by
    intro q k oq ok d hq hk hc hd
    have a1 := List.all_eq_true.1 h2 q (List.mem_range.2 (Array.getElem?_eq_some_iff.1 hq).1)
    simp only [hq, hc, bne_self_eq_false, Bool.false_or, Bool.and_eq_true] at a1
    have a2 := List.all_eq_true.1 a1.2 k (List.mem_range.2 (Array.getElem?_eq_some_iff.1 hk).1)
    simp only [hk, hd, Bool.and_eq_true, Bool.or_eq_true, Bool.not_eq_true', bne_iff_ne, beq_iff_eq] at a2
    refine ⟨fun hin => ?_, fun hne => a2.2.resolve_left hne, a1.1⟩
    rcases a2.1 with h | h
    · simp [hin] at h
    · exact h
  refine ⟨Region.noSelect_spec h1, fun q k oq ok d hq hk hc hd hin => (look q k oq ok d hq hk hc hd).1 hin, fun q k oq ok d hq hk hc hne hd hkd => ?_, fun q oq hq hc => ?_⟩
  · exact (look q k oq ok d hq hk hc hkd).2.1 hne hd
  · have a1 := List.all_eq_true.1 h2 q (List.mem_range.2 (Array.getElem?_eq_some_iff.1 hq).1)
    simp only [hq, hc, bne_self_eq_false, Bool.false_or, Bool.and_eq_true] at a1
    exact Option.isSome_iff_exists.1 a1.1

theorem cnt_le_set {ops : Array Oper} {listed : Array Bool} {i : Nat} : cnt ops listed ≤ cnt ops (listed.setIfInBounds i true) + 1 := by
  unfold cnt
  have key : ∀ (l : List Nat), l.Nodup → (l.filter fun k => !listed.getD k true).length ≤ (l.filter fun k => !(listed.setIfInBounds i true).getD k true).length + (if i ∈ l then 1 else 0) := by
    intro l
    induction l with
    | nil => intro _; simp
    | cons k l ih =>
      intro hnd
      have hnd' := List.nodup_cons.1 hnd
      have ih := ih hnd'.2
      by_cases hk : i = k
      · subst hk
        rw [if_neg hnd'.1] at ih
        simp only [List.filter_cons, List.mem_cons, true_or, if_true]
        split <;> split <;> (try simp only [List.length_cons]) <;> omega
      · rw [List.filter_cons, List.filter_cons, getD_set_ne true hk]
        have hm : (if i ∈ k :: l then 1 else 0) = (if i ∈ l then 1 else 0) := by simp [hk]
        rw [hm]
        split <;> (try simp only [List.length_cons]) <;> omega
  have := key (List.range ops.size) List.nodup_range
  split at this <;> omega

theorem reYs_mem {l : List Oper} {ρ : Env} {h : PH} {X : Prop} {q : Nat} {o : Oper} (hq : l[q]? = some o) (hc : clsOf P qf o = .read) : ∀ (qs : List Nat), reYs P l ρ h qs X → q ∈ qs →
    (Region.wanted o (yieldedL l ρ) = true) → ∃ v, OpY P o ρ h v ∧ ∀ d, o.dst = some d → ρ d = v
  | [], _, hm, _ => by cases hm
  | p :: qs, hr, hm, hw => by
    by_cases hp : q = p
    · subst hp
      simp only [reYs] at hr
      rw [hq] at hr
      simp only at hr
      have hnb : isB o = false := by
        obtain ⟨dst, op, type, pos, after, guard⟩ := o
        cases op <;> first | rfl | (simp only [clsOf] at hc; split at hc <;> cases hc)
      rw [hnb] at hr
      have h1 := hr.1
      have fin : denQ P o ρ h (fun v => match o.dst with | some d => ρ d = v | none => True) → ∃ v, OpY P o ρ h v ∧ ∀ d, o.dst = some d → ρ d = v := fun hd => by
        obtain ⟨v, a, b⟩ := denQ_read hc hd
        exact ⟨v, a, fun d hd => by rw [hd] at b; exact b⟩
      cases hg : o.guard with
      | none => rw [hg] at h1; exact fin h1
      | some jw =>
        obtain ⟨j, w⟩ := jw
        rw [hg] at h1
        rw [wanted_some hg] at hw
        exact fin (h1 (by simpa using hw))
    · refine reYs_mem (X := X) hq hc qs ?_ (by simpa [hp] using hm) hw
      simp only [reYs] at hr
      split at hr
      · split at hr
        · exact hr
        · exact hr.2
      · exact hr
theorem preF_mem {l : List Oper} {ρ : Env} {X : Prop} {q : Nat} {o : Oper} (hq : l[q]? = some o) (hb : isB o = true) : ∀ (qs : List Nat), preF P l ρ qs X → q ∈ qs →
    (Region.wanted o (yieldedL l ρ) = true) → ∃ obj mk, OpA P o ρ obj mk
  | [], _, hm, _ => by cases hm
  | p :: qs, hr, hm, hw => by
    by_cases hp : q = p
    · subst hp
      simp only [preF] at hr
      rw [hq] at hr
      simp only at hr
      rw [hb] at hr
      have h1 := hr.1
      have fin : denA P o ρ (fun _ => none) (fun _ _ => True) → ∃ obj mk, OpA P o ρ obj mk := fun hd => by
        have hcl : clsOf P (fun _ => true) o = .alloc := by
          obtain ⟨dst, op, type, pos, after, guard⟩ := o
          cases op <;> first | rfl | cases hb
        obtain ⟨obj, mk, ha, _⟩ := denA_sound hcl hd
        exact ⟨obj, mk, ha⟩
      cases hg : o.guard with
      | none => rw [hg] at h1; exact fin h1
      | some jw =>
        obtain ⟨j, w⟩ := jw
        rw [hg] at h1
        rw [wanted_some hg] at hw
        exact fin (h1 (by simpa using hw))
    · refine preF_mem (X := X) hq hb qs ?_ (by simpa [hp] using hm) hw
      simp only [preF] at hr
      split at hr
      · split at hr
        · exact hr.2
        · exact hr
      · exact hr

theorem canon_cnt {ops : Array Oper} {ms : Array Nat} : ∀ (order : List (Nat × List Nat)) (listed : Array Bool), canonB P qf ops ms order listed = true → cnt ops listed ≤ order.length
  | [], listed, hB => by
    unfold cnt
    simp only [List.length_nil, Nat.le_zero_eq, List.length_eq_zero_iff, List.filter_eq_nil_iff]
    intro i hi
    rw [List.all_eq_true.1 hB i hi]
    simp
  | (i, qs) :: rest, listed, hB => by
    simp only [canonB, Bool.and_eq_true] at hB
    have := canon_cnt rest _ hB.2
    exact Nat.le_trans (cnt_le_set (i := i)) (by simp only [List.length_cons]; omega)

theorem canon_any {ops : Array Oper} {Q : Env → PH → Prop} {Kp : List PanicEntry → PH → Prop} (R : RegOK P ops (clsOf P qf)) (htB : totalB P ops = true) :
    ∀ (order : List (Nat × List Nat)) (listed : Array Bool) (ρ : Env) (h : PH), canonB P qf ops (masks ops) order listed = true → Closed ops listed → denC P qf ops.toList Q Kp order ρ h →
      anyA P ops (clsOf P qf) Q Kp order.length listed ρ h
  | [], listed, ρ, h, hB, hc, H => by
    have hall : ∀ k, k < ops.size → listed.getD k true = true := fun k hk => List.all_eq_true.1 hB k (List.mem_range.2 hk)
    refine ⟨?_, H⟩
    cases hr : Region.ready .any ops listed with
    | nil => rfl
    | cons i l =>
      have hi : i ∈ Region.ready .any ops listed := by rw [hr]; simp
      obtain ⟨h1, o, ho, _⟩ := mem_ready.1 hi
      rw [hall i (Array.getElem?_eq_some_iff.1 ho).1] at h1
      cases h1
  | (i, qs) :: rest, listed, ρ, h, hB, hc, H => by
    have hcn := canon_cnt _ _ hB
    simp only [List.length_cons] at hcn
    simp only [canonB, Bool.and_eq_true] at hB
    obtain ⟨hB1, hB2⟩ := hB
    simp only [denC, Array.getElem?_toList] at H
    cases ho : ops[i]? with
    | none => rw [ho] at H; exact H.elim
    | some o =>
      rw [ho] at H hB1
      simp only [Bool.and_eq_true] at H hB1
      obtain ⟨⟨hr, hfree⟩, hcl⟩ := hB1
      have hr' : i ∈ Region.ready .any ops listed := by simpa using hr
      have hap : Apt ops listed i o := Region.free_spec ho hfree
      have ih : ∀ ρ h, denC P qf ops.toList Q Kp rest ρ h → anyA P ops (clsOf P qf) Q Kp rest.length (listed.setIfInBounds i true) ρ h := fun ρ h => canon_any R htB rest (listed.setIfInBounds i true) ρ h hB2 (hc.set hr')
      have alone : aloneB P qf ops (masks ops) listed i = true → Alone ops (clsOf P qf) listed i := fun hal k ok hk hki hun => by
        have := List.all_eq_true.1 hal k (List.mem_range.2 (Array.getElem?_eq_some_iff.1 hk).1)
        simp only [hk, hun, Bool.or_false, Bool.or_eq_true, beq_iff_eq, hki, false_or] at this
        exact this
      have idle : idleB P qf ops (masks ops) listed i qs = true → (∀ k ok, ops[k]? = some ok → isB ok = true → k ∈ qs → Region.wanted ok (yieldedE ops ρ) = true → ∃ obj mk, OpA P ok ρ obj mk) → Idle P ops (clsOf P qf) listed i ρ := fun hid hpre => by
        have one : ∀ k ok, ops[k]? = some ok → k ≠ i → listed.getD k true = false → clsOf P qf ok = .alloc → ((masks ops).getD k 0).testBit i = false → (isB ok = false ∨ k ∈ qs) ∧
            ∀ l ol, ops[l]? = some ol → l ≠ i → k ≠ l → listed.getD l true = false → clsOf P qf ol = .alloc → ((masks ops).getD l 0).testBit i = false → ∀ d, ok.dst = some d → d ∉ ol.looksAt ops := by
          intro k ok hk hki hun hc hm
          have a1 := List.all_eq_true.1 hid k (List.mem_range.2 (Array.getElem?_eq_some_iff.1 hk).1)
          simp only [hk, hun, hm, hc, bne_self_eq_false, Bool.or_false, Bool.false_or, Bool.or_eq_true, beq_iff_eq, hki, false_or, Bool.and_eq_true] at a1
          refine ⟨?_, fun l ol hl hli hkl hunl hcl' hml d hd hin => ?_⟩
          · rcases a1.1 with h | h
            · exact .inl (by simpa using h)
            · exact .inr (by simpa using h)
          · have a2 := List.all_eq_true.1 a1.2 l (List.mem_range.2 (Array.getElem?_eq_some_iff.1 hl).1)
            simp only [hl, hunl, hml, hcl', hd, bne_self_eq_false, Bool.or_false, Bool.false_or, Bool.or_eq_true, beq_iff_eq, hli, Ne.symm hkl, false_or] at a2
            simp [hin] at a2
        refine ⟨fun k ok hk hki hun hc hm hw => ?_, fun k l ok ol d hk hl hki hli hkl hunk hunl hck hcl' hmk hml hd => (one k ok hk hki hunk hck hmk).2 l ol hl hli hkl hunl hcl' hml d hd⟩
        rcases (one k ok hk hki hun hc hm).1 with hb | hb
        · have htot := List.all_eq_true.1 htB ok (by simpa using Array.mem_of_getElem? hk)
          exact alloc_total hc (fun e he => by rw [he] at htot; exact htot) (fun t n ps he => by unfold isB at hb; rw [he] at hb; cases hb) ρ
        · cases hbb : isB ok with
          | true => exact hpre k ok hk hbb hb hw
          | false =>
            have htot := List.all_eq_true.1 htB ok (by simpa using Array.mem_of_getElem? hk)
            exact alloc_total hc (fun e he => by rw [he] at htot; exact htot) (fun t n ps he => by unfold isB at hbb; rw [he] at hbb; cases hbb) ρ
      have quiet : ∀ v, YE P ops (clsOf P qf) o ρ h v → denC P qf ops.toList Q Kp rest (upd ρ o.dst v) h → anyA P ops (clsOf P qf) Q Kp (rest.length + 1) listed ρ h := fun v hy hh =>
        first_quiet R ho rest.length listed ρ h v hc hap hr' hy (ih _ _ hh)
      have hpre : ∀ k ok, ops[k]? = some ok → isB ok = true → k ∈ qs → Region.wanted ok (yieldedE ops ρ) = true → ∃ obj mk, OpA P ok ρ obj mk := fun k ok hk hb hm hw => preF_mem (by simpa using hk) hb qs H hm (by rw [yieldedL_eq]; exact hw)
      have main : Region.wanted o (yieldedE ops ρ) = true → denOp P qf o ρ h (fun v h' => reYs P ops.toList ρ h' qs (denC P qf ops.toList Q Kp rest (upd ρ o.dst v) h')) Kp →
          anyA P ops (clsOf P qf) Q Kp (rest.length + 1) listed ρ h := fun hw hden => by
        unfold denOp at hden
        cases hco : clsOf P qf o <;> rw [hco] at hden hcl <;> simp only at hden hcl
        · obtain ⟨v, hs, hk⟩ := denQ_pure hco hden
          exact quiet v (.inl ⟨hw, .inl ⟨hco, hs.opY⟩⟩) (reYs_out qs hk)
        · obtain ⟨v, hs, hk⟩ := denQ_read hco hden
          exact quiet v (.inl ⟨hw, .inr ⟨hco, hs⟩⟩) (reYs_out qs hk)
        · rw [Bool.and_eq_true, Bool.and_eq_true] at hcl
          refine first_loud R ho hco rest.length listed ρ h hc hap (alone hcl.1.1) (idle hcl.1.2 hpre) hr' hcn hw ((denL_sound hden).mono (fun v h' hk => ⟨fun q oq hq hl hrd hm hwq => ?_, ih _ _ (reYs_out qs hk)⟩) (fun _ _ hh => hh))
          have hin := List.all_eq_true.1 hcl.2 q (List.mem_range.2 (Array.getElem?_eq_some_iff.1 hq).1)
          simp only [hl, hm, hq, hrd, Bool.not_true, Bool.false_or, bne_self_eq_false] at hin
          exact reYs_mem (by simpa using hq) hrd qs hk (by simpa using hin) (by rw [yieldedL_eq]; exact hwq)
        · obtain ⟨obj, mk, ha, hk⟩ := denA_sound hco hden
          rw [Bool.and_eq_true] at hcl
          exact first_alloc R ho hco rest.length listed ρ h obj mk hc hap (alone hcl.1) (idle hcl.2 hpre) hr' hcn hw ha fun b hb => ih _ _ (reYs_out qs (hk b hb))
      have H := preF_out qs H
      cases hg : o.guard with
      | none =>
        rw [hg] at H
        exact main (wanted_none hg) H
      | some jw =>
        obtain ⟨j, wt⟩ := jw
        rw [hg] at H
        obtain ⟨h1, h2⟩ := H
        by_cases hy : yieldedL ops.toList ρ j = some wt
        · exact main (by rw [wanted_some hg, ← yieldedL_eq, hy]; simp) (h1 hy)
        · exact quiet undef (.inr ⟨by rw [wanted_some hg, ← yieldedL_eq]; simpa using hy, rfl⟩) (reYs_out qs (h2 hy))

theorem AQ_mono {G : Act → Prop} {h0 : PH} {w0 : World} {Q Q' : Exit → Env → PH → Prop} {Kp : List PanicEntry → PH → Prop} (hq : ∀ e ρ h, Q e ρ h → Q' e ρ h) : ∀ e a w, AQ n G h0 w0 Q Kp e a w → AQ n G h0 w0 Q' Kp e a w := fun e a w H => by
  cases e <;> simp only [AQ] at H ⊢ <;> first | exact H | (obtain ⟨a, b, h, c, d, e⟩ := H; exact ⟨a, b, h, c, d, hq _ _ _ e⟩)

theorem wp_loop_n {c : Code} {Q : Exit → Act → World → Prop} (I : Nat → Act → World → Prop) (round : ∀ m a w, I m a w → c.wp P (Exit.then (fun a' w' => ∃ k, k < m ∧ I k a' w') Q) a w) :
    ∀ m a w, I m a w → (Code.loop c).wp P Q a w := by
  intro m a w h₀ b k cs
  have key : ∀ n a w, I n a w → ∃ e a' w', Q e a' w' ∧ Arrives P (lone (b.at a (.code c :: .inLoop c :: k)) cs w) b k cs e a' w' := by
    intro n
    induction n using Nat.strongRecOn with
    | _ n ih =>
      intro a w hI
      obtain ⟨e, a₁, w₁, hq, harr⟩ := round n a w hI b (.inLoop c :: k) cs
      cases e with
      | normal =>
        obtain ⟨m, hlt, hI₁⟩ := hq
        obtain ⟨e₂, a₂, w₂, hq₂, harr₂⟩ := ih m hlt a₁ w₁ hI₁
        exact ⟨e₂, a₂, w₂, hq₂, .of_steps (Steps.trans harr (.one step_inLoop)) harr₂⟩
      | exit id => exact ⟨_, a₁, w₁, hq, .pass (x := .inLoop c) rfl (fun _ _ => .inl (by simp)) harr⟩
      | goto l => exact ⟨_, a₁, w₁, hq, .pass (x := .inLoop c) rfl (fun _ _ => .inl (by simp)) harr⟩
      | ret => exact ⟨_, a₁, w₁, hq, .pass (x := .inLoop c) rfl (fun _ _ => .inl (by simp)) harr⟩
      | panic ch => exact ⟨_, a₁, w₁, hq, .pass (x := .inLoop c) rfl (fun _ _ => .inl (by simp)) harr⟩
      | outgrown => exact ⟨_, a₁, w₁, hq, .pass (x := .inLoop c) rfl (fun _ _ => .inl (by simp)) harr⟩
  obtain ⟨e, a', w', hq, harr⟩ := key m a w h₀
  exact ⟨e, a', w', hq, .of_steps (.one step_loop) harr⟩

/-- What G says of an activation every operation of the code keeps. -/
def gOK (G : Act → Prop) : Code → Prop
  | .region _ ops _ => ∀ o ∈ ops.toList, ∀ a v, G a → G (a.put o.dst v)
  | .seq x y => gOK G x ∧ gOK G y
  | .cond _ x y => gOK G x ∧ gOK G y
  | .block _ c => gOK G c
  | .loop c => gOK G c
  | _ => True

theorem den_sound (hm : P.follows .mixedOrders = true) {G : Act → Prop} {Kp : List PanicEntry → PH → Prop} {L : Loops} {h0 : PH} {w0 : World} : ∀ (c : Code), LoopsOK P qf ords Kp L c → codeOK P qf n ords c = true → gOK G c → ∀ (Q : Exit → Env → PH → Prop) (a : Act) (h : PH) (w : World),
    n ≤ a.tmps.size → G a → Holds h w → Framed h0 h w0 w → den P qf ords Kp L c Q (envOf a) h → c.wp P (AQ n G h0 w0 Q Kp) a w
  | .skip, _, _, _, Q, a, h, w, hs, hd, hw, hf, H => wp_skip ⟨hs, hd, h, hw, hf, H⟩
  | .ret, _, _, _, Q, a, h, w, hs, hd, hw, hf, H => wp_ret ⟨hs, hd, h, hw, hf, H⟩
  | .exit id, _, _, _, Q, a, h, w, hs, hd, hw, hf, H => wp_exit ⟨hs, hd, h, hw, hf, H⟩
  | .seq x y, hl, hc, hg, Q, a, h, w, hs, hd, hw, hf, H => by
    simp only [codeOK, Bool.and_eq_true] at hc
    refine wp_seq (wp_mono (den_sound hm x (fun b hb => hl b (List.mem_append_left _ hb)) hc.1 hg.1 _ a h w hs hd hw hf H) fun e a' w' hq => ?_)
    cases e <;> simp only [AQ, Exit.then] at hq ⊢ <;> first | exact hq | skip
    obtain ⟨b1, b2, h', b3, b4, b5⟩ := hq
    exact den_sound hm y (fun b hb => hl b (List.mem_append_right _ hb)) hc.2 hg.2 Q a' h' w' b1 b2 b3 b4 b5
  | .cond c x y, hl, hc, hg, Q, a, h, w, hs, hd, hw, hf, H => by
    simp only [codeOK, Bool.and_eq_true] at hc
    obtain ⟨t, ht, h1, h2⟩ := H
    refine wp_cond_split (t := t) (by rw [eval_envOf]; exact ht) (fun e => den_sound hm x (fun b hb => hl b (List.mem_append_left _ hb)) hc.1 hg.1 Q a h w hs hd hw hf (h1 e)) (fun e => den_sound hm y (fun b hb => hl b (List.mem_append_right _ hb)) hc.2 hg.2 Q a h w hs hd hw hf (h2 e))
  | .block id c, hl, hc, hg, Q, a, h, w, hs, hd, hw, hf, H => by
    simp only [codeOK] at hc
    refine wp_block (wp_mono (den_sound hm c hl hc hg _ a h w hs hd hw hf H) fun e a' w' hq => ?_)
    cases e <;> simp only [AQ, Exit.inBlock] at hq ⊢ <;> first | exact hq | skip
    rename_i i
    obtain ⟨b1, b2, h', b3, b4, b5⟩ := hq
    by_cases hi : i = id
    · subst hi
      have : Nat.beq i i = true := by simp
      rw [this] at b5
      rw [if_pos rfl]
      exact ⟨b1, b2, h', b3, b4, b5⟩
    · rw [nbeq hi] at b5
      rw [if_neg hi]
      exact ⟨b1, b2, h', b3, b4, b5⟩
  | .loop c, hl, hc, hg, Q, a, h, w, hs, hd, hw, hf, H => by
    simp only [codeOK] at hc
    obtain ⟨Q0, hQ0, I, m, hI, hr⟩ := hl c (by simp [loopsOf]) Q _ h H
    refine wp_mono ?_ (AQ_mono hQ0)
    refine wp_loop_n (fun m a w => n ≤ a.tmps.size ∧ G a ∧ ∃ h, Holds h w ∧ Framed h0 h w0 w ∧ I m (envOf a) h) (fun m a w hh => ?_) m a w ⟨hs, hd, h, hw, hf, hI⟩
    obtain ⟨b1, b2, h', b3, b4, b5⟩ := hh
    refine wp_mono (den_sound hm c (fun b hb => hl b (by simp [loopsOf, hb])) hc hg _ a h' w b1 b2 b3 b4 (hr m _ _ b5)) fun e a' w' hq => ?_
    cases e <;> simp only [AQ, Exit.then] at hq ⊢ <;> first | exact hq | skip
    obtain ⟨c1, c2, h'', c3, c4, k, c5, c6⟩ := hq
    exact ⟨k, c5, c1, c2, h'', c3, c4, c6⟩
  | .region id ops false, hl, hc, hg, Q, a, h, w, hs, hd, hw, hf, H => by
    simp only [codeOK, Bool.and_eq_true] at hc
    have hdst : ∀ o ∈ ops.toList, ∀ d, o.dst = some d → d < n := fun o ho d hd => by
      have := List.all_eq_true.1 hc.1 o ho
      rw [hd] at this
      simpa using this
    have := wpOps_of_denC (w0 := w0) hdst hg _ a h w hs hd hw hf H
    rw [seqGo_map, ← List.range_eq_range'] at this
    exact wp_region (by simpa using this)
  | .region id ops true, hl, hc, hg, Q, a, h, w, hs, hd, hw, hf, H => by
    simp only [codeOK, regB, Bool.and_eq_true] at hc
    obtain ⟨hc1, ⟨⟨⟨r1, r2⟩, r3⟩, r4⟩, r5⟩ := hc
    have hdst : ∀ o ∈ ops.toList, ∀ d, o.dst = some d → d < n := fun o ho d hd => by
      have := List.all_eq_true.1 hc1 o ho
      rw [hd] at this
      simpa using this
    have R := regOK_of r1 r2 r3
    have hw' : Holds h { w with drawn := w.drawn + 1 } := hw
    have hf' : Framed h0 h w0 { w with drawn := w.drawn + 1 } := ⟨hf.os, hf.tape, hf.output, hf.size, hf.keep⟩
    have hcl : Closed ops (Array.replicate ops.size false) := ⟨by simp, fun j oj _ hl => by
      rcases Nat.lt_or_ge j ops.size with h | h
      · simp [h] at hl
      · simp [h] at hl⟩
    have hany := canon_any R r3 (ords id) _ (envOf a) h r4 hcl H
    refine wp_region_any hm ?_
    have := wpAny_of_anyA (w0 := w0) hdst hg (ords id).length _ a h _ hs hd hw' hf' hany
    rw [of_decide_eq_true r5] at this
    exact this
  | .scope _, _, hc, _, _, _, _, _, _, _, _, _, _ => by simp [codeOK] at hc
  | .label _, _, hc, _, _, _, _, _, _, _, _, _, _ => by simp [codeOK] at hc
  | .goto _, _, hc, _, _, _, _, _, _, _, _, _, _ => by simp [codeOK] at hc
  | .rangeFunc .., _, hc, _, _, _, _, _, _, _, _, _, _ => by simp [codeOK] at hc
  | .refuse _, _, hc, _, _, _, _, _, _, _, _, _, _ => by simp [codeOK] at hc

theorem resL_run {a : Act} {h : PH} {w : World} (hw : Holds h w) (g : ResultVar → Sem Value) (g1 : ∀ t, g (.tmp t) = pure (a.tmps.getD t undef)) (g2 : ∀ x t, g (.cell x t) = (do loadVar t (← asAddr (a.tmps.getD x undef)))) :
    ∀ (rs : List ResultVar) (K : List Value → Prop), resL P rs (envOf a) h K → ∃ vs, (rs.mapM g).run P w = .ok vs w ∧ K vs
  | [], K, hk => ⟨[], by simp, hk⟩
  | .tmp t :: rs, K, hk => by
    obtain ⟨vs, h1, h2⟩ := resL_run hw g g1 g2 rs _ hk
    refine ⟨envOf a t :: vs, ?_, h2⟩
    rw [List.mapM_cons, g1]
    simp only [Sem.run_bind, Sem.run_pure, Result.andThen, h1]
    rfl
  | .cell x t :: rs, K, hk => by
    simp only [resL] at hk
    cases hs : szOf P t with
    | none => rw [hs] at hk; exact hk.elim
    | some sz =>
      rw [hs] at hk
      obtain ⟨b, off, c, e, fr, hx, hb, hk⟩ := hk
      obtain ⟨v, hv, hk⟩ := cellsAt_fun hk
      obtain ⟨v', l1, l2⟩ := run_loadVar hs (hw b _ hb) (hv (fun u => u = v) rfl)
      subst l2
      obtain ⟨vs, h1, h2⟩ := resL_run hw g g1 g2 rs _ hk
      refine ⟨v' :: vs, ?_, h2⟩
      have hx' : a.tmps.getD x undef = .pointer (some ⟨b, off, none⟩) := hx
      have hg : (g (.cell x t)).run P w = .ok v' w := by
        rw [g2, hx', Sem.run_bind]
        simp only [asAddr, Sem.run_pure, Result.andThen]
        exact l1
      rw [List.mapM_cons]
      simp only [Sem.run_bind, Sem.run_pure, Result.andThen, h1, hg]

theorem results_run {fn : Func} {a : Act} {h : PH} {w : World} (hw : Holds h w) {K : Value → Prop} (hk : resL P fn.results.toList (envOf a) h fun vs => K (tupleOf vs)) : ∃ v, (results fn a.tmps).run P w = .ok v w ∧ K v := by
  obtain ⟨l, hl⟩ : ∃ l : List ResultVar, fn.results = l.toArray := ⟨fn.results.toList, by simp⟩
  rw [hl] at hk
  unfold results
  rw [hl, List.mapM_toArray]
  simp only [map_eq_pure_bind, Sem.run_bind, Sem.run_pure, Result.andThen]
  generalize hg : (fun x : ResultVar => (match x with | .tmp t => pure (a.tmps.getD t undef) | .cell x t => do loadVar t (← asAddr (a.tmps.getD x undef)) : Sem Value)) = g
  have g1 : ∀ t, g (.tmp t) = pure (a.tmps.getD t undef) := fun t => by subst hg; rfl
  have g2 : ∀ x t, g (.cell x t) = (do loadVar t (← asAddr (a.tmps.getD x undef))) := fun x t => by subst hg; rfl
  obtain ⟨vs, h1, h2⟩ := resL_run hw g g1 g2 l _ hk
  refine ⟨_, ?_, h2⟩
  rw [h1]
  simp only [Sem.run_pure]
  congr 1
  match vs with
  | [] => rfl
  | [v] => rfl
  | v :: u :: r => simp [tupleOf]

theorem gOK_defers : ∀ c : Code, gOK (fun a => a.defers = []) c
  | .region _ ops _ => fun o _ a v hd => by cases o.dst <;> exact hd
  | .seq x y => ⟨gOK_defers x, gOK_defers y⟩
  | .cond _ x y => ⟨gOK_defers x, gOK_defers y⟩
  | .block _ c => gOK_defers c
  | .loop c => gOK_defers c
  | .skip | .ret | .exit _ | .scope _ | .label _ | .goto _ | .rangeFunc .. | .refuse _ => trivial

theorem ACalls_of_den (hm : P.follows .mixedOrders = true) {L : Loops} {f : FuncId} {fn : Func} {c : Code} {args : Array Value} {h : PH} {R : AEnd → PH → Prop} (hf : P.funcs[f]? = some fn) (hb : fn.body = some c)
    (hn : (fn.name == "runtime.NumGoroutine") = false) (hok : codeOK P qf fn.ntmps ords c = true) (hl : LoopsOK P qf ords (fun c h => R (.pan c) h) L c) (H : denF P qf ords L fn.results.toList c args h R) : ACalls P f args h R := by
  refine ⟨⟨fn, hf, by simp [hb], hn⟩, fun w hw => calls_of_wp hf hb ?_⟩
  have henv : envOf { tmps := args ++ Array.replicate (fn.ntmps - args.size) undef, defers := [] } = env0 args := by
    funext t
    unfold envOf env0
    rw [Array.getD_eq_getD_getElem?, List.getD_eq_getElem?_getD]
    rcases Nat.lt_or_ge t args.size with ht | ht
    · rw [Array.getElem?_append_left ht]; simp
    · rw [Array.getElem?_append_right ht, List.getElem?_eq_none (by simpa using ht)]
      rcases Nat.lt_or_ge (t - args.size) (fn.ntmps - args.size) with h' | h'
      · simp [h']
      · rw [Array.getElem?_eq_none (by simpa using h')]
  refine wp_mono (den_sound (w0 := w) (G := fun a => a.defers = []) hm c hl hok (gOK_defers c) _ _ h w (by simp; omega) rfl hw (Framed.refl h w) (by rw [henv]; exact H)) fun e a w' hq => ?_
  cases e <;> simp only [AQ, bodyPost] at hq ⊢
  · obtain ⟨b1, b2, h', b3, b4, b5⟩ := hq
    obtain ⟨v, r1, r2⟩ := results_run b3 (K := fun v => R (.ret v) h') b5
    exact ⟨b2, v, r1, h', b3, b4, r2⟩
  · obtain ⟨_, _, _, _, _, hh⟩ := hq; exact hh
  · obtain ⟨_, _, _, _, _, hh⟩ := hq; exact hh
  · obtain ⟨b1, b2, h', b3, b4, b5⟩ := hq
    obtain ⟨v, r1, r2⟩ := results_run b3 (K := fun v => R (.ret v) h') b5
    exact ⟨b2, v, r1, h', b3, b4, r2⟩
  · exact hq
end
end Go.Pw

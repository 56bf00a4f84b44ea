/- Regions that draw their order, over a part of memory: if one order of a certain kind goes through, with the checks that it asks, every order does. -/
import Derived.Test.YtgpcjdmiecnphaaGreatPwA
set_option linter.unusedSimpArgs false
set_option linter.unusedVariables false
namespace Go.Pw
open Go

inductive Cls where
  | pure | read | loud | alloc
  deriving DecidableEq

/-- Of each operation the set of those that it waits for, on any road: bits. -/
def maskOf (acc : Array Nat) (o : Oper) : Nat :=
  o.after.foldl (fun s e => if Region.binds .any e && decide (e.on < acc.size) then s ||| 2 ^ e.on ||| acc.getD e.on 0 else s) 0
def masksGo : List Oper → Array Nat → Array Nat
  | [], acc => acc
  | o :: l, acc => masksGo l (acc.push (maskOf acc o))
def masks (ops : Array Oper) : Array Nat := masksGo ops.toList #[]

theorem maskOf_fold (acc : Array Nat) (q : Nat) : ∀ (l : List Edge) (s : Nat),
    (l.foldl (fun s e => if Region.binds .any e && decide (e.on < acc.size) then s ||| 2 ^ e.on ||| acc.getD e.on 0 else s) s).testBit q = true →
    s.testBit q = true ∨ ∃ e ∈ l, Region.binds .any e = true ∧ e.on < acc.size ∧ (e.on = q ∨ (acc.getD e.on 0).testBit q = true) := by
  intro l
  induction l with
  | nil => intro s h; exact .inl h
  | cons e l ih =>
    intro s h
    simp only [List.foldl_cons] at h
    rcases ih _ h with h1 | ⟨e', he, h1⟩
    · by_cases hb : (Region.binds .any e && decide (e.on < acc.size)) = true
      · simp only [hb, if_true, Nat.testBit_or, Bool.or_eq_true] at h1
        simp only [Bool.and_eq_true, decide_eq_true_eq] at hb
        rcases h1 with (h1 | h1) | h1
        · exact .inl h1
        · right
          refine ⟨e, by simp, hb.1, hb.2, .inl ?_⟩
          rw [Nat.testBit_two_pow] at h1
          simpa using h1
        · exact .inr ⟨e, by simp, hb.1, hb.2, .inr h1⟩
      · simp only [hb] at h1
        exact .inl h1
    · exact .inr ⟨e', by simp [he], h1⟩

theorem maskOf_spec {acc : Array Nat} {o : Oper} {q : Nat} (h : (maskOf acc o).testBit q = true) :
    ∃ e ∈ o.after, Region.binds .any e = true ∧ e.on < acc.size ∧ (e.on = q ∨ (acc.getD e.on 0).testBit q = true) := by
  unfold maskOf at h
  rw [← Array.foldl_toList] at h
  rcases maskOf_fold acc q _ _ h with h1 | ⟨e, he, h1⟩
  · simp at h1
  · exact ⟨e, by simpa using he, h1⟩

/-- What the masks say of a row of operations. -/
def MaskOK (ops : Array Oper) (m : Array Nat) : Prop := ∀ i q, (m.getD i 0).testBit q = true → ∃ o, ops[i]? = some o ∧ ∃ e ∈ o.after, Region.binds .any e = true ∧ e.on < i ∧ (e.on = q ∨ (m.getD e.on 0).testBit q = true)

theorem masksGo_ok (ops : Array Oper) : ∀ (l : List Oper) (acc : Array Nat), (∀ j, l[j]? = ops[acc.size + j]?) → MaskOK ops acc → MaskOK ops (masksGo l acc)
  | [], acc, _, h => h
  | o :: l, acc, hl, h => by
    refine masksGo_ok ops l _ (fun j => by have := hl (j + 1); simpa [Nat.add_assoc, Nat.add_comm 1 j] using this) ?_
    intro i q hq
    have keep : ∀ k, k < acc.size → (acc.push (maskOf acc o)).getD k 0 = acc.getD k 0 := fun k hk => by
      simp only [Array.getD_eq_getD_getElem?]
      rw [Array.getElem?_push, if_neg (by omega)]
    rcases Nat.lt_trichotomy i acc.size with hi | hi | hi
    · rw [keep i hi] at hq
      obtain ⟨o', ho', e, he, hb, hlt, hd⟩ := h i q hq
      exact ⟨o', ho', e, he, hb, hlt, hd.imp id (fun hd => by rw [keep _ (by omega)]; exact hd)⟩
    · subst hi
      have h0 : (acc.push (maskOf acc o)).getD acc.size 0 = maskOf acc o := by
        simp [Array.getD_eq_getD_getElem?]
      rw [h0] at hq
      obtain ⟨e, he, hb, hlt, hd⟩ := maskOf_spec hq
      exact ⟨o, by simpa using (hl 0).symm, e, he, hb, hlt, hd.imp id (fun hd => by rw [keep _ hlt]; exact hd)⟩
    · have h0 : (acc.push (maskOf acc o)).getD i 0 = 0 := by
        simp only [Array.getD_eq_getD_getElem?]
        rw [Array.getElem?_eq_none (by simp; omega)]; rfl
      rw [h0] at hq
      simp at hq
theorem masks_ok (ops : Array Oper) : MaskOK ops (masks ops) :=
  masksGo_ok ops _ _ (by simp) (fun i q h => by simp [Array.getD_eq_getD_getElem?] at h)

def Closed (ops : Array Oper) (listed : Array Bool) : Prop := listed.size = ops.size ∧ ∀ j oj, ops[j]? = some oj → listed.getD j false = true → ∀ e ∈ oj.after, Region.binds .any e = true → listed.getD e.on false = true

theorem Closed.set {ops : Array Oper} {listed : Array Bool} {i : Nat} (hc : Closed ops listed) (hi : i ∈ Region.ready .any ops listed) : Closed ops (listed.setIfInBounds i true) := by
  obtain ⟨_, oi, hoi, hall⟩ := mem_ready.1 hi
  refine ⟨by simp [hc.1], fun j oj hj hl e he hb => ?_⟩
  by_cases hij : i = j
  · subst hij
    have : oj = oi := Option.some.inj (hj.symm.trans hoi)
    subst this
    exact getD_set_true (hall e he hb)
  · rw [getD_set_ne false hij] at hl
    exact getD_set_true (hc.2 j oj hj hl e he hb)

theorem Closed.mask {ops : Array Oper} {listed : Array Bool} (hc : Closed ops listed) {m : Array Nat} (hm : MaskOK ops m) :
    ∀ i q, (∀ o, ops[i]? = some o → ∀ e ∈ o.after, Region.binds .any e = true → listed.getD e.on false = true) → (m.getD i 0).testBit q = true → listed.getD q false = true := by
  intro i
  induction i using Nat.strongRecOn with
  | _ i ih =>
    intro q hall hq
    obtain ⟨o, ho, e, he, hb, hlt, hd⟩ := hm i q hq
    have h1 := hall o ho e he hb
    rcases hd with rfl | hd
    · exact h1
    · exact ih e.on hlt q (fun o' ho' e' he' hb' => hc.2 e.on o' ho' h1 e' he' hb') hd

theorem both_false {listed : Array Bool} {i : Nat} (h : listed.getD i true = false) : listed.getD i false = false := by
  rcases Nat.lt_or_ge i listed.size with h' | h'
  · simp [h'] at h ⊢; exact h
  · simp [Array.getElem?_eq_none h'] at h
theorem in_true {listed : Array Bool} {i : Nat} (hi : i < listed.size) (h : listed.getD i false = false) : listed.getD i true = false := by
  simp [hi] at h ⊢; exact h

section
variable (P : Program) (ops : Array Oper) (cls : Oper → Cls) (Q : Env → PH → Prop) (Kp : List PanicEntry → PH → Prop)

/-- What was read ahead of a loud operation, and need not have been, reads so behind it. -/
def ReY (listed : Array Bool) (i : Nat) (ρ : Env) (h : PH) : Prop := ∀ q oq, ops[q]? = some oq → listed.getD q false = true → cls oq = .read → ((masks ops).getD i 0).testBit q = false →
  Region.wanted oq (yieldedE ops ρ) = true → ∃ v, OpY P oq ρ h v ∧ ∀ d, oq.dst = some d → ρ d = v

def stepA (K : Env → PH → Prop) (listed : Array Bool) (i : Nat) (ρ : Env) (h : PH) : Prop :=
  match ops[i]? with
  | none => K ρ h
  | some o =>
    if Region.wanted o (yieldedE ops ρ) then
      match cls o with
      | .pure => ∃ v, OpY P o ρ (fun _ => none) v ∧ K (upd ρ o.dst v) h
      | .read => ∃ v, OpY P o ρ h v ∧ K (upd ρ o.dst v) h
      | .alloc => ∃ obj mk, OpA P o ρ obj mk ∧ ∀ b, h b = none → K (upd ρ o.dst (mk b)) (ins h b obj)
      | .loud => OpL P o ρ h (fun v h' => ReY P ops cls listed i ρ h' ∧ K (upd ρ o.dst v) h') Kp
    else K (upd ρ o.dst undef) h

def anyA : Nat → Array Bool → Env → PH → Prop
  | 0, listed, ρ, h => Region.ready .any ops listed = [] ∧ Q ρ h
  | fuel + 1, listed, ρ, h => (Region.ready .any ops listed = [] → Q ρ h) ∧
    ∀ i ∈ Region.ready .any ops listed, stepA P ops cls Kp (anyA fuel (listed.setIfInBounds i true)) listed i ρ h
end

section
variable {P : Program} {ops : Array Oper} {cls : Oper → Cls} {Q : Env → PH → Prop} {Kp : List PanicEntry → PH → Prop}

theorem stepA_mono {K K' : Env → PH → Prop} {listed : Array Bool} {i : Nat} {ρ : Env} {h : PH} (hk : ∀ ρ h, K ρ h → K' ρ h) (H : stepA P ops cls Kp K listed i ρ h) : stepA P ops cls Kp K' listed i ρ h := by
  unfold stepA at *
  split
  · rename_i ho; simp only [ho] at H; exact hk _ _ H
  · rename_i o ho
    simp only [ho] at H
    split
    · rename_i hw
      simp only [hw, if_true] at H
      split <;> rename_i hc <;> simp only [hc] at H
      · obtain ⟨v, a, b⟩ := H; exact ⟨v, a, hk _ _ b⟩
      · obtain ⟨v, a, b⟩ := H; exact ⟨v, a, hk _ _ b⟩
      · obtain ⟨obj, mk, a, b⟩ := H; exact ⟨obj, mk, a, fun x hx => hk _ _ (b x hx)⟩
      · exact H.mono (fun v h' ⟨a, b⟩ => ⟨a, hk _ _ b⟩) (fun _ _ h => h)
    · rename_i hw
      simp only [hw] at H
      exact hk _ _ H

/-- The facts of a region that are asked once. -/
structure RegOK (P : Program) (ops : Array Oper) (cls : Oper → Cls) : Prop where
  sel : ∀ (j : Nat) (o : Oper) cs b, ops[j]? = some o → o.op ≠ .select cs b
  /-- what a reading operation looks at is written by none but what it waits for; its own temporary by it alone -/
  look : ∀ (q k : Nat) (oq ok : Oper) (d : Tmp), ops[q]? = some oq → ops[k]? = some ok → cls oq = .read → ok.dst = some d → d ∈ oq.looksAt ops → ((masks ops).getD q 0).testBit k = true
  own : ∀ (q k : Nat) (oq ok : Oper) (d : Tmp), ops[q]? = some oq → ops[k]? = some ok → cls oq = .read → k ≠ q → oq.dst = some d → ok.dst ≠ some d
  has : ∀ (q : Nat) (oq : Oper), ops[q]? = some oq → cls oq = .read → ∃ d, oq.dst = some d

def YE (P : Program) (ops : Array Oper) (cls : Oper → Cls) (o : Oper) (ρ : Env) (h : PH) (v : Value) : Prop :=
  (Region.wanted o (yieldedE ops ρ) = true ∧ ((cls o = .pure ∧ OpY P o ρ (fun _ => none) v) ∨ (cls o = .read ∧ OpY P o ρ h v))) ∨
  (Region.wanted o (yieldedE ops ρ) = false ∧ v = undef)

theorem OpY.env {o : Oper} {ρ ρ' : Env} {h : PH} {v : Value} (he : execOp (evalE ρ') o = execOp (evalE ρ) o) : OpY P o ρ' h v ↔ OpY P o ρ h v := by
  unfold OpY; rw [he]
theorem OpA.env {o : Oper} {ρ ρ' : Env} {obj : Obj} {mk : Nat → Value} (he : execOp (evalE ρ') o = execOp (evalE ρ) o) : OpA P o ρ' obj mk ↔ OpA P o ρ obj mk := by
  unfold OpA; rw [he]
theorem OpL.env {o : Oper} {ρ ρ' : Env} {h : PH} {K : Value → PH → Prop} (he : execOp (evalE ρ') o = execOp (evalE ρ) o) : OpL P o ρ' h K Kp ↔ OpL P o ρ h K Kp := by
  unfold OpL; rw [he]

theorem YE.env {o : Oper} {ρ ρ' : Env} {h : PH} {v : Value} (he : execOp (evalE ρ') o = execOp (evalE ρ) o) (hw : Region.wanted o (yieldedE ops ρ') = Region.wanted o (yieldedE ops ρ))
    (H : YE P ops cls o ρ h v) : YE P ops cls o ρ' h v := by
  unfold YE at *
  simp only [OpY.env he, hw]
  exact H
theorem YE.sub {o : Oper} {ρ : Env} {h g : PH} {v : Value} (hs : Sub h g) (H : YE P ops cls o ρ h v) : YE P ops cls o ρ g v := by
  rcases H with ⟨a, b | b⟩ | b
  · exact .inl ⟨a, .inl b⟩
  · exact .inl ⟨a, .inr ⟨b.1, b.2.sub hs⟩⟩
  · exact .inr b

theorem YE.step {i : Nat} {oi : Oper} {ρ : Env} {h : PH} {v : Value} {K : Env → PH → Prop} {listed : Array Bool} (hi : ops[i]? = some oi) (hy : YE P ops cls oi ρ h v)
    (hk : K (upd ρ oi.dst v) h) : stepA P ops cls Kp K listed i ρ h := by
  unfold stepA
  simp only [hi]
  rcases hy with ⟨hw, ⟨hc, hv⟩ | ⟨hc, hv⟩⟩ | ⟨hw, rfl⟩
  · simp only [hw, if_true, hc]; exact ⟨v, hv, hk⟩
  · simp only [hw, if_true, hc]; exact ⟨v, hv, hk⟩
  · simp only [hw, Bool.false_eq_true, if_false]; exact hk

def Apt (ops : Array Oper) (listed : Array Bool) (i : Nat) (oi : Oper) : Prop :=
  ∀ j oj, ops[j]? = some oj → j ≠ i → listed.getD j true = false → (∀ e ∈ oj.after, Region.binds .any e = true → e.on ≠ i) → oi.apart ops oj = true

theorem Apt.set {listed : Array Bool} {i j : Nat} {oi : Oper} (h : Apt ops listed i oi) (hj : listed.getD j true = false) : Apt ops (listed.setIfInBounds j true) i oi := fun k ok hk hki hun hno => by
  refine h k ok hk hki ?_ hno
  by_cases hjk : j = k
  · subst hjk; exact hj
  · rw [getD_set_ne true hjk] at hun; exact hun

theorem ready_free {listed : Array Bool} {i j : Nat} {oi oj : Oper} (h : Apt ops listed i oi) (hi : i ∈ Region.ready .any ops listed) (hj : j ∈ Region.ready .any ops listed) (hji : j ≠ i) (hoj : ops[j]? = some oj) : oi.apart ops oj = true := by
  obtain ⟨hjun, oj', hoj', hall⟩ := mem_ready.1 hj
  have : oj' = oj := Option.some.inj (hoj'.symm.trans hoj)
  subst this
  refine h j oj' hoj hji hjun fun e he hb heq => ?_
  have h1 := hall e he hb
  have h0 := both_false (mem_ready.1 hi).1
  rw [heq, h0] at h1
  cases h1

theorem ready_mask {listed : Array Bool} (hc : Closed ops listed) {j q : Nat} (hj : j ∈ Region.ready .any ops listed) (hq : listed.getD q false = false) : ((masks ops).getD j 0).testBit q = false := by
  cases hb : ((masks ops).getD j 0).testBit q with
  | false => rfl
  | true =>
    obtain ⟨_, o, ho, hall⟩ := mem_ready.1 hj
    have := hc.mask (masks_ok ops) j q (fun o' ho' => by have : o' = o := Option.some.inj (ho'.symm.trans ho); subst this; exact hall) hb
    rw [hq] at this
    cases this

/-- One that is not listed writes nothing that a listed reader looks at. -/
theorem RegOK.clear (R : RegOK P ops cls) {listed : Array Bool} (hc : Closed ops listed) {i q : Nat} {oi oq : Oper} (hoi : ops[i]? = some oi) (hoq : ops[q]? = some oq) (hr : cls oq = .read)
    (hi : listed.getD i false = false) (hq : listed.getD q false = true) : ∀ d, oi.dst = some d → d ∉ oq.looksAt ops := fun d hd hin => by
  have h1 := R.look q i oq oi d hoq hoi hr hd hin
  have h2 := hc.mask (masks_ok ops) q i (fun o' ho' => by have : o' = oq := Option.some.inj (ho'.symm.trans hoq); subst this; exact hc.2 q o' hoq hq) h1
  rw [hi] at h2
  cases h2
theorem mask_irrefl (q : Nat) : ((masks ops).getD q 0).testBit q = false := by
  cases hb : ((masks ops).getD q 0).testBit q with
  | false => rfl
  | true =>
    exfalso
    have : ∀ i q, q ≥ i → ((masks ops).getD i 0).testBit q = false := by
      intro i
      induction i using Nat.strongRecOn with
      | _ i ih =>
        intro q hq
        cases hb : ((masks ops).getD i 0).testBit q with
        | false => rfl
        | true =>
          obtain ⟨o, ho, e, he, hb', hlt, hd⟩ := masks_ok ops i q hb
          rcases hd with rfl | hd
          · omega
          · rw [ih e.on hlt q (by omega)] at hd; cases hd
    rw [this q q (Nat.le_refl _)] at hb
    cases hb
theorem RegOK.self (R : RegOK P ops cls) {q : Nat} {oq : Oper} (hoq : ops[q]? = some oq) (hr : cls oq = .read) : ∀ d, oq.dst = some d → d ∉ oq.looksAt ops := fun d hd hin => by
  have h1 := R.look q q oq oq d hoq hoq hr hd hin
  rw [mask_irrefl] at h1
  cases h1

/-- What is asked behind a loud operation j is the same, whether i (that has not come up) has been put or not. -/
theorem ReY.unput (R : RegOK P ops cls) {listed : Array Bool} (hc : Closed ops listed) {i j : Nat} {oi : Oper} {ρ : Env} {h : PH} {v : Value} (hoi : ops[i]? = some oi) (hi : listed.getD i false = false)
    (H : ReY P ops cls (listed.setIfInBounds i true) j (upd ρ oi.dst v) h) : ReY P ops cls listed j ρ h := by
  intro q oq hoq hl hr hm hw
  have hcl := R.clear hc hoi hoq hr hi hl
  have hqi : i ≠ q := fun e => by subst e; rw [hi] at hl; cases hl
  have hw' : Region.wanted oq (yieldedE ops (upd ρ oi.dst v)) = true := by rw [wanted_upd oq ρ _ v hcl]; exact hw
  obtain ⟨u, h1, h2⟩ := H q oq hoq (getD_set_true hl) hr hm hw'
  refine ⟨u, (OpY.env (execOp_upd oq (fun cs b => R.sel q oq cs b hoq) ρ _ v hcl)).1 h1, fun d hd => ?_⟩
  rw [← h2 d hd]
  cases hdi : oi.dst with
  | none => rfl
  | some d' => exact (upd_ne _ _ fun e => R.own q i oq oi d hoq hoi hr hqi hd (by rw [hdi, e])).symm

theorem first_quiet (R : RegOK P ops cls) {i : Nat} {oi : Oper} (hoi : ops[i]? = some oi) : ∀ (fuel : Nat) (listed : Array Bool) (ρ : Env) (h : PH) (v : Value),
    Closed ops listed → Apt ops listed i oi → i ∈ Region.ready .any ops listed → YE P ops cls oi ρ h v →
    anyA P ops cls Q Kp fuel (listed.setIfInBounds i true) (upd ρ oi.dst v) h → anyA P ops cls Q Kp (fuel + 1) listed ρ h := by
  intro fuel
  induction fuel with
  | zero =>
    intro listed ρ h v hc hap hr hy H
    refine ⟨fun h0 => (by rw [h0] at hr; cases hr), fun j hj => ?_⟩
    by_cases hji : j = i
    · subst hji; exact hy.step hoi H
    · have := ready_mono hj hji
      rw [H.1] at this
      cases this
  | succ fuel ih =>
    intro listed ρ h v hc hap hr hy H
    refine ⟨fun h0 => (by rw [h0] at hr; cases hr), fun j hj => ?_⟩
    by_cases hji : j = i
    · subst hji; exact hy.step hoi H
    · have h1 := H.2 j (ready_mono hj hji)
      obtain ⟨hjun, oj, hoj, hall⟩ := mem_ready.1 hj
      have hiun := both_false (mem_ready.1 hr).1
      obtain ⟨a1, a2, a3⟩ := Oper.apart_spec (ready_free hap hr hj hji hoj)
      have hej := execOp_upd oj (fun cs b => R.sel j oj cs b hoj) ρ oi.dst v a1
      have hwj := wanted_upd oj ρ oi.dst v a1
      have hkeep : ∀ u g, YE P ops cls oi ρ g v → YE P ops cls oi (upd ρ oj.dst u) g v := fun u g hy =>
        hy.env (execOp_upd oi (fun cs b => R.sel i oi cs b hoi) ρ oj.dst u a3) (wanted_upd oi ρ oj.dst u a3)
      have hgo : ∀ u g, YE P ops cls oi ρ g v → anyA P ops cls Q Kp fuel ((listed.setIfInBounds i true).setIfInBounds j true) (upd (upd ρ oi.dst v) oj.dst u) g →
          anyA P ops cls Q Kp (fuel + 1) (listed.setIfInBounds j true) (upd ρ oj.dst u) g := fun u g hy hh => by
        refine ih _ _ _ v (hc.set hj) (hap.set hjun) (ready_mono hr (Ne.symm hji)) (hkeep u g hy) ?_
        rw [Array.setIfInBounds_comm _ _ hji, ← upd_comm ρ v u a2]
        exact hh
      unfold stepA at h1 ⊢
      simp only [hoj] at h1 ⊢
      rw [hwj] at h1
      split
      · rename_i hw
        simp only [hw, if_true] at h1
        split <;> rename_i hcj <;> simp only [hcj] at h1
        · obtain ⟨u, b1, b2⟩ := h1
          exact ⟨u, (OpY.env hej).1 b1, hgo u h hy b2⟩
        · obtain ⟨u, b1, b2⟩ := h1
          exact ⟨u, (OpY.env hej).1 b1, hgo u h hy b2⟩
        · obtain ⟨obj, mk, b1, b2⟩ := h1
          exact ⟨obj, mk, (OpA.env hej).1 b1, fun b hb => hgo _ _ (hy.sub (sub_ins obj hb)) (b2 b hb)⟩
        · refine ((OpL.env hej).1 h1).mono (fun u h' hh => ?_) (fun _ _ hh => hh)
          obtain ⟨b1, b2⟩ := hh
          refine ⟨b1.unput R hc hoi hiun, hgo u h' ?_ b2⟩
          rcases hy with ⟨y1, y2 | ⟨y2, y3⟩⟩ | y
          · exact .inl ⟨y1, .inl y2⟩
          · refine .inl ⟨y1, .inr ⟨y2, ?_⟩⟩
            have hself := R.self hoi y2
            have hlt : i < listed.size := by rw [hc.1]; exact (Array.getElem?_eq_some_iff.1 hoi).1
            obtain ⟨d, hd⟩ := R.has i oi hoi y2
            obtain ⟨v', z1, z2⟩ := b1 i oi hoi (by simp [hlt]) y2 (ready_mask hc hj hiun) (by rw [wanted_upd oi ρ _ v hself]; exact y1)
            have := z2 d hd
            rw [hd, upd_eq] at this
            subst this
            exact (OpY.env (execOp_upd oi (fun cs b => R.sel i oi cs b hoi) ρ _ v hself)).1 z1
          · exact .inr y
      · rename_i hw
        simp only [hw] at h1
        exact hgo _ h hy h1

theorem OpA.same {o : Oper} {ρ : Env} {obj obj' : Obj} {mk mk' : Nat → Value} (h : OpA P o ρ obj mk) (h' : OpA P o ρ obj' mk') : obj' = obj ∧ mk' = mk := by
  have key : ∀ n, mk' n = mk n ∧ obj' = obj := fun n => by
    have e := (h' { (default : World) with heap := Array.replicate n (.map #[] 0) }).symm.trans (h { (default : World) with heap := Array.replicate n (.map #[] 0) })
    simp only [Result.ok.injEq, Next.value.injEq, World.mk.injEq, Array.size_replicate] at e
    refine ⟨e.1, ?_⟩
    have h3 := congrArg (fun a => a.toList.getLast?) e.2.1
    simpa using h3
  exact ⟨(key 0).2, funext fun n => (key n).1⟩

def cnt (ops : Array Oper) (listed : Array Bool) : Nat := ((List.range ops.size).filter fun i => !listed.getD i true).length
theorem cnt_set {listed : Array Bool} {i : Nat} (hi : i < ops.size) (hs : listed.size = ops.size) (hu : listed.getD i true = false) : cnt ops (listed.setIfInBounds i true) < cnt ops listed := by
  unfold cnt
  have : ∀ l : List Nat, ((l.filter fun k => !(listed.setIfInBounds i true).getD k true).length ≤ (l.filter fun k => !listed.getD k true).length) ∧
      (i ∈ l → (l.filter fun k => !(listed.setIfInBounds i true).getD k true).length < (l.filter fun k => !listed.getD k true).length) := by
    intro l
    induction l with
    | nil => simp
    | cons k l ih =>
      by_cases hk : i = k
      · subst hk
        have h1 : (listed.setIfInBounds i true).getD i true = true := by simp [hs, hi]
        simp only [List.filter_cons, h1, hu, Bool.not_true, Bool.not_false, Bool.false_eq_true, if_false, if_true, List.length_cons]
        exact ⟨by have := ih.1; omega, fun _ => by have := ih.1; omega⟩
      · rw [List.filter_cons, List.filter_cons, getD_set_ne true hk]
        split
        · simp only [List.length_cons, List.mem_cons]
          exact ⟨by have := ih.1; omega, fun h => by have := ih.2 (h.resolve_left hk); omega⟩
        · simp only [List.mem_cons]
          exact ⟨ih.1, fun h => ih.2 (h.resolve_left hk)⟩
  exact (this _).2 (List.mem_range.2 hi)
theorem cnt_pos {listed : Array Bool} {i : Nat} (hi : i < ops.size) (hu : listed.getD i true = false) : 0 < cnt ops listed := by
  unfold cnt
  exact List.length_pos_of_mem (a := i) (List.mem_filter.2 ⟨List.mem_range.2 hi, by rw [hu]; rfl⟩)

/-- Whatever else has not come up yet waits for i, or lays a block. -/
def Alone (ops : Array Oper) (cls : Oper → Cls) (listed : Array Bool) (i : Nat) : Prop :=
  ∀ k ok, ops[k]? = some ok → k ≠ i → listed.getD k true = false → cls ok = .alloc ∨ ((masks ops).getD k 0).testBit i = true
theorem Alone.set {listed : Array Bool} {i j : Nat} (h : Alone ops cls listed i) (hj : listed.getD j true = false) : Alone ops cls (listed.setIfInBounds j true) i := fun k ok hk hki hun => by
  refine h k ok hk hki ?_
  by_cases hjk : j = k
  · subst hjk; exact hj
  · rw [getD_set_ne true hjk] at hun; exact hun
theorem Alone.alloc {listed : Array Bool} {i j : Nat} {oj : Oper} (hc : Closed ops listed) (h : Alone ops cls listed i) (hi : listed.getD i true = false) (hj : j ∈ Region.ready .any ops listed) (hji : j ≠ i) (hoj : ops[j]? = some oj) : cls oj = .alloc := by
  rcases h j oj hoj hji (mem_ready.1 hj).1 with h | h
  · exact h
  · rw [ready_mask hc hj (both_false hi)] at h; cases h

/-- Whatever lays a block, has not come up yet and does not wait for i can be carried out, and waits for none of its like. -/
structure Idle (P : Program) (ops : Array Oper) (cls : Oper → Cls) (listed : Array Bool) (i : Nat) (ρ : Env) : Prop where
  can : ∀ k ok, ops[k]? = some ok → k ≠ i → listed.getD k true = false → cls ok = .alloc → ((masks ops).getD k 0).testBit i = false → Region.wanted ok (yieldedE ops ρ) = true → ∃ obj mk, OpA P ok ρ obj mk
  apart : ∀ k l ok ol d, ops[k]? = some ok → ops[l]? = some ol → k ≠ i → l ≠ i → k ≠ l → listed.getD k true = false → listed.getD l true = false → cls ok = .alloc → cls ol = .alloc →
    ((masks ops).getD k 0).testBit i = false → ((masks ops).getD l 0).testBit i = false → ok.dst = some d → d ∉ ol.looksAt ops
theorem unset {listed : Array Bool} {j k : Nat} (h : (listed.setIfInBounds j true).getD k true = false) : j ≠ k ∧ listed.getD k true = false := by
  by_cases hjk : j = k
  · subst hjk
    exfalso
    rw [Array.getD_eq_getD_getElem?] at h
    by_cases hj : j < listed.size
    · rw [Array.getElem?_setIfInBounds_self_of_lt hj] at h; cases h
    · rw [Array.getElem?_eq_none (by simp; omega)] at h; cases h
  · rw [getD_set_ne true hjk] at h; exact ⟨hjk, h⟩
theorem Idle.set {listed : Array Bool} {i j : Nat} {oj : Oper} {ρ : Env} {u : Value} (sel : ∀ (j : Nat) (o : Oper) cs b, ops[j]? = some o → o.op ≠ .select cs b) (h : Idle P ops cls listed i ρ) (hoj : ops[j]? = some oj) (hji : j ≠ i) (hj : listed.getD j true = false) (hjal : cls oj = .alloc) (hjm : ((masks ops).getD j 0).testBit i = false) :
    Idle P ops cls (listed.setIfInBounds j true) i (upd ρ oj.dst u) where
  can k ok hk hki hun hal hm hw := by
    obtain ⟨hjk, hun⟩ := unset hun
    have clr : ∀ d, oj.dst = some d → d ∉ ok.looksAt ops := fun d hd => h.apart j k oj ok d hoj hk hji hki hjk hj hun hjal hal hjm hm hd
    rw [wanted_upd ok ρ _ u clr] at hw
    obtain ⟨obj, mk, ha⟩ := h.can k ok hk hki hun hal hm hw
    exact ⟨obj, mk, (OpA.env (execOp_upd ok (fun cs b => sel k ok cs b hk) ρ _ u clr)).2 ha⟩
  apart k l ok ol d hk hl hki hli hkl hunk hunl hak hal hmk hml hd :=
    h.apart k l ok ol d hk hl hki hli hkl (unset hunk).2 (unset hunl).2 hak hal hmk hml hd

theorem first_loud (R : RegOK P ops cls) {i : Nat} {oi : Oper} (hoi : ops[i]? = some oi) (hcl : cls oi = .loud) : ∀ (fuel : Nat) (listed : Array Bool) (ρ : Env) (h : PH),
    Closed ops listed → Apt ops listed i oi → Alone ops cls listed i → Idle P ops cls listed i ρ → i ∈ Region.ready .any ops listed → cnt ops listed ≤ fuel + 1 → Region.wanted oi (yieldedE ops ρ) = true →
    OpL P oi ρ h (fun v h' => ReY P ops cls listed i ρ h' ∧ anyA P ops cls Q Kp fuel (listed.setIfInBounds i true) (upd ρ oi.dst v) h') Kp → anyA P ops cls Q Kp (fuel + 1) listed ρ h := by
  intro fuel
  induction fuel with
  | zero =>
    intro listed ρ h hc hap hal hid hr hn hw H
    refine ⟨fun h0 => (by rw [h0] at hr; cases hr), fun j hj => ?_⟩
    by_cases hji : j = i
    · subst hji; unfold stepA; simp only [hoi, hw, if_true, hcl]; exact H
    · exfalso
      have hi1 := (mem_ready.1 hr).1
      obtain ⟨hj1, oj, hoj, _⟩ := mem_ready.1 hj
      have hilt := (Array.getElem?_eq_some_iff.1 hoi).1
      have hjlt := (Array.getElem?_eq_some_iff.1 hoj).1
      have h1 := cnt_set (ops := ops) hilt hc.1 hi1
      have h2 := cnt_pos (ops := ops) (listed := listed.setIfInBounds i true) hjlt (by rw [getD_set_ne true (Ne.symm hji)]; exact hj1)
      omega
  | succ fuel ih =>
    intro listed ρ h hc hap hal hid hr hn hw H
    refine ⟨fun h0 => (by rw [h0] at hr; cases hr), fun j hj => ?_⟩
    by_cases hji : j = i
    · subst hji; unfold stepA; simp only [hoi, hw, if_true, hcl]; exact H
    · obtain ⟨hjun, oj, hoj, hall⟩ := mem_ready.1 hj
      have hi1 := (mem_ready.1 hr).1
      have hjal := hal.alloc hc hi1 hj hji hoj
      have hjm := ready_mask hc hj (both_false hi1)
      have hids := fun u => hid.set (u := u) R.sel hoj hji hjun hjal hjm
      have hjlt := (Array.getElem?_eq_some_iff.1 hoj).1
      obtain ⟨a1, a2, a3⟩ := Oper.apart_spec (ready_free hap hr hj hji hoj)
      have hei : ∀ u, execOp (evalE (upd ρ oj.dst u)) oi = execOp (evalE ρ) oi := fun u => execOp_upd oi (fun cs b => R.sel i oi cs b hoi) ρ oj.dst u a3
      have hwi : ∀ u, Region.wanted oi (yieldedE ops (upd ρ oj.dst u)) = true := fun u => by rw [wanted_upd oi ρ oj.dst u a3]; exact hw
      have hej : ∀ u, execOp (evalE (upd ρ oi.dst u)) oj = execOp (evalE ρ) oj := fun u => execOp_upd oj (fun cs b => R.sel j oj cs b hoj) ρ oi.dst u a1
      have hwj : ∀ u, Region.wanted oj (yieldedE ops (upd ρ oi.dst u)) = Region.wanted oj (yieldedE ops ρ) := fun u => wanted_upd oj ρ oi.dst u a1
      have hcnt : cnt ops (listed.setIfInBounds j true) ≤ fuel + 1 := by have := cnt_set (ops := ops) hjlt hc.1 hjun; omega
      have reput : ∀ u g, ReY P ops cls listed i ρ g → ReY P ops cls (listed.setIfInBounds j true) i (upd ρ oj.dst u) g := by
        intro u g hre q oq hoq hl hrd hm hwq
        have hqj : j ≠ q := fun e => by subst e; rw [hoj] at hoq; injection hoq with hoq; subst hoq; rw [hjal] at hrd; cases hrd
        have hl' : listed.getD q false = true := by rw [getD_set_ne false hqj] at hl; exact hl
        have hclr := R.clear hc hoj hoq hrd (both_false hjun) hl'
        rw [wanted_upd oq ρ _ u hclr] at hwq
        obtain ⟨v, y1, y2⟩ := hre q oq hoq hl' hrd hm hwq
        refine ⟨v, (OpY.env (execOp_upd oq (fun cs b => R.sel q oq cs b hoq) ρ _ u hclr)).2 y1, fun d hd => ?_⟩
        rw [← y2 d hd]
        cases hdj : oj.dst with
        | none => rfl
        | some d' => exact upd_ne _ _ fun e => R.own q j oq oj d hoq hoj hrd hqj hd (by rw [hdj, e])
      unfold stepA
      simp only [hoj]
      split
      · rename_i hwj'
        simp only [hjal]
        obtain ⟨obj, mk, ha⟩ := hid.can j oj hoj hji hjun hjal hjm hwj'
        refine ⟨obj, mk, ha, fun b hb => ?_⟩
        refine ih _ _ _ (hc.set hj) (hap.set hjun) (hal.set hjun) (hids _) (ready_mono hr (Ne.symm hji)) hcnt (hwi _) ?_
        refine (OpL.env (hei _)).2 ((H.frame (obj := obj) hb).mono (fun v g hg => ?_) (fun c g hg => hg))
        · obtain ⟨h', hb', rfl, hre, hany⟩ := hg
          refine ⟨fun q oq hoq hl hrd hm hwq => ?_, ?_⟩
          · obtain ⟨v', y1, y2⟩ := reput (mk b) h' hre q oq hoq hl hrd hm hwq
            exact ⟨v', y1.sub (sub_ins obj hb'), y2⟩
          · have hs := hany.2 j (ready_mono hj hji)
            unfold stepA at hs
            simp only [hoj, hwj, hwj', if_true, hjal] at hs
            obtain ⟨obj', mk', b1, b2⟩ := hs
            obtain ⟨rfl, rfl⟩ := ha.same ((OpA.env (hej v)).1 b1)
            have := b2 b hb'
            rw [Array.setIfInBounds_comm _ _ hji, ← upd_comm ρ v _ a2]
            exact this
      · rename_i hwj'
        have hwjf : Region.wanted oj (yieldedE ops ρ) = false := by simpa using hwj'
        refine ih _ _ _ (hc.set hj) (hap.set hjun) (hal.set hjun) (hids _) (ready_mono hr (Ne.symm hji)) hcnt (hwi _) ?_
        refine (OpL.env (hei _)).2 (H.mono (fun v h' hg => ?_) (fun c g hg => hg))
        obtain ⟨hre, hany⟩ := hg
        refine ⟨reput _ _ hre, ?_⟩
        have hs := hany.2 j (ready_mono hj hji)
        unfold stepA at hs
        simp only [hoj, hwj, hwjf, Bool.false_eq_true, if_false] at hs
        rw [Array.setIfInBounds_comm _ _ hji, ← upd_comm ρ v _ a2]
        exact hs

theorem first_alloc (R : RegOK P ops cls) {i : Nat} {oi : Oper} (hoi : ops[i]? = some oi) (hcl : cls oi = .alloc) : ∀ (fuel : Nat) (listed : Array Bool) (ρ : Env) (h : PH) (obj : Obj) (mk : Nat → Value),
    Closed ops listed → Apt ops listed i oi → Alone ops cls listed i → Idle P ops cls listed i ρ → i ∈ Region.ready .any ops listed → cnt ops listed ≤ fuel + 1 → Region.wanted oi (yieldedE ops ρ) = true →
    OpA P oi ρ obj mk → (∀ b, h b = none → anyA P ops cls Q Kp fuel (listed.setIfInBounds i true) (upd ρ oi.dst (mk b)) (ins h b obj)) → anyA P ops cls Q Kp (fuel + 1) listed ρ h := by
  intro fuel
  induction fuel with
  | zero =>
    intro listed ρ h obj mk hc hap hal hid hr hn hw hoa H
    refine ⟨fun h0 => (by rw [h0] at hr; cases hr), fun j hj => ?_⟩
    by_cases hji : j = i
    · subst hji; unfold stepA; simp only [hoi, hw, if_true, hcl]; exact ⟨obj, mk, hoa, H⟩
    · exfalso
      have hi1 := (mem_ready.1 hr).1
      obtain ⟨hj1, oj, hoj, _⟩ := mem_ready.1 hj
      have hilt := (Array.getElem?_eq_some_iff.1 hoi).1
      have hjlt := (Array.getElem?_eq_some_iff.1 hoj).1
      have h1 := cnt_set (ops := ops) hilt hc.1 hi1
      have h2 := cnt_pos (ops := ops) (listed := listed.setIfInBounds i true) hjlt (by rw [getD_set_ne true (Ne.symm hji)]; exact hj1)
      omega
  | succ fuel ih =>
    intro listed ρ h obj mk hc hap hal hid hr hn hw hoa H
    refine ⟨fun h0 => (by rw [h0] at hr; cases hr), fun j hj => ?_⟩
    by_cases hji : j = i
    · subst hji; unfold stepA; simp only [hoi, hw, if_true, hcl]; exact ⟨obj, mk, hoa, H⟩
    · obtain ⟨hjun, oj, hoj, hall⟩ := mem_ready.1 hj
      have hi1 := (mem_ready.1 hr).1
      have hjal := hal.alloc hc hi1 hj hji hoj
      have hjm := ready_mask hc hj (both_false hi1)
      have hids := fun u => hid.set (u := u) R.sel hoj hji hjun hjal hjm
      have hjlt := (Array.getElem?_eq_some_iff.1 hoj).1
      obtain ⟨a1, a2, a3⟩ := Oper.apart_spec (ready_free hap hr hj hji hoj)
      have hei : ∀ u, execOp (evalE (upd ρ oj.dst u)) oi = execOp (evalE ρ) oi := fun u => execOp_upd oi (fun cs b => R.sel i oi cs b hoi) ρ oj.dst u a3
      have hwi : ∀ u, Region.wanted oi (yieldedE ops (upd ρ oj.dst u)) = true := fun u => by rw [wanted_upd oi ρ oj.dst u a3]; exact hw
      have hej : ∀ u, execOp (evalE (upd ρ oi.dst u)) oj = execOp (evalE ρ) oj := fun u => execOp_upd oj (fun cs b => R.sel j oj cs b hoj) ρ oi.dst u a1
      have hwj : ∀ u, Region.wanted oj (yieldedE ops (upd ρ oi.dst u)) = Region.wanted oj (yieldedE ops ρ) := fun u => wanted_upd oj ρ oi.dst u a1
      have hcnt : cnt ops (listed.setIfInBounds j true) ≤ fuel + 1 := by have := cnt_set (ops := ops) hjlt hc.1 hjun; omega
      unfold stepA
      simp only [hoj]
      split
      · rename_i hwj'
        simp only [hjal]
        obtain ⟨objj, mkj, ha⟩ := hid.can j oj hoj hji hjun hjal hjm hwj'
        refine ⟨objj, mkj, ha, fun bj hbj => ?_⟩
        refine ih _ _ _ obj mk (hc.set hj) (hap.set hjun) (hal.set hjun) (hids _) (ready_mono hr (Ne.symm hji)) hcnt (hwi _) ((OpA.env (hei _)).2 hoa) fun b hb => ?_
        have hne : b ≠ bj := fun e => by subst e; rw [ins_eq] at hb; cases hb
        rw [ins_ne _ _ hne] at hb
        have hs := (H b hb).2 j (ready_mono hj hji)
        unfold stepA at hs
        simp only [hoj, hwj, hwj', if_true, hjal] at hs
        obtain ⟨obj', mk', b1, b2⟩ := hs
        obtain ⟨rfl, rfl⟩ := ha.same ((OpA.env (hej _)).1 b1)
        have := b2 bj (by rw [ins_ne _ _ (Ne.symm hne)]; exact hbj)
        rw [Array.setIfInBounds_comm _ _ hji, ← upd_comm ρ _ _ a2, ins_comm _ _ _ (Ne.symm hne)]
        exact this
      · rename_i hwj'
        have hwjf : Region.wanted oj (yieldedE ops ρ) = false := by simpa using hwj'
        refine ih _ _ _ obj mk (hc.set hj) (hap.set hjun) (hal.set hjun) (hids _) (ready_mono hr (Ne.symm hji)) hcnt (hwi _) ((OpA.env (hei _)).2 hoa) fun b hb => ?_
        have hs := (H b hb).2 j (ready_mono hj hji)
        unfold stepA at hs
        simp only [hoj, hwj, hwjf, Bool.false_eq_true, if_false] at hs
        rw [Array.setIfInBounds_comm _ _ hji, ← upd_comm ρ _ _ a2]
        exact hs
end
end Go.Pw

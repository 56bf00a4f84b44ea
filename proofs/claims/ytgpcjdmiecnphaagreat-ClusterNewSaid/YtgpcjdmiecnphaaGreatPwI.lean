/- Functions that defer a closure which recovers: the closure's contract. -/
import Derived.Test.YtgpcjdmiecnphaaGreatPwS
import Derived.Recover
set_option linter.unusedSimpArgs false
set_option linter.unusedVariables false
namespace Go.Pw
open Go

section
variable {P : Program} {qf : FuncId → Bool} {ords : Nat → List (Nat × List Nat)}

theorem clo_sound (hm : P.follows .mixedOrders = true) {g : FuncId} {fn : Func} {rest : Code} {id tr tx : Nat} {ty ty2 : TypeId} {pos pos2 : String} {after after2 : Array Edge} {L : Loops}
    (hf : P.funcs[g]? = some fn)
    (hb : fn.body = some (.seq (.region id #[⟨some tr, .call ⟨.builtin .recover, #[], #[]⟩, ty, pos, after, none⟩, ⟨some tx, .assign (.tmp tr), ty2, pos2, after2, none⟩] false) rest))
    (hres : fn.results = #[]) (hok : codeOK P qf fn.ntmps ords rest = true) (htr : tr < fn.ntmps) (htx : tx < fn.ntmps) (hl : LoopsOK P qf ords (fun _ _ => False) L rest)
    {caps : Array Value} (hcaps : caps.size ≤ fn.ntmps) {v : Value} {h : PH} {w : World} (hw : Holds h w) {Rk : PH → Prop}
    (H : den P qf ords (fun _ _ => False) L rest (fun e _ h' => match e with | .normal => Rk h' | .ret => Rk h' | _ => False) (upd (upd (env0 caps) (some tr) v) (some tx) v) h)
    {u u' : FrameMode} (hu : (u = .returning ∧ v = .nilIface ∧ u' = .returning) ∨ (∃ older, u = .panicking ({ v := v, recovered := false } :: older) ∧ u' = .panicking ({ v := v, recovered := true } :: older))) :
    CallsD P g caps u w fun e u2 w' => u2 = u' ∧ (∃ x, e = .returned x) ∧ ∃ h', Holds h' w' ∧ Framed h h' w w' ∧ Rk h' := by
  refine callsD_of_wpS hf hb fun c₀ cs hmode => ?_
  apply wpS_seq
  apply wpS_region
  let a0 : Act := { tmps := caps ++ Array.replicate (fn.ntmps - caps.size) undef, defers := [] }
  have hsz : a0.tmps.size = fn.ntmps := by simp [a0]; omega
  let a2 : Act := (a0.put (some tr) v).put (some tx) v
  have hs2 : fn.ntmps ≤ a2.tmps.size := by simp [a2, Act.put, hsz]
  have henv : envOf a2 = upd (upd (env0 caps) (some tr) v) (some tx) v := by
    have e0 : envOf a0 = env0 caps := by
      funext t
      unfold envOf env0
      rw [Array.getD_eq_getD_getElem?, List.getD_eq_getElem?_getD]
      rcases Nat.lt_or_ge t caps.size with ht | ht
      · rw [Array.getElem?_append_left ht]; simp
      · rw [Array.getElem?_append_right ht, List.getElem?_eq_none (by simpa using ht)]
        rcases Nat.lt_or_ge (t - caps.size) (fn.ntmps - caps.size) with h' | h'
        · simp [h']
        · rw [Array.getElem?_eq_none (by simpa using h')]
    show envOf ((a0.put (some tr) v).put (some tx) v) = _
    rw [envOf_put v (fun d hd => by cases hd; simpa [Act.put, hsz] using htx), envOf_put v (fun d hd => by cases hd; rw [hsz]; exact htr), e0]
  have fin : rest.wpS P (bodyPostS P fn c₀ cs fun e u2 w' => u2 = u' ∧ (∃ x, e = .returned x) ∧ ∃ h', Holds h' w' ∧ Framed h h' w w' ∧ Rk h') a2 ({ c₀ with mode := u' } :: cs) w := by
    refine wpS_of_wp (wp_mono (den_sound (w0 := w) (n := fn.ntmps) (G := fun a => a.defers = []) hm rest hl hok (gOK_defers rest) _ a2 h w hs2 rfl hw (Framed.refl h w) (by rw [henv]; exact H)) fun e a w' hq => ?_)
    have rr : ∀ ts, (results fn ts).run P w' = .ok (.tuple #[]) w' := fun ts => by simp [results, hres]
    cases e <;> simp only [AQ, bodyPostS] at hq ⊢
    · obtain ⟨_, b2, h', b3, b4, b5⟩ := hq
      exact ⟨b2, u', rfl, _, rr _, rfl, ⟨_, rfl⟩, h', b3, b4, b5⟩
    · obtain ⟨_, _, _, _, _, hh⟩ := hq; exact hh
    · obtain ⟨_, _, _, _, _, hh⟩ := hq; exact hh
    · obtain ⟨_, b2, h', b3, b4, b5⟩ := hq
      exact ⟨b2, u', rfl, _, rr _, rfl, ⟨_, rfl⟩, h', b3, b4, b5⟩
    · obtain ⟨_, _, _, _, hh⟩ := hq; exact hh.elim
  have hasg : ∀ (a : Act), (execOp a.eval ⟨some tx, .assign (.tmp tr), ty2, pos2, after2, none⟩).run P w = .ok (.value (a.tmps.getD tr undef)) w := fun a => rfl
  have hrec : ∀ (a : Act), (execOp a.eval ⟨some tr, .call ⟨.builtin .recover, #[], #[]⟩, ty, pos, after, none⟩).run P w = .ok .recover w := fun a => rfl
  have hget : (a0.put (some tr) v).tmps.getD tr undef = v := by simp [Act.put, Array.getD, hsz, htr]
  show wpOpsS P _ _ [0, 1] a0 (c₀ :: cs) w
  simp only [wpOpsS, List.getElem?_toArray, List.getElem?_cons_zero, List.getElem?_cons_succ, Region.wanted, if_true, hrec]
  rcases hu with ⟨rfl, rfl, rfl⟩ | ⟨older, rfl, rfl⟩
  · have hr : recoverD (c₀ :: cs) = none := by simp [recoverD, hmode]
    have hc : ({ c₀ with mode := .returning } : Frame) = c₀ := by rw [← hmode]
    rw [hr]
    simp only [hasg, hget, Oper.upon, Exit.thenS]
    rw [hc] at fin
    exact fin
  · have hr : recoverD (c₀ :: cs) = some (v, { c₀ with mode := .panicking ({ v := v, recovered := true } :: older) } :: cs) := by simp [recoverD, hmode]
    rw [hr]
    simp only [hasg, hget, Oper.upon, Exit.thenS]
    exact fin
end
end Go.Pw

/- Maps: written, ranged over; panics, calls: the executor tells the truth. -/
import Derived.Test.YtgpcjdmiecnphaaGreatPxL
set_option linter.unusedSimpArgs false
set_option linter.unusedVariables false
namespace Go.Px
open Go Go.Pw
section
variable {P : Program} {ns : List Nm} {E : CE} {ρ : Env} {H : CH} {h : PH} {k : KV} {kp : KP} {K : Value → PH → Prop} {Kp : List PanicEntry → PH → Prop} {call : CALL}

theorem OpL.val {o : Oper} (hh : ∀ w, Holds h w → ∃ v w' h', (execOp (evalE ρ) o).run P w = .ok (.value v) w' ∧ Holds h' w' ∧ Framed h h' w w' ∧ K v h') : OpL P o ρ h K Kp := fun w hw => by
  obtain ⟨v, w', h', e, a, b, c⟩ := hh w hw
  left; rw [e]; exact ⟨h', a, b, c⟩
theorem OpL.skip {o : Oper} (hh : ∀ w, Holds h w → ∃ w' h', (execOp (evalE ρ) o).run P w = .ok .skip w' ∧ Holds h' w' ∧ Framed h h' w w' ∧ K undef h') : OpL P o ρ h K Kp := fun w hw => by
  obtain ⟨w', h', e, a, b, c⟩ := hh w hw
  left; rw [e]; exact ⟨h', a, b, c⟩
theorem run_skip (s : Sem Unit) {w w' : World} (hs : s.run P w = .ok () w') : (do s; pure Next.skip : Sem Next).run P w = .ok .skip w' := by
  rw [Sem.run_bind, hs]; rfl

/-! ### entries -/
theorem findX_at {k : CV} : ∀ {es : List (CV × CV × Nat)} {j i : Nat} {v : CV}, findX k es j = some (some (i, v)) → j ≤ i ∧ ∃ k' n, es[i - j]? = some (k', v, n) ∧ eqK k k' = some true
  | [], j, i, v, h => by simp [findX] at h
  | (k', v', n) :: es, j, i, v, h => by
    simp only [findX] at h
    cases hk : eqK k k' with
    | none => rw [hk] at h; cases h
    | some b =>
      rw [hk] at h
      cases b with
      | true =>
        simp only [Option.some.injEq, Prod.mk.injEq] at h
        obtain ⟨rfl, rfl⟩ := h
        exact ⟨Nat.le_refl _, k', n, by simp, hk⟩
      | false =>
        obtain ⟨h1, k2, n2, h2, h3⟩ := findX_at h
        refine ⟨by omega, k2, n2, ?_, h3⟩
        rw [show i - j = (i - (j + 1)) + 1 by omega, List.getElem?_cons_succ]
        exact h2
theorem eqN_same {l m : List Nat} (h : eqN l m = true) : bytesN l = bytesN m := by
  have := bytesN_eq l m
  rw [h] at this
  exact of_decide_eq_true this
theorem bytes_refl (m : List Nat) : (bytesN m == bytesN m) = true := (bytesN_beq m m).trans ((eqN_ok m m).2 rfl)
theorem eqK_same {kt : TypeId} {k k' : CV} {x y : Value} (hk : keyOK P kt k = true) (he : eqK k k' = some true) (hx : toV ns k = some x) (hy : toV ns k' = some y) : y = x ∧ Instr.sameBits 10000 x x = true := by
  rcases keyOK_kind hk with ⟨j, a, k1, rfl, hu⟩ | ⟨l, rfl, hu⟩ | ⟨j, a, l, rfl⟩
  · obtain ⟨a', rfl, hb⟩ := eqK_int he
    have : a = a' := by simpa using hb.symm
    subst this
    rw [hx] at hy; cases hy
    simp only [toV, Option.some.injEq] at hx
    subst hx
    exact ⟨rfl, by simp [Instr.sameBits]⟩
  · obtain ⟨m, rfl, hb⟩ := eqK_str he
    rw [toV_str hx, toV_str hy, eqN_same hb.symm]
    exact ⟨rfl, by simp [Instr.sameBits, bytes_refl]⟩
  · obtain ⟨m, rfl⟩ := eqK_pair he
    obtain ⟨j1, a1, s1, j2, a2, s2, e1, rfl⟩ := eqK_shape he
    cases e1
    obtain ⟨rfl, hb⟩ := eqK_agg he
    have hb' := hb.symm
    rw [Bool.and_eq_true] at hb'
    obtain ⟨b1, b2⟩ := hb'
    have : a = a2 := by simpa using b1
    subst this
    simp only [toV, toVs, Option.some.injEq] at hx hy
    subst hx; subst hy
    rw [eqN_same b2]
    exact ⟨rfl, by simp [Instr.sameBits, bytes_refl]⟩
theorem toEs_get : ∀ {es : List (CV × CV × Nat)} {xs : List MapEntry} {i : Nat} {k v : CV} {n : Nat}, toEs ns es = some xs → es[i]? = some (k, v, n) → ∃ a b, toV ns k = some a ∧ toV ns v = some b ∧ xs[i]? = some { key := a, val := b, born := n }
  | [], xs, i, k, v, n, h, hi => by simp at hi
  | (k', v', n') :: es, xs, 0, k, v, n, h, hi => by
    obtain ⟨a, b, r, h1, h2, h3, rfl⟩ := toEs_cons h
    simp only [List.getElem?_cons_zero, Option.some.injEq, Prod.mk.injEq] at hi
    obtain ⟨rfl, rfl, rfl⟩ := hi
    exact ⟨a, b, h1, h2, by simp⟩
  | (k', v', n') :: es, xs, i + 1, k, v, n, h, hi => by
    obtain ⟨a, b, r, h1, h2, h3, rfl⟩ := toEs_cons h
    simp only [List.getElem?_cons_succ] at hi
    obtain ⟨c, d, g1, g2, g3⟩ := toEs_get h3 hi
    exact ⟨c, d, g1, g2, by simpa using g3⟩
theorem toEs_setV : ∀ {es : List (CV × CV × Nat)} {xs : List MapEntry} {i : Nat} {k v0 v : CV} {n : Nat} {kv vv : Value}, toEs ns es = some xs → es[i]? = some (k, v0, n) → toV ns k = some kv → toV ns v = some vv →
    toEs ns (setV es i v) = some (xs.modify i fun e => { e with key := kv, val := vv })
  | [], xs, i, k, v0, v, n, kv, vv, h, hi, hk, hv => by simp at hi
  | (k', v', n') :: es, xs, 0, k, v0, v, n, kv, vv, h, hi, hk, hv => by
    obtain ⟨a, b, r, h1, h2, h3, rfl⟩ := toEs_cons h
    simp only [List.getElem?_cons_zero, Option.some.injEq, Prod.mk.injEq] at hi
    obtain ⟨rfl, rfl, rfl⟩ := hi
    simpa [setV] using toEs_mk hk hv h3
  | (k', v', n') :: es, xs, i + 1, k, v0, v, n, kv, vv, h, hi, hk, hv => by
    obtain ⟨a, b, r, h1, h2, h3, rfl⟩ := toEs_cons h
    simp only [List.getElem?_cons_succ] at hi
    simpa [setV] using toEs_mk h1 h2 (toEs_setV h3 hi hk hv)
theorem toEs_erase : ∀ {es : List (CV × CV × Nat)} {xs : List MapEntry} {i : Nat}, toEs ns es = some xs → toEs ns (es.eraseIdx i) = some (xs.eraseIdx i)
  | [], xs, i, h => by simp [toEs] at h; subst h; simp [toEs]
  | (k', v', n') :: es, xs, 0, h => by
    obtain ⟨a, b, r, h1, h2, h3, rfl⟩ := toEs_cons h
    simpa using h3
  | (k', v', n') :: es, xs, i + 1, h => by
    obtain ⟨a, b, r, h1, h2, h3, rfl⟩ := toEs_cons h
    simpa using toEs_mk h1 h2 (toEs_erase h3)
theorem toEs_len : ∀ {es : List (CV × CV × Nat)} {xs : List MapEntry}, toEs ns es = some xs → xs.length = es.length
  | [], xs, h => by simp [toEs] at h; subst h; rfl
  | (k', v', n') :: es, xs, h => by
    obtain ⟨a, b, r, h1, h2, h3, rfl⟩ := toEs_cons h
    simp [toEs_len h3]

/-! ### writing -/
theorem run_setObj {w : World} {b : Nat} {es : Array MapEntry} {c : Nat} (hb : w.heap[b]? = some (.map es c)) (p : Obj) : (setObj b p).run P w = .ok () { w with heap := w.heap.setIfInBounds b p } := by simp [setObj, Sem.run, hb]
theorem set_world {w : World} {b : Nat} {o : Obj} (hw : Holds h w) (hb : h b = some o) (p : Obj) (n : Nat) : Holds (ins h b p) { w with heap := w.heap.setIfInBounds b p, drawn := n } ∧ Framed h (ins h b p) w { w with heap := w.heap.setIfInBounds b p, drawn := n } := by
  have h2 : ∀ x, x ≠ b → ({ w with heap := w.heap.setIfInBounds b p, drawn := n } : World).heap[x]? = w.heap[x]? := fun x hx => by
    show (w.heap.setIfInBounds b _)[x]? = _
    rw [Array.getElem?_setIfInBounds_ne (Ne.symm hx)]
  refine ⟨hw.set ?_ h2, Framed.set hb h2 (by simp) rfl rfl rfl⟩
  show (w.heap.setIfInBounds b _)[b]? = _
  rw [Array.getElem?_setIfInBounds_self_of_lt (hw.lt hb)]
/-- A map, by its number. -/
theorem map_at (hH : RelH P ns H h) {m : CV} {x : Value} {b : Nat} {es : List (CV × CV × Nat) × Nat} (hm : asMp m = some b) (hx : toV ns m = some x) (he : asM (H.at b) = some es) :
    ∃ nm xs, ns[b]? = some nm ∧ nm.o = 0 ∧ x = .map (some nm.b) ∧ h nm.b = some (.map xs.toArray es.2) ∧ toEs ns es.1 = some xs := by
  rw [asMp_ok hm] at hx
  obtain ⟨nm, h1, rfl⟩ := toV_mp hx
  obtain ⟨m', h2, h3, xs, h4, h5⟩ := hH.obj b _ (asM_ok he)
  rw [h1] at h2; cases h2
  exact ⟨nm, xs, h1, h3, rfl, h4, h5⟩
theorem RelH.map (hH : RelH P ns H h) {b : Nat} {es : List (CV × CV × Nat) × Nat} {nm : Nm} (he : asM (H.at b) = some es) (h1 : ns[b]? = some nm) (h0 : nm.o = 0) {es' : List (CV × CV × Nat)} {xs : List MapEntry} {c : Nat} (h2 : toEs ns es' = some xs) :
    RelH P ns (H.set b (some (.map es' c))) (ins h nm.b (.map xs.toArray c)) := hH.set (asM_ok he) h1 ⟨h0, xs, ins_eq _ _ _, h2⟩
theorem upd_ok (hE : RelE ns E ρ) (hH : RelH P ns H h) {t kt e : TypeId} {m x v : Operand} (hu : P.underlying t = some (.map kt e)) (hq : (lUpd P kt m x v).1 call E H k kp = true) (hk : KOK P ns k K) :
    ∀ w, Holds h w → ∃ w' h', (Instr.mapUpdate t (evalE ρ m) (evalE ρ x) (evalE ρ v)).run P w = .ok () w' ∧ Holds h' w' ∧ Framed h h' w w' ∧ K undef h' := by
  intro w hw
  simp only [lUpd] at hq
  cases hm : (oBx m).1 E with
  | none => rw [hm] at hq; cases hq
  | some mv =>
    cases hx : (oBx x).1 E with
    | none => rw [hm, hx] at hq; cases hq
    | some xv =>
      cases hv : (oBx v).1 E with
      | none => rw [hm, hx, hv] at hq; cases hq
      | some vv =>
        rw [hm, hx, hv] at hq
        simp only at hq
        unfold xUpd at hq
        cases hb : asMp mv with
        | none => rw [hb] at hq; cases hq
        | some b =>
          rw [hb] at hq
          simp only at hq
          cases he : asM (H.at b) with
          | none => rw [he] at hq; cases hq
          | some es =>
            rw [he] at hq
            simp only at hq
            cases hko : keyOK P kt xv with
            | false => rw [hko] at hq; cases hq
            | true =>
              rw [hko] at hq
              simp only at hq
              have ox := o_ok hE hx
              have ov := o_ok hE hv
              obtain ⟨nm, xs, n1, n2, n3, n4, n5⟩ := map_at hH hb (o_ok hE hm) he
              obtain ⟨c1, c2⟩ := key_ok hko ox
              have hbw := hw _ _ n4
              have hg : (getObj nm.b).run P w = .ok (.map xs.toArray es.2) w := by simp [getObj, Sem.run, hbw]
              cases hf : findX xv es.1 0 with
              | none => rw [hf] at hq; cases hq
              | some r =>
                rw [hf] at hq
                obtain ⟨r', f1, f2⟩ := c2 hf n5
                cases r with
                | none =>
                  simp only at hq
                  cases r' with
                  | some _ => exact f2.elim
                  | none =>
                    have hr : (Instr.mapUpdate t (evalE ρ m) (evalE ρ x) (evalE ρ v)).run P w = .ok () { w with heap := w.heap.setIfInBounds nm.b (.map (xs.toArray.push { key := evalE ρ x, val := evalE ρ v, born := es.2 }) (es.2 + 1)) } := by
                      unfold Instr.mapUpdate
                      simp only [Sem.run_bind, run_underlying hu, Result.andThen_ok, n3, hg]
                      rw [show (10000 : Nat) = 9998 + 2 from rfl, pureRun_run w _ (c1 _ _), Result.andThen_ok, pureRun_run w _ f1, Result.andThen_ok]
                      exact run_setObj hbw _
                    obtain ⟨s1, s2⟩ := set_world hw n4 (.map (xs.toArray.push { key := evalE ρ x, val := evalE ρ v, born := es.2 }) (es.2 + 1)) w.drawn
                    refine ⟨_, _, hr, s1, s2, ?_⟩
                    rw [List.push_toArray]
                    exact hk _ .und _ _ _ (Ext.refl ns) rfl (hH.map he n1 n2 (toEs_append n5 (toEs_mk ox ov rfl))) hq
                | some p =>
                  obtain ⟨i, v0⟩ := p
                  simp only at hq
                  cases r' with
                  | none => exact f2.elim
                  | some p' =>
                    obtain ⟨i', y0⟩ := p'
                    obtain ⟨rfl, f2⟩ := f2
                    obtain ⟨_, k', n, g1, g2⟩ := findX_at hf
                    rw [Nat.sub_zero] at g1
                    obtain ⟨a, bb, t1, t2, t3⟩ := toEs_get n5 g1
                    obtain ⟨rfl, hsb⟩ := eqK_same hko g2 ox t1
                    have hks : (Instr.keyThatStays (((xs.toArray[i]?).map (·.key)).getD (evalE ρ x)) (evalE ρ x)).run P w = .ok (evalE ρ x) w := by
                      simp only [List.getElem?_toArray, t3, Option.map_some, Option.getD_some, Instr.keyThatStays, hsb, if_true, Sem.run_pure]
                    have hr : (Instr.mapUpdate t (evalE ρ m) (evalE ρ x) (evalE ρ v)).run P w = .ok () { w with heap := w.heap.setIfInBounds nm.b (.map (xs.toArray.modify i fun e => { e with key := evalE ρ x, val := evalE ρ v }) es.2) } := by
                      unfold Instr.mapUpdate
                      simp only [Sem.run_bind, run_underlying hu, Result.andThen_ok, n3, hg]
                      rw [show (10000 : Nat) = 9998 + 2 from rfl, pureRun_run w _ (c1 _ _), Result.andThen_ok, pureRun_run w _ f1, Result.andThen_ok]
                      simp only [Sem.run_bind, hks, Result.andThen_ok]
                      exact run_setObj hbw _
                    obtain ⟨s1, s2⟩ := set_world hw n4 (.map (xs.toArray.modify i fun e => { e with key := evalE ρ x, val := evalE ρ v }) es.2) w.drawn
                    refine ⟨_, _, hr, s1, s2, ?_⟩
                    rw [List.modify_toArray]
                    exact hk _ .und _ _ _ (Ext.refl ns) rfl (hH.map he n1 n2 (toEs_setV n5 g1 t1 ov)) hq
end
end Go.Px

/- Maps: ranged over, taken from, cleared: the executor tells the truth. -/
import Derived.Test.YtgpcjdmiecnphaaGreatPxM
set_option linter.unusedSimpArgs false
set_option linter.unusedVariables false
namespace Go.Px
open Go Go.Pw
section
variable {P : Program} {ns : List Nm} {E : CE} {ρ : Env} {H : CH} {h : PH} {k : KV} {kp : KP} {K : Value → PH → Prop} {Kp : List PanicEntry → PH → Prop} {call : CALL}

theorem ins_self {b : Nat} {o : Obj} (hb : h b = some o) : ins h b o = h := by
  funext x
  by_cases hx : x = b
  · subst hx; rw [ins_eq, hb]
  · rw [ins_ne _ _ hx]
theorem ins_ok (hE : RelE ns E ρ) (hH : RelH P ns H h) {kt : TypeId} {d : TypeDesc} {i1 : IntKind} {m x v : Operand} (hu : P.underlying kt = some (.int i1)) (hq : (lIns P kt m x v).1 call E H k kp = true) (hk : KOK P ns k K) :
    vMapIns (.int i1) (evalE ρ m) (evalE ρ x) (evalE ρ v) h (fun h' => K undef h') := by
  simp only [lIns] at hq
  cases hm : (oBx m).1 E with
  | none => rw [hm] at hq; cases hq
  | some mv =>
    cases hx : (oBx x).1 E with
    | none => rw [hm, hx] at hq; cases hq
    | some xv =>
      cases hv : (oBx v).1 E with
      | none => rw [hm, hx, hv] at hq; cases hq
      | some vv =>
        rw [hm, hx, hv] at hq
        simp only at hq
        unfold xIns at hq
        cases hb : asMp mv with
        | none => rw [hb] at hq; cases hq
        | some b =>
          rw [hb] at hq
          simp only at hq
          cases he : asM (H.at b) with
          | none => rw [he] at hq; cases hq
          | some es =>
            rw [he] at hq
            simp only at hq
            cases hko : keyOK P kt xv with
            | false => rw [hko] at hq; cases hq
            | true =>
              rw [hko] at hq
              simp only at hq
              have ox := o_ok hE hx
              have ov := o_ok hE hv
              obtain ⟨nm, xs, n1, n2, n3, n4, n5⟩ := map_at hH hb (o_ok hE hm) he
              cases hf : findX xv es.1 0 with
              | none => rw [hf] at hq; cases hq
              | some r =>
                rw [hf] at hq
                cases r with
                | some p => cases hq
                | none =>
                  simp only at hq
                  have key : ∃ j a, xv = .int j a := by
                    rcases keyOK_kind hko with ⟨j, a, k1, rfl, _⟩ | ⟨l, rfl, hu2⟩ | ⟨j, a, l, rfl⟩
                    · exact ⟨_, _, rfl⟩
                    · rw [hu] at hu2; cases hu2
                    · obtain ⟨f, g, k1, g0, _⟩ := keyOK_agg hko
                      rw [hu] at g0; cases g0
                  obtain ⟨j, a, rfl⟩ := key
                  have ev : evalE ρ x = .int j a := by simp only [toV, Option.some.injEq] at ox; exact ox.symm
                  obtain ⟨r', q1, q2⟩ := findNow_ok (ns := ns) (d := .int i1) (kv := .int j a) (fun k' b hb kv' hkv' => by
                    obtain ⟨a', rfl, rfl⟩ := eqK_int hb
                    simp only [toV, Option.some.injEq] at hkv'
                    subst hkv'
                    simp [Instr.sameNow]) hf n5
                  cases r' with
                  | some _ => exact q2.elim
                  | none =>
                    refine ⟨nm.b, xs.toArray, es.2, n3, n4, rfl, by rw [ev]; simpa using q1, ?_⟩
                    rw [List.push_toArray]
                    exact hk _ .und _ _ _ (Ext.refl ns) rfl (hH.map he n1 n2 (toEs_append n5 (toEs_mk ox ov rfl))) hq
theorem del_ok (hE : RelE ns E ρ) (hH : RelH P ns H h) {t t2 kt e ty : TypeId} {m x : Operand} (hu : P.underlying t = some (.map kt e)) (hq : (lDel P kt m x).1 call E H k kp = true) (hk : KOK P ns k K) :
    ∀ w, Holds h w → ∃ w' h', (Builtin.delete_ #[t, t2] ty #[evalE ρ m, evalE ρ x]).run P w = .ok (.tuple #[]) w' ∧ Holds h' w' ∧ Framed h h' w w' ∧ K (.tuple #[]) h' := by
  intro w hw
  simp only [lDel] at hq
  cases hm : (oBx m).1 E with
  | none => rw [hm] at hq; cases hq
  | some mv =>
    cases hx : (oBx x).1 E with
    | none => rw [hm, hx] at hq; cases hq
    | some xv =>
      rw [hm, hx] at hq
      simp only at hq
      unfold xDel at hq
      cases hb : asMp mv with
      | none => rw [hb] at hq; cases hq
      | some b =>
        rw [hb] at hq
        simp only at hq
        cases he : asM (H.at b) with
        | none => rw [he] at hq; cases hq
        | some es =>
          rw [he] at hq
          simp only at hq
          cases hko : keyOK P kt xv with
          | false => rw [hko] at hq; cases hq
          | true =>
            rw [hko] at hq
            simp only at hq
            have ox := o_ok hE hx
            obtain ⟨nm, xs, n1, n2, n3, n4, n5⟩ := map_at hH hb (o_ok hE hm) he
            obtain ⟨c1, c2⟩ := key_ok hko ox
            have hbw := hw _ _ n4
            have hg : (getObj nm.b).run P w = .ok (.map xs.toArray es.2) w := by simp [getObj, Sem.run, hbw]
            cases hf : findX xv es.1 0 with
            | none => rw [hf] at hq; cases hq
            | some r =>
              rw [hf] at hq
              obtain ⟨r', f1, f2⟩ := c2 hf n5
              cases r with
              | none =>
                simp only at hq
                cases r' with
                | some _ => exact f2.elim
                | none =>
                  have hr : (Builtin.delete_ #[t, t2] ty #[evalE ρ m, evalE ρ x]).run P w = .ok (.tuple #[]) { w with heap := w.heap.setIfInBounds nm.b (.map xs.toArray es.2) } := by
                    unfold Builtin.delete_
                    simp only [List.getElem?_toArray, List.getElem?_cons_zero, List.getElem?_cons_succ, Sem.run_bind, run_underlying hu, Result.andThen_ok, n3, hg]
                    rw [show (10000 : Nat) = 9998 + 2 from rfl, pureRun_run w _ (c1 _ _), Result.andThen_ok, pureRun_run w _ f1, Result.andThen_ok]
                    simp only [Sem.run_bind, run_setObj hbw, Result.andThen_ok, Sem.run_pure]
                  obtain ⟨s1, s2⟩ := set_world hw n4 (.map xs.toArray es.2) w.drawn
                  refine ⟨_, _, hr, s1, s2, ?_⟩
                  rw [ins_self n4]
                  exact hk _ (.tup []) _ _ _ (Ext.refl ns) rfl hH hq
              | some p =>
                obtain ⟨i, v0⟩ := p
                simp only at hq
                cases r' with
                | none => exact f2.elim
                | some p' =>
                  obtain ⟨i', y0⟩ := p'
                  obtain ⟨rfl, f2⟩ := f2
                  have hr : (Builtin.delete_ #[t, t2] ty #[evalE ρ m, evalE ρ x]).run P w = .ok (.tuple #[]) { w with heap := w.heap.setIfInBounds nm.b (.map (xs.toArray.eraseIdxIfInBounds i) es.2) } := by
                    unfold Builtin.delete_
                    simp only [List.getElem?_toArray, List.getElem?_cons_zero, List.getElem?_cons_succ, Sem.run_bind, run_underlying hu, Result.andThen_ok, n3, hg]
                    rw [show (10000 : Nat) = 9998 + 2 from rfl, pureRun_run w _ (c1 _ _), Result.andThen_ok, pureRun_run w _ f1, Result.andThen_ok]
                    simp only [Sem.run_bind, run_setObj hbw, Result.andThen_ok, Sem.run_pure]
                  obtain ⟨s1, s2⟩ := set_world hw n4 (.map (xs.toArray.eraseIdxIfInBounds i) es.2) w.drawn
                  refine ⟨_, _, hr, s1, s2, ?_⟩
                  rw [show xs.toArray.eraseIdxIfInBounds i = (xs.eraseIdx i).toArray by simp]
                  exact hk _ (.tup []) _ _ _ (Ext.refl ns) rfl (hH.map he n1 n2 (toEs_erase n5)) hq
theorem clr_ok (hE : RelE ns E ρ) (hH : RelH P ns H h) {t kt e ty : TypeId} {m : Operand} (hu : P.underlying t = some (.map kt e)) (hq : (lClr m).1 call E H k kp = true) (hk : KOK P ns k K) :
    ∀ w, Holds h w → ∃ w' h', (Builtin.clear_ #[t] ty #[evalE ρ m]).run P w = .ok (.tuple #[]) w' ∧ Holds h' w' ∧ Framed h h' w w' ∧ K (.tuple #[]) h' := by
  intro w hw
  simp only [lClr] at hq
  cases hm : (oBx m).1 E with
  | none => rw [hm] at hq; cases hq
  | some mv =>
    rw [hm] at hq
    simp only at hq
    cases hb : asMp mv with
    | none => rw [hb] at hq; cases hq
    | some b =>
      rw [hb] at hq
      simp only at hq
      cases he : asM (H.at b) with
      | none => rw [he] at hq; cases hq
      | some es =>
        rw [he] at hq
        simp only at hq
        obtain ⟨nm, xs, n1, n2, n3, n4, n5⟩ := map_at hH hb (o_ok hE hm) he
        have hbw := hw _ _ n4
        have hg : (getObj nm.b).run P w = .ok (.map xs.toArray es.2) w := by simp [getObj, Sem.run, hbw]
        have hr : (Builtin.clear_ #[t] ty #[evalE ρ m]).run P w = .ok (.tuple #[]) { w with heap := w.heap.setIfInBounds nm.b (.map #[] es.2) } := by
          unfold Builtin.clear_
          simp only [List.getElem?_toArray, List.getElem?_cons_zero, List.getElem?_cons_succ, Sem.run_bind, run_underlying hu, Result.andThen_ok, n3, hg]
          simp only [Sem.run_bind, run_setObj hbw, Result.andThen_ok, Sem.run_pure]
        obtain ⟨s1, s2⟩ := set_world hw n4 (.map #[] es.2) w.drawn
        refine ⟨_, _, hr, s1, s2, ?_⟩
        exact hk _ (.tup []) _ _ _ (Ext.refl ns) rfl (hH.map (es' := []) (xs := []) he n1 n2 rfl) hq
theorem len_ok (hE : RelE ns E ρ) (hH : RelH P ns H h) {t kt e ty : TypeId} {m : Operand} (hu : P.underlying t = some (.map kt e)) (hq : (lLen m).1 call E H k kp = true) (hk : KOK P ns k K) :
    ∀ w, Holds h w → ∃ v, (Builtin.len_ #[t] ty #[evalE ρ m]).run P w = .ok v w ∧ K v h := by
  intro w hw
  simp only [lLen] at hq
  cases hm : (oBx m).1 E with
  | none => rw [hm] at hq; cases hq
  | some mv =>
    rw [hm] at hq
    simp only at hq
    cases he : entriesX H mv with
    | none => rw [he] at hq; cases hq
    | some es =>
      rw [he] at hq
      simp only at hq
      rcases entries_ok hH (o_ok hE hm) he with ⟨e1, rfl⟩ | ⟨b, es', clock, e1, e2, e3⟩
      · refine ⟨.int .i64 0, ?_, hk _ _ _ _ _ (Ext.refl ns) rfl hH hq⟩
        unfold Builtin.len_
        simp only [List.getElem?_toArray, List.getElem?_cons_zero, Sem.run_bind, run_underlying hu, Result.andThen_ok, e1]
        rfl
      · have hbw := hw _ _ e2
        have hg : (getObj b).run P w = .ok (.map es' clock) w := by simp [getObj, Sem.run, hbw]
        refine ⟨.int .i64 es.length, ?_, hk _ _ _ _ _ (Ext.refl ns) rfl hH hq⟩
        unfold Builtin.len_
        simp only [List.getElem?_toArray, List.getElem?_cons_zero, Sem.run_bind, run_underlying hu, Result.andThen_ok, e1, hg]
        have := toEs_len e3
        simp only [Array.length_toList] at this
        rw [this]
        rfl
end
end Go.Px

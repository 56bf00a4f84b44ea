/- Maps ranged over: the executor tells the truth. -/
import Derived.Test.YtgpcjdmiecnphaaGreatPxN
set_option linter.unusedSimpArgs false
set_option linter.unusedVariables false
namespace Go.Px
open Go Go.Pw
section
variable {P : Program} {ns : List Nm} {E : CE} {ρ : Env} {H : CH} {h : PH} {k : KV} {kp : KP} {K : Value → PH → Prop} {Kp : List PanicEntry → PH → Prop} {call : CALL}

theorem run_newObj (o : Obj) (w : World) : (newObj o).run P w = .ok w.heap.size (w.alloc o) := by simp [newObj, Sem.run]
theorem range_ok (hE : RelE ns E ρ) (hH : RelH P ns H h) {t kt e : TypeId} {x : Operand} (hu : P.underlying t = some (.map kt e)) (hq : (lRange x).1 call E H k kp = true) (hk : KOK P ns k K) :
    ∀ w, Holds h w → ∃ v w' h', (Instr.range t (evalE ρ x)).run P w = .ok v w' ∧ Holds h' w' ∧ Framed h h' w w' ∧ K v h' := by
  intro w hw
  simp only [lRange] at hq
  have hb : h w.heap.size = none := hw.none (Nat.le_refl _)
  have go : ∀ (o : CO) (oo : Obj), (∀ (nm : Nm), nm = ⟨w.heap.size, 0, 0⟩ → OK P (ns ++ [nm]) nm (ins h w.heap.size oo) o) → newK H o (fun b H' => k (.ptr b 0) H') = true →
      (do pure (.pointer (some ⟨← newObj oo, 0, none⟩)) : Sem Value).run P w = .ok (.pointer (some ⟨w.heap.size, 0, none⟩)) (w.alloc oo) ∧ Holds (ins h w.heap.size oo) (w.alloc oo) ∧ Framed h (ins h w.heap.size oo) w (w.alloc oo) ∧ K (.pointer (some ⟨w.heap.size, 0, none⟩)) (ins h w.heap.size oo) := fun o oo ho hq => by
    rw [newK_eq] at hq
    refine ⟨by rw [Sem.run_bind, run_newObj]; rfl, Holds.push hw rfl, Framed.push rfl rfl rfl rfl, ?_⟩
    exact hk _ _ _ _ _ (Ext.one ns ⟨w.heap.size, 0, 0⟩) (new_ptr hH _ 0) (hH.new hb (ho _ rfl)) hq
  cases hx : (oBx x).1 E with
  | none => rw [hx] at hq; cases hq
  | some m =>
    rw [hx] at hq
    have ox := o_ok hE hx
    split at hq
    · rename_i hm
      cases hm
      simp only [toV, Option.some.injEq] at ox
      obtain ⟨g1, g2, g3, g4⟩ := go _ (.mapIter none 0 #[] 0) (fun nm hn => by subst hn; exact ⟨rfl, none, ins_eq _ _ _, rfl⟩) hq
      refine ⟨_, _, _, ?_, g2, g3, g4⟩
      unfold Instr.range
      simp only [Sem.run_bind, run_underlying hu, Result.andThen_ok, ← ox, Sem.run_pure]
      exact g1
    · rename_i b hm
      cases hm
      cases he : asM (H.at b) with
      | none => rw [he] at hq; cases hq
      | some es =>
        rw [he] at hq
        simp only at hq
        obtain ⟨nm, xs, n1, n2, n3, n4, n5⟩ := map_at (m := .mp b) hH rfl ox he
        have hbw := hw _ _ n4
        have hg : (getObj nm.b).run P w = .ok (.map xs.toArray es.2) w := by simp [getObj, Sem.run, hbw]
        obtain ⟨g1, g2, g3, g4⟩ := go _ (.mapIter (some nm.b) es.2 #[] es.2) (fun nm' hn => by subst hn; exact ⟨rfl, some nm.b, ins_eq _ _ _, nm, (Ext.one ns _).get n1, rfl⟩) hq
        refine ⟨_, _, _, ?_, g2, g3, g4⟩
        unfold Instr.range
        simp only [Sem.run_bind, run_underlying hu, Result.andThen_ok, n3, hg, Sem.run_pure]
        exact g1
    · cases hq

/-! ### a step -/
theorem hasN_eq : ∀ (l : List Nat) (n : Nat), hasN l n = l.contains n
  | [], n => rfl
  | a :: l, n => by
    simp only [hasN, List.contains_cons]
    cases hb : Nat.beq a n with
    | true =>
      have := Nat.eq_of_beq_eq_true hb
      subst this
      simp
    | false =>
      have hne := Nat.ne_of_beq_eq_false hb
      rw [hasN_eq l n]
      have : (n == a) = false := by simpa using fun e => hne e.symm
      simp [this]
theorem toEs_filter (p : Nat → Bool) : ∀ {es : List (CV × CV × Nat)} {xs : List MapEntry}, toEs ns es = some xs → toEs ns (es.filter fun e => p e.2.2) = some (xs.filter fun e => p e.born)
  | [], xs, h => by simp [toEs] at h; subst h; rfl
  | (k', v', n') :: es, xs, h => by
    obtain ⟨a, b, r, h1, h2, h3, rfl⟩ := toEs_cons h
    simp only [List.filter_cons]
    cases p n' with
    | true => exact toEs_mk h1 h2 (toEs_filter p h3)
    | false => exact toEs_filter p h3
theorem toEs_all (p : Nat → Bool) : ∀ {es : List (CV × CV × Nat)} {xs : List MapEntry}, toEs ns es = some xs → (es.all fun e => p e.2.2) = (xs.all fun e => p e.born)
  | [], xs, h => by simp [toEs] at h; subst h; rfl
  | (k', v', n') :: es, xs, h => by
    obtain ⟨a, b, r, h1, h2, h3, rfl⟩ := toEs_cons h
    simp only [List.all_cons, toEs_all p h3]
theorem toEs_at : ∀ {es : List (CV × CV × Nat)} {xs : List MapEntry} {i : Nat} {e : MapEntry}, toEs ns es = some xs → xs[i]? = some e → ∃ k v n, (k, v, n) ∈ es ∧ toV ns k = some e.key ∧ toV ns v = some e.val ∧ n = e.born
  | [], xs, i, e, h, hi => by simp [toEs] at h; subst h; simp at hi
  | (k', v', n') :: es, xs, 0, e, h, hi => by
    obtain ⟨a, b, r, h1, h2, h3, rfl⟩ := toEs_cons h
    simp only [List.getElem?_cons_zero, Option.some.injEq] at hi
    subst hi
    exact ⟨k', v', n', by simp, h1, h2, rfl⟩
  | (k', v', n') :: es, xs, i + 1, e, h, hi => by
    obtain ⟨a, b, r, h1, h2, h3, rfl⟩ := toEs_cons h
    simp only [List.getElem?_cons_succ] at hi
    obtain ⟨k, v, n, g1, g2, g3, g4⟩ := toEs_at h3 hi
    exact ⟨k, v, n, List.mem_cons_of_mem _ g1, g2, g3, g4⟩
theorem run_mapNext {n : Nat} (hn : 0 < n) (w : World) : ∃ j d, j < n ∧ (choose (.mapNext n)).run P w = .ok j { w with drawn := d } := by
  by_cases hf : n ≤ 1
  · exact ⟨0, w.drawn, hn, by simp [choose, Sem.run, Question.forced, hf]⟩
  · exact ⟨w.tape w.drawn (.mapNext n) % n, w.drawn + 1, Nat.mod_lt _ hn, by simp only [choose, Sem.run, Question.forced, decide_eq_true_eq, hf, if_false, Question.cut]⟩
theorem iter_at (hH : RelH P ns H h) {r : Nat} {x : Value} {mp : Option Nat} {since stepped : Nat} {seen : List Nat} (hx : toV ns (.ptr r 0) = some x) (hi : H.at r = some (.iter mp since seen stepped)) :
    ∃ nm mp', ns[r]? = some nm ∧ nm.o = 0 ∧ x = .pointer (some ⟨nm.b, 0, none⟩) ∧ h nm.b = some (.mapIter mp' since seen.toArray stepped) ∧ (mp = none → mp' = none) ∧ (∀ b, mp = some b → ∃ k, ns[b]? = some k ∧ mp' = some k.b) := by
  obtain ⟨nm, h1, rfl⟩ := toV_ptr hx
  obtain ⟨m', h2, h3, mp', h4, h5⟩ := hH.obj r _ hi
  rw [h1] at h2; cases h2
  refine ⟨nm, mp', h1, h3, by rw [h3], h4, fun e => ?_, fun b e => ?_⟩
  · subst e; exact h5
  · subst e; exact h5
theorem run_setObjI {w : World} {b : Nat} {m : Option Nat} {s : Nat} {a : Array Nat} {c : Nat} (hb : w.heap[b]? = some (.mapIter m s a c)) (p : Obj) : (setObj b p).run P w = .ok () { w with heap := w.heap.setIfInBounds b p } := by simp [setObj, Sem.run, hb]
theorem next_ok (hH : RelH P ns H h) {it : CV} {x : Value} {ty : TypeId} (hx : toV ns it = some x) (hq : xNext it H k = true) (hk : KOK P ns k K) :
    ∀ w, Holds h w → ∃ v w' h', (Instr.next x false ty).run P w = .ok v w' ∧ Holds h' w' ∧ Framed h h' w w' ∧ K v h' := by
  intro w hw
  unfold xNext at hq
  split at hq
  · rename_i r
    split at hq
    · rename_i since seen stepped hi
      obtain ⟨nm, mp', n1, n2, rfl, n4, n6⟩ := iter_at hH hx hi
      obtain rfl := n6.1 rfl
      have hbw := hw _ _ n4
      have hg : (getObj nm.b).run P w = .ok (.mapIter none since seen.toArray stepped) w := by simp [getObj, Sem.run, hbw]
      refine ⟨_, w, h, ?_, hw, Framed.refl h w, hk _ _ _ _ _ (Ext.refl ns) (show toV ns (.tup [.bool false]) = some (.tuple #[.bool false]) from rfl) hH hq⟩
      unfold Instr.next
      simp only [Sem.run_bind, hg, Result.andThen_ok, Sem.run_pure]
    · rename_i m since seen stepped hi
      obtain ⟨nm, mp', n1, n2, rfl, n4, n6⟩ := iter_at hH hx hi
      obtain ⟨nb, n5, rfl⟩ := n6.2 _ rfl
      have hbw := hw _ _ n4
      have hg : (getObj nm.b).run P w = .ok (.mapIter (some nb.b) since seen.toArray stepped) w := by simp [getObj, Sem.run, hbw]
      cases he : asM (H.at m) with
      | none => rw [he] at hq; cases hq
      | some es =>
        rw [he] at hq
        simp only at hq
        obtain ⟨nb', xs, m1, m2, m3, m4, m5⟩ := map_at (m := .mp m) hH rfl (show toV ns (.mp m) = some (.map (some nb.b)) by simp only [toV, n5]) he
        rw [n5] at m1; cases m1
        have hbm := hw _ _ m4
        have hgm : (getObj nb.b).run P w = .ok (.map xs.toArray es.2) w := by simp [getObj, Sem.run, hbm]
        split at hq
        · cases hq
        · rename_i hc
          split at hq
          · cases hq
          · rename_i hold
            have hlen := toEs_len m5
            have hcond : (!seen.toArray.isEmpty && !xs.toArray.isEmpty && xs.toArray.all (fun x => decide (x.born ≥ stepped))) = false := by
              have e1 : seen.toArray.isEmpty = seen.isEmpty := by simp
              have e2 : xs.toArray.isEmpty = es.1.isEmpty := by
                cases h1 : es.1 <;> cases h2 : xs <;> simp_all
              have e3 : (xs.toArray.all fun x => decide (x.born ≥ stepped)) = es.1.all (fun e => Nat.ble stepped e.2.2) := by
                rw [toEs_all (fun n => Nat.ble stepped n) m5, List.all_toArray]
                congr 1
                funext y
                rw [Bool.eq_iff_iff]; simp
              rw [e1, e2, e3]
              exact hc
            have fl := toEs_filter (fun n => !hasN seen n) m5
            have fr : (xs.toArray.filter fun e => !seen.toArray.contains e.born) = (xs.filter fun e => !hasN seen e.born).toArray := by
              rw [List.filter_toArray]
              congr 1
              apply List.filter_congr
              intro y _
              rw [hasN_eq]; simp
            rw [toEs_all (fun n => Nat.blt n since) fl] at hold
            generalize hL : xs.filter (fun e => !hasN seen e.born) = L at fl fr hold
            have hmem : ∀ y ∈ L, y.born < since := fun y hy => blt_iff.1 (List.all_eq_true.1 hold y hy)
            have e1 : L.toArray.filter (fun x => decide (x.born < since)) = L.toArray := Array.filter_eq_self.2 (fun x hx => by simpa using hmem x (by simpa using hx))
            have e2 : L.toArray.filter (fun x => decide (x.born ≥ since)) = #[] := by
              rw [Array.filter_eq_empty_iff]
              intro x hx
              have := hmem x (by simpa using hx)
              simp
              omega
            have start : (Instr.next (.pointer (some ⟨nm.b, 0, none⟩)) false ty).run P w = (do
                match ((if L.toArray.isEmpty then #[none] else #[]) ++ L.toArray.map some)[← choose (.mapNext ((if L.toArray.isEmpty then #[none] else #[]) ++ L.toArray.map some).size)]? with
                | some (some e) =>
                  setObj nm.b (.mapIter (some nb.b) since (seen.toArray.push e.born) es.2)
                  pure (.tuple #[.bool true, e.key, e.val])
                | some none => pure (.tuple #[.bool false])
                | none => stuck "Next: no such candidate" : Sem Value).run P w := by
              unfold Instr.next
              simp only [Sem.run_bind, hg, Result.andThen_ok, hgm, hcond, Bool.false_eq_true, if_false, fr, e1, e2, Array.append_empty]
              rfl
            rw [start]
            cases L with
            | nil =>
              cases hce : es.1.filter (fun e => !hasN seen e.2.2) with
              | cons a l =>
                rw [hce] at fl
                obtain ⟨a1, a2, a3⟩ := a
                obtain ⟨_, _, _, _, _, _, h5⟩ := toEs_cons fl
                cases h5
              | nil =>
                rw [hce] at hq
                simp only at hq
                refine ⟨_, w, h, ?_, hw, Framed.refl h w, hk _ _ _ _ _ (Ext.refl ns) (show toV ns (.tup [.bool false]) = some (.tuple #[.bool false]) from rfl) hH hq⟩
                simp [choose, Sem.run, Question.forced]
            | cons y L =>
              cases hce : es.1.filter (fun e => !hasN seen e.2.2) with
              | nil =>
                rw [hce] at fl
                simp [toEs] at fl
              | cons a l =>
                rw [hce] at hq
                simp only at hq
                obtain ⟨j, d, hj, hrun⟩ := run_mapNext (P := P) (n := (y :: L).length) (by simp) w
                obtain ⟨e, hej⟩ : ∃ e, (y :: L)[j]? = some e := ⟨_, List.getElem?_eq_getElem hj⟩
                obtain ⟨k', v', n', g1, g2, g3, g4⟩ := toEs_at fl hej
                rw [hce] at g1
                have hqe := List.all_eq_true.1 hq _ g1
                simp only at hqe
                have hwd : ({ w with drawn := d } : World).heap[nm.b]? = some (.mapIter (some nb.b) since seen.toArray stepped) := hbw
                obtain ⟨s1, s2⟩ := set_world hw n4 (.mapIter (some nb.b) since (seen.toArray.push e.born) es.2) d
                refine ⟨.tuple #[.bool true, e.key, e.val], _, _, ?_, s1, s2, ?_⟩
                · have emp : (y :: L).toArray.isEmpty = false := by simp
                  have hsz : ((y :: L).toArray.map some).size = (y :: L).length := by simp
                  rw [emp]
                  simp only [Bool.false_eq_true, if_false, Array.empty_append, hsz, Sem.run_bind, hrun, Result.andThen_ok]
                  have hget : ((y :: L).toArray.map some)[j]? = some (some e) := by simp only [Array.getElem?_map, List.getElem?_toArray, hej, Option.map_some]
                  rw [hget]
                  simp only [Sem.run_bind, run_setObjI hwd, Result.andThen_ok, Sem.run_pure]
                · refine hk ns _ _ _ _ (Ext.refl ns) (mk_tup (toVs_mk rfl (toVs_mk g2 (toVs_mk g3 rfl)))) (hH.set (o := .iter (some m) since (seen ++ [n']) es.2) hi n1 ⟨n2, some nb.b, ?_, nb, n5, rfl⟩) hqe
                  rw [ins_eq, List.push_toArray, g4]
    · cases hq
  · cases hq
theorem entry_ok (hH : RelH P ns H h) {it v : CV} {x : Value} (hx : toV ns it = some x) (hq : xEntry it H = some v) :
    ∃ y, toV ns v = some y ∧ ∀ w, Holds h w → (Instr.entry x).run P w = .ok y w := by
  unfold xEntry at hq
  split at hq
  · rename_i r
    split at hq
    · rename_i m since seen stepped hi
      obtain ⟨nm, mp', n1, n2, rfl, n4, n6⟩ := iter_at hH hx hi
      obtain ⟨nb, n5, rfl⟩ := n6.2 _ rfl
      split at hq
      · rename_i es stamp he hs
        split at hq
        · rename_i e hc hf
          cases hq
          obtain ⟨nb', xs, m1, m2, m3, m4, m5⟩ := map_at (m := .mp m) hH rfl (show toV ns (.mp m) = some (.map (some nb.b)) by simp only [toV, n5]) he
          rw [n5] at m1; cases m1
          have find : ∀ {es : List (CV × CV × Nat)} {xs : List MapEntry} {e : CV × CV × Nat}, toEs ns es = some xs → es.find? (fun e => Nat.beq e.2.2 stamp) = some e → ∃ y, xs.find? (fun e => e.born == stamp) = some y ∧ toV ns e.1 = some y.key ∧ toV ns e.2.1 = some y.val := by
            intro es
            induction es with
            | nil => intro xs e h1 h2; simp at h2
            | cons a es ih =>
              intro xs e h1 h2
              obtain ⟨k', v', n'⟩ := a
              obtain ⟨a, b, r, t1, t2, t3, rfl⟩ := toEs_cons h1
              simp only [List.find?_cons] at h2 ⊢
              cases hb : Nat.beq n' stamp with
              | true =>
                rw [hb] at h2
                cases h2
                have := Nat.eq_of_beq_eq_true hb
                subst this
                exact ⟨_, by simp; rfl, t1, t2⟩
              | false =>
                rw [hb] at h2
                have hne := Nat.ne_of_beq_eq_false hb
                have : (n' == stamp) = false := by simpa using hne
                rw [this]
                exact ih t3 h2
          obtain ⟨y, y1, y2, y3⟩ := find m5 hf
          refine ⟨.tuple #[y.key, y.val], mk_tup (toVs_mk y2 (toVs_mk y3 rfl)), fun w hw => ?_⟩
          have hbw := hw _ _ n4
          have hbm := hw _ _ m4
          have hg : (getObj nm.b).run P w = .ok (.mapIter (some nb.b) since seen.toArray stepped) w := by simp [getObj, Sem.run, hbw]
          have hgm : (getObj nb.b).run P w = .ok (.map xs.toArray es.2) w := by simp [getObj, Sem.run, hbm]
          have hst : (es.2 != stepped) = false := by have := Nat.eq_of_beq_eq_true hc; simpa using this
          have hbk : seen.toArray.back? = some stamp := by simpa using hs
          have hfd : xs.toArray.find? (fun e => e.born == stamp) = some y := by simpa using y1
          unfold Instr.entry
          simp only [Sem.run_bind, hg, Result.andThen_ok, hbk, hgm, hst, Bool.false_eq_true, if_false, hfd, Sem.run_pure]
        · cases hq
      · cases hq
    · cases hq
  · cases hq
end
end Go.Px

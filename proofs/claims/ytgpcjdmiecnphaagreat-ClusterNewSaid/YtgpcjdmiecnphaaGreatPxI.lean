/- Maps: looked up; and all that leaves memory as it is. -/
import Derived.Test.YtgpcjdmiecnphaaGreatPxH
set_option linter.unusedSimpArgs false
set_option linter.unusedVariables false
namespace Go.Px
open Go Go.Pw
section
variable {P : Program} {ns : List Nm} {E : CE} {ρ : Env} {H : CH} {h : PH}

/-- What is found, and what it stands for. -/
def RelR (ns : List Nm) : Option (Nat × CV) → Option (Nat × Value) → Prop
  | none, none => True
  | some (i, v), some (j, y) => i = j ∧ toV ns v = some y
  | _, _ => False
theorem findNow_ok {k : CV} {kv : Value} {d : TypeDesc} (hs : ∀ k' b, eqK k k' = some b → ∀ kv', toV ns k' = some kv' → Instr.sameNow d kv kv' = some b) :
    ∀ {es : List (CV × CV × Nat)} {es' : List MapEntry} {i : Nat} {r : Option (Nat × CV)}, findX k es i = some r → toEs ns es = some es' → ∃ r', Instr.findNow d kv es' i = some r' ∧ RelR ns r r'
  | [], es', i, r, h1, h2 => by
    simp only [toEs, Option.some.injEq] at h2
    subst h2
    simp only [findX, Option.some.injEq] at h1
    subst h1
    exact ⟨none, rfl, trivial⟩
  | (k', v, n) :: es, es', i, r, h1, h2 => by
    obtain ⟨a, b, r0, e1, e2, e3, rfl⟩ := toEs_cons h2
    simp only [findX] at h1
    cases hk : eqK k k' with
    | none => rw [hk] at h1; cases h1
    | some q =>
      rw [hk] at h1
      have hq := hs k' q hk a e1
      simp only [Instr.findNow, hq]
      cases q with
      | true => simp only [Option.some.injEq] at h1; subst h1; exact ⟨_, rfl, rfl, e2⟩
      | false => exact findNow_ok hs h1 e3
theorem findAsk_ok {k : CV} {kv : Value} {kt : TypeId} (hs : ∀ k' b, eqK k k' = some b → ∀ kv', toV ns k' = some kv' → pureRun P (Op.equal kt kv kv') = some b) :
    ∀ {es : List (CV × CV × Nat)} {es' : List MapEntry} {i : Nat} {r : Option (Nat × CV)}, findX k es i = some r → toEs ns es = some es' → ∃ r', pureRun P (Instr.findAsking kt kv es' i) = some r' ∧ RelR ns r r'
  | [], es', i, r, h1, h2 => by
    simp only [toEs, Option.some.injEq] at h2
    subst h2
    simp only [findX, Option.some.injEq] at h1
    subst h1
    exact ⟨none, rfl, trivial⟩
  | (k', v, n) :: es, es', i, r, h1, h2 => by
    obtain ⟨a, b, r0, e1, e2, e3, rfl⟩ := toEs_cons h2
    simp only [findX] at h1
    cases hk : eqK k k' with
    | none => rw [hk] at h1; cases h1
    | some q =>
      rw [hk] at h1
      have hq := hs k' q hk a e1
      simp only [Instr.findAsking]
      rw [pureRun_bind _ hq]
      cases q with
      | true => simp only [Option.some.injEq] at h1; subst h1; exact ⟨_, rfl, rfl, e2⟩
      | false => exact findAsk_ok hs h1 e3
theorem eqK_int {j : IntKind} {a : Int} {k' : CV} {b : Bool} (hq : eqK (.int j a) k' = some b) : ∃ a', k' = .int j a' ∧ b = (a == a') := by
  cases k' <;> simp only [eqK, reduceCtorEq] at hq
  rename_i j1 b1
  cases hb : kb j j1 <;> rw [hb] at hq <;> simp only [reduceCtorEq, Option.some.injEq] at hq
  have : j = j1 := by unfold kb at hb; split at hb <;> first | (rename_i h'; simpa using h') | cases hb
  subst this
  exact ⟨_, rfl, hq.symm⟩
theorem eqK_str {l : List Nat} {k' : CV} {b : Bool} (hq : eqK (.str l) k' = some b) : ∃ m, k' = .str m ∧ b = eqN l m := by
  cases k' <;> simp only [eqK, reduceCtorEq] at hq
  simp only [Option.some.injEq] at hq
  exact ⟨_, rfl, hq.symm⟩
theorem eqK_pair {l : List CV} {k' : CV} {b : Bool} (hq : eqK (.agg l) k' = some b) : ∃ m, k' = .agg m := by
  cases k'
  case agg m => exact ⟨m, rfl⟩
  all_goals
    exfalso
    rcases l with _ | ⟨u1, _ | ⟨u2, _ | ⟨u3, l⟩⟩⟩
    all_goals first
      | (simp [eqK] at hq; done)
      | (cases u1 <;> first | (simp [eqK] at hq; done) | (cases u2 <;> simp [eqK] at hq; done))
theorem keyOK_kind {kt : TypeId} {k : CV} (hk : keyOK P kt k = true) : (∃ j a k1, k = .int j a ∧ P.underlying kt = some (.int k1)) ∨ (∃ l, k = .str l ∧ P.underlying kt = some .string) ∨ (∃ j a l, k = .agg [.int j a, .str l]) := by
  unfold keyOK at hk
  split at hk
  · split at hk
    · rename_i hu; exact .inl ⟨_, _, _, rfl, hu⟩
    · cases hk
  · split at hk
    · rename_i hu; exact .inr (.inl ⟨_, rfl, hu⟩)
    · cases hk
  · exact .inr (.inr ⟨_, _, _, rfl⟩)
  · cases hk
/-- A key of a kind that the executor takes: it may be asked for, and what is found is what is found. -/
theorem key_ok {kt : TypeId} {k : CV} {kv : Value} (hk : keyOK P kt k = true) (hv : toV ns k = some kv) :
    (∀ ee n, pureRun P (Instr.checkKey ee (n + 2) kt kv) = some ()) ∧
    ∀ {es : List (CV × CV × Nat)} {es' : List MapEntry} {r : Option (Nat × CV)}, findX k es 0 = some r → toEs ns es = some es' → ∃ r', pureRun P (Instr.findKey kt kv es') = some r' ∧ RelR ns r r' := by
  rcases keyOK_kind hk with ⟨j, a, k1, rfl, hu⟩ | ⟨l, rfl, hu⟩ | ⟨j, a, l, rfl⟩
  · simp only [toV, Option.some.injEq] at hv
    subst hv
    refine ⟨fun ee n => by rw [Instr.checkKey, pureRun_bind _ (pureRun_underlying hu)]; rfl, fun h1 h2 => ?_⟩
    obtain ⟨r', q1, q2⟩ := findNow_ok (d := .int k1) (kv := .int j a) (fun k' b hb kv' hkv' => by
      obtain ⟨a', rfl, rfl⟩ := eqK_int hb
      simp only [toV, Option.some.injEq] at hkv'
      subst hkv'
      simp [Instr.sameNow]) h1 h2
    refine ⟨r', ?_, q2⟩
    unfold Instr.findKey
    rw [pureRun_bind _ (pureRun_underlying hu)]
    simp only [q1]
    rfl
  · rw [toV_str hv]
    refine ⟨fun ee n => by rw [Instr.checkKey, pureRun_bind _ (pureRun_underlying hu)]; rfl, fun h1 h2 => ?_⟩
    obtain ⟨r', q1, q2⟩ := findNow_ok (d := .string) (kv := .string (bytesN l)) (fun k' b hb kv' hkv' => by
      obtain ⟨m, rfl, rfl⟩ := eqK_str hb
      rw [toV_str hkv', ← bytesN_beq]
      rfl) h1 h2
    refine ⟨r', ?_, q2⟩
    unfold Instr.findKey
    rw [pureRun_bind _ (pureRun_underlying hu)]
    simp only [q1]
    rfl
  · obtain ⟨f, g, k1, g0, g1, g2, g3, g4, g5, g6, g7⟩ := keyOK_agg hk
    simp only [toV, toVs, Option.some.injEq] at hv
    subst hv
    have p1 : pureRun P (part f.type #[.int j a, .string (bytesN l)] f.offset) = some (.int j a) := part_one g1 rfl (by rw [g3]; rfl)
    have p2 : pureRun P (part g.type #[.int j a, .string (bytesN l)] g.offset) = some (.string (bytesN l)) := part_one g2 rfl (by rw [g4]; rfl)
    refine ⟨fun ee n => ?_, fun {es es' r} h1 h2 => ?_⟩
    · rw [Instr.checkKey, pureRun_bind _ (pureRun_underlying g0)]
      have c1 : pureRun P (Instr.checkKey ee (n + 1) f.type (.int j a)) = some () := by rw [Instr.checkKey, pureRun_bind _ (pureRun_underlying g1)]; rfl
      have c2 : pureRun P (Instr.checkKey ee (n + 1) g.type (.string (bytesN l))) = some () := by rw [Instr.checkKey, pureRun_bind _ (pureRun_underlying g2)]; rfl
      simp only [Array.forIn_toList.symm, List.forIn_cons, List.forIn_nil, bind_assoc, ne_eq, g5, g6, not_false_eq_true, if_true]
      rw [pureRun_bind _ p1, pureRun_bind _ c1]
      simp only [pure_bind, bind_assoc]
      rw [pureRun_bind _ p2, pureRun_bind _ c2]
      rfl
    · have ask := findAsk_ok (P := P) (ns := ns) (kt := kt) (k := .agg [.int j a, .str l]) (kv := .agg #[.int j a, .string (bytesN l)]) (fun k' b hb kv' hkv' => by
        obtain ⟨m, rfl⟩ := eqK_pair hb
        obtain ⟨j1, a1, s1, j2, a2, s2, e1, rfl⟩ := eqK_shape hb
        cases e1
        obtain ⟨rfl, rfl⟩ := eqK_agg hb
        simp only [toV, toVs, Option.some.injEq] at hkv'
        subst hkv'
        exact eq_pair 9998 g0 g1 g2 g3 g4 g5 g6 g7 _ _ _ _) h1 h2
      obtain ⟨r', q1, q2⟩ := ask
      refine ⟨r', ?_, q2⟩
      unfold Instr.findKey
      rw [pureRun_bind _ (pureRun_underlying g0)]
      cases es' with
      | nil => exact q1
      | cons e es'' => exact q1
/-- A map's entries. -/
theorem entries_ok (hH : RelH P ns H h) {m : CV} {x : Value} {es : List (CV × CV × Nat)} (hx : toV ns m = some x) (hq : entriesX H m = some es) : (x = .map none ∧ es = []) ∨ ∃ b es' clock, x = .map (some b) ∧ h b = some (.map es' clock) ∧ toEs ns es = some es'.toList := by
  unfold entriesX at hq
  split at hq
  · cases hq
    simp only [toV, Option.some.injEq] at hx
    exact .inl ⟨hx.symm, rfl⟩
  · rename_i b
    cases hm : asM (H.at b) with
    | none => rw [hm] at hq; cases hq
    | some p =>
      rw [hm] at hq
      cases hq
      obtain ⟨m', h1, h2, es', h3, h4⟩ := hH.obj b _ (asM_ok hm)
      obtain ⟨m'', e1, rfl⟩ := toV_mp hx
      rw [h1] at e1; cases e1
      exact .inr ⟨_, _, _, rfl, h3, by simpa using h4⟩
  · cases hq
theorem zv_ok {e : TypeId} {z : CV} (hz : zvOf P e = some z) : ∃ zv, pureRun P (zeroValue e) = some zv ∧ toV ns z = some zv := by
  unfold zvOf at hz
  cases hi : P.info? e with
  | none => rw [hi] at hz; cases hz
  | some i =>
    rw [hi] at hz
    simp only at hz
    cases hzz : i.zero with
    | none => rw [hzz] at hz; cases hz
    | some zv =>
      rw [hzz] at hz
      have ti : pureRun P (typeInfo e) = some i := by unfold typeInfo; rw [pureRun_bind _ pureRun_program]; simp only [hi]; rfl
      exact ⟨zv, by unfold zeroValue; rw [pureRun_bind _ ti]; simp only [hzz]; rfl, ofV_ok hz⟩
/-- What a lookup comes to. -/
def lookV (zv : Value) (ok : Bool) : Option (Nat × Value) → Value
  | some p => match ok with | true => .tuple #[p.2, .bool true] | false => p.2
  | none => match ok with | true => .tuple #[zv, .bool false] | false => zv
theorem look_run {t kt e : TypeId} {x ix zv : Value} {ok : Bool} {w : World} {es : Array MapEntry} {r : Option (Nat × Value)} (hu : P.underlying t = some (.map kt e)) (hx : (x = .map none ∧ es = #[]) ∨ ∃ b clock, x = .map (some b) ∧ w.heap[b]? = some (.map es clock))
    (c1 : ∀ ee n, pureRun P (Instr.checkKey ee (n + 2) kt ix) = some ()) (c2 : pureRun P (Instr.findKey kt ix es.toList) = some r) (z1 : pureRun P (zeroValue e) = some zv) : (Instr.lookup t x ix ok).run P w = .ok (lookV zv ok r) w := by
  rcases hx with ⟨rfl, rfl⟩ | ⟨b, clock, rfl, hb⟩
  · unfold Instr.lookup
    simp only [Sem.run_bind, run_underlying hu, Result.andThen_ok, Sem.run_pure]
    rw [show (10000 : Nat) = 9998 + 2 from rfl, pureRun_run w _ (c1 _ _), Result.andThen_ok, pureRun_run w _ c2, Result.andThen_ok]
    cases r with
    | none => cases ok <;> simp [Sem.run_bind, pureRun_run w _ z1, lookV]
    | some p => cases ok <;> simp [lookV]
  · have hg : (getObj b).run P w = .ok (.map es clock) w := by simp [getObj, Sem.run, hb]
    unfold Instr.lookup
    simp only [Sem.run_bind, run_underlying hu, Result.andThen_ok, hg, Sem.run_pure]
    rw [show (10000 : Nat) = 9998 + 2 from rfl, pureRun_run w _ (c1 _ _), Result.andThen_ok, pureRun_run w _ c2, Result.andThen_ok]
    cases r with
    | none => cases ok <;> simp [Sem.run_bind, pureRun_run w _ z1, lookV]
    | some p => cases ok <;> simp [lookV]
theorem look_ok (hE : RelE ns E ρ) (hH : RelH P ns H h) {t kt e : TypeId} {z v : CV} {ok : Bool} {x ix : Operand} (hu : P.underlying t = some (.map kt e)) (hz : zvOf P e = some z) (hq : (hLk (hLook P kt z ok) x ix).1 E H = some v) :
    ∃ y, toV ns v = some y ∧ ∀ w, Holds h w → (Instr.lookup t (evalE ρ x) (evalE ρ ix) ok).run P w = .ok y w := by
  simp only [hLk] at hq
  cases hx : (oBx x).1 E with
  | none => rw [hx] at hq; cases hq
  | some m =>
    cases hi : (oBx ix).1 E with
    | none => rw [hx, hi] at hq; cases hq
    | some k =>
      rw [hx, hi] at hq
      simp only [hLook] at hq
      cases hk : keyOK P kt k with
      | false => rw [hk] at hq; cases hq
      | true =>
        rw [hk] at hq
        simp only at hq
        cases he : entriesX H m with
        | none => rw [he] at hq; cases hq
        | some es =>
          rw [he] at hq
          simp only at hq
          cases hf : findX k es 0 with
          | none => rw [hf] at hq; cases hq
          | some r =>
            rw [hf] at hq
            have vx := o_ok hE hx
            have vi := o_ok hE hi
            obtain ⟨c1, c2⟩ := key_ok hk vi
            obtain ⟨zv, z1, z2⟩ := zv_ok (ns := ns) hz
            have fin : ∀ (r' : Option (Nat × Value)), RelR ns r r' → toV ns v = some (lookV zv ok r') := fun r' hr => by
              cases r with
              | none =>
                cases r' with
                | some _ => exact hr.elim
                | none => cases ok <;> simp only [lookR, Option.some.injEq] at hq <;> subst hq <;> first | exact z2 | exact mk_tup (toVs_mk z2 (toVs_mk rfl rfl))
              | some p =>
                cases r' with
                | none => exact hr.elim
                | some p' =>
                  obtain ⟨_, hv⟩ := hr
                  cases ok <;> simp only [lookR, Option.some.injEq] at hq <;> subst hq <;> first | exact hv | exact mk_tup (toVs_mk hv (toVs_mk rfl rfl))
            rcases entries_ok hH vx he with ⟨e1, rfl⟩ | ⟨b, es', clock, e1, e2, e3⟩
            · obtain ⟨r', q1, q2⟩ := c2 (es' := []) hf rfl
              exact ⟨_, fin r' q2, fun w hw => look_run hu (.inl ⟨e1, rfl⟩) c1 q1 z1⟩
            · obtain ⟨r', q1, q2⟩ := c2 hf e3
              exact ⟨_, fin r' q2, fun w hw => look_run hu (.inr ⟨b, clock, e1, hw b _ e2⟩) c1 q1 z1⟩
end
end Go.Px

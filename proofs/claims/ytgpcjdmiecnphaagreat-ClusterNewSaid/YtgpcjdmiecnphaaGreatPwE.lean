/- The words of PwC tell the truth of the model's operations: those that leave memory as it is, and those that lay a block. -/
import Derived.Test.YtgpcjdmiecnphaaGreatPwD
set_option linter.unusedSimpArgs false
set_option linter.unusedVariables false
namespace Go.Pw
open Go
section
variable {P : Program} {ρ : Env} {h : PH} {qf : FuncId → Bool}

theorem add_lit (b o n : Nat) : (⟨b, o, none⟩ : Addr).add n = ⟨b, o + n, none⟩ := by
  unfold Addr.add; split <;> simp_all

theorem run_fieldPlace {f : Field} {n : Nat} (hs : sizeOf' P f.type = some (n + 1)) (a : Addr) (w : World) : (fieldPlace a f).run P w = .ok (a.add f.offset) w := by
  unfold fieldPlace
  rw [Sem.run_bind, sizeOf'_run hs w]
  simp [Result.andThen]

theorem run_builtin (s : Sem Value) {v : Value} {w : World} (hs : s.run P w = .ok v w) : (do pure (Next.value (← s)) : Sem Next).run P w = .ok (.value v) w := run_v s hs

/-- What an operation says of itself, whatever the world. -/
def Says (P : Program) (o : Oper) (ρ : Env) (v : Value) : Prop := ∀ w, (execOp (evalE ρ) o).run P w = .ok (.value v) w

theorem denQ_pure {o : Oper} {K : Value → Prop} (hc : clsOf P qf o = .pure) (hd : denQ P o ρ h K) : ∃ v, Says P o ρ v ∧ K v := by
  obtain ⟨dst, op, type, pos, after, guard⟩ := o
  cases op <;> simp only [denQ, clsOf] at hd hc
  case move x => exact ⟨_, fun w => rfl, hd⟩
  case assign x => exact ⟨_, fun w => rfl, hd⟩
  case pick c a b =>
    obtain ⟨t, ht, hk⟩ := hd
    refine ⟨_, fun w => ?_, hk⟩
    simp only [execOp, ht, asBool]
    cases t <;> simp
  case binOp op t x y yt =>
    obtain ⟨v, hv, hk⟩ := hd
    exact ⟨v, fun w => run_v _ (hv x y w), hk⟩
  case unOp op t x =>
    obtain ⟨v, hv, hk⟩ := hd
    exact ⟨v, fun w => run_v _ (pureRun_run w _ hv), hk⟩
  case extract x i =>
    obtain ⟨vs, v, hx, hv, hk⟩ := hd
    refine ⟨v, fun w => run_v _ ?_, hk⟩
    simp only [Instr.extract, hx, hv]; rfl
  case field t x i =>
    cases hu : P.underlying t with
    | none => rw [hu] at hd; exact hd.elim
    | some d =>
      rw [hu] at hd
      cases d <;> simp only at hd
      case struct fs =>
        cases hf : fs.toList[i]? with
        | none => rw [hf] at hd; exact hd.elim
        | some f =>
          rw [hf] at hd
          simp only at hd
          cases hs : szOf P f.type with
          | none => rw [hs] at hd; exact hd.elim
          | some sz =>
            rw [hs] at hd
            obtain ⟨cs, hx, hk⟩ := hd
            obtain ⟨v, hv, hk⟩ := cellsAt_fun hk
            refine ⟨v, fun w => run_v _ ?_, hk⟩
            obtain ⟨v', h1, h2⟩ := run_part hs (hv (fun u => u = v) rfl) w
            subst h2
            have hf' : fs[i]? = some f := by rw [← hf]; simp
            simp only [Instr.field, Sem.run_bind, run_underlying hu, Result.andThen, hf', hx, asAgg, Sem.run_pure, h1]
  case fieldAddr t x i =>
    cases hu : P.underlying t with
    | none => rw [hu] at hd; exact hd.elim
    | some d =>
      rw [hu] at hd
      cases d <;> simp only at hd
      case struct fs =>
        cases hf : fs.toList[i]? with
        | none => rw [hf] at hd; exact hd.elim
        | some f =>
          rw [hf] at hd
          simp only at hd
          cases hs : sizeOf' P f.type with
          | none => rw [hs] at hd; exact hd.elim
          | some n =>
            rw [hs] at hd
            cases n with
            | zero => exact hd.elim
            | succ n =>
              obtain ⟨b, o, hx, hk⟩ := hd
              refine ⟨_, fun w => run_v _ ?_, hk⟩
              have hf' : fs[i]? = some f := by rw [← hf]; simp
              simp only [Instr.fieldAt, Sem.run_bind, run_underlying hu, Result.andThen, hf', hx, Instr.sureAddr, Sem.run_pure, run_fieldPlace hs, add_lit]
  case indexAddr t x ix =>
    cases hu : P.underlying t with
    | none => rw [hu] at hd; exact hd.elim
    | some d =>
      rw [hu] at hd
      cases d <;> simp only at hd
      case array len e =>
        cases hs : sizeOf' P e with
        | none => rw [hs] at hd; exact hd.elim
        | some n =>
          rw [hs] at hd
          obtain ⟨b, o, k, i, hx, hi, h0, hl, hk⟩ := hd
          refine ⟨_, fun w => run_v _ ?_, hk⟩
          simp [Instr.indexAt, run_underlying hu, hx, hi, asIntOf, Instr.sureAddr, h0, hl, sizeOf'_run hs, add_lit]
      case slice e =>
        cases hs : sizeOf' P e with
        | none => rw [hs] at hd; exact hd.elim
        | some n =>
          rw [hs] at hd
          obtain ⟨b, o, len, cap, k, i, hx, hi, h0, hl, hk⟩ := hd
          refine ⟨_, fun w => run_v _ ?_, hk⟩
          simp [Instr.indexAt, run_underlying hu, hx, hi, asIntOf, Instr.sureAddr, h0, hl, sizeOf'_run hs, add_lit]
  case index t x ix =>
    cases hu : P.underlying t with
    | none => rw [hu] at hd; exact hd.elim
    | some d =>
      rw [hu] at hd
      cases d <;> simp only at hd
      case string =>
        obtain ⟨s, k, i, c, hx, hi, h0, hc', hk⟩ := hd
        refine ⟨_, fun w => run_v _ ?_, hk⟩
        have hb : s[i.toNat]? = some c := by
          rw [← hc']
          simp only [getElem?_def, ByteArray.size]
          rfl
        simp [Instr.index, run_underlying hu, hx, hi, asIntOf, h0, hb]
      case array len e =>
        cases hs : sizeOf' P e with
        | none => rw [hs] at hd; exact hd.elim
        | some n =>
          cases hz : szOf P e with
          | none => rw [hs, hz] at hd; exact hd.elim
          | some sz =>
            rw [hs, hz] at hd
            obtain ⟨cs, k, i, hx, hi, h0, hl, hk⟩ := hd
            obtain ⟨v, hv, hk⟩ := cellsAt_fun hk
            refine ⟨v, fun w => run_v _ ?_, hk⟩
            obtain ⟨v', h1, h2⟩ := run_part hz (hv (fun u => u = v) rfl) w
            subst h2
            simp [Instr.index, run_underlying hu, hx, hi, asIntOf, h0, hl, sizeOf'_run hs, h1]
  case nilCheck x =>
    obtain ⟨hn, hk⟩ := hd
    refine ⟨_, fun w => ?_, hk⟩
    simp only [execOp]
    generalize evalE ρ x = v at hn
    cases v <;> simp only [notNil] at hn <;> first | cases hn | skip
    case pointer a => cases a with
      | none => cases hn
      | some a => rfl
    case func f a b => cases f <;> first | rfl | cases hn
  case slice t x lo hi mx =>
    cases mx with
    | some m =>
      simp only at hd
      cases hu : P.underlying t with
      | none => rw [hu] at hd; exact hd.elim
      | some d =>
        rw [hu] at hd
        cases d <;> simp only at hd
        case slice e =>
          cases hs : sizeOf' P e with
          | none => rw [hs] at hd; exact hd.elim
          | some n =>
            rw [hs] at hd
            obtain ⟨p, len, cap, k1, n1, k2, n2, l, hx, hhi, hmx, b0, b1, b2, hlo, hk⟩ := hd
            refine ⟨_, fun w => run_v _ ?_, hk⟩
            obtain ⟨N1, rfl⟩ : ∃ N : Nat, n1 = N := ⟨n1.toNat, by omega⟩
            obtain ⟨N2, rfl⟩ : ∃ N : Nat, n2 = N := ⟨n2.toNat, by omega⟩
            have c1 : N2 ≤ N1 := by omega
            have c2 : N1 ≤ cap := by omega
            rcases hlo with ⟨hl, rfl⟩ | ⟨k, i, hl, a0, a1, rfl⟩
            · simp [Instr.sliceAt, Instr.slice, run_underlying hu, hx, hhi, hmx, hl, Instr.sliceBounds, Instr.sliceBound, asIntOf, c1, c2, sizeOf'_run hs, add_lit]
            · obtain ⟨N, rfl⟩ : ∃ N : Nat, i = N := ⟨i.toNat, by omega⟩
              have c3 : N ≤ N2 := by omega
              simp [Instr.sliceAt, Instr.slice, run_underlying hu, hx, hhi, hmx, hl, Instr.sliceBounds, Instr.sliceBound, asIntOf, c1, c2, c3, sizeOf'_run hs, add_lit]
        all_goals exact hd.elim
    | none =>
      simp only at hd
      cases hu : P.underlying t with
      | none => rw [hu] at hd; exact hd.elim
      | some d =>
        rw [hu] at hd
        cases d <;> simp only at hd
        case string =>
          obtain ⟨s, hx, hk⟩ := hd
          obtain ⟨l, h', _, hk'⟩ := run_sliceBounds (P := P) (isSlice := false) hk (default : World)
          obtain ⟨n, hn, hh⟩ := run_intBetween hk
          obtain ⟨m, hm, hl⟩ := run_intBetween hn
          refine ⟨_, fun w => run_v _ ?_, hm⟩
          obtain ⟨l1, h1, hr, e1⟩ := run_sliceBounds (P := P) (isSlice := false) (len := s.size) (cap := s.size) (low := lo.map (evalE ρ)) (high := hi.map (evalE ρ)) (K := fun l h => l = m ∧ h = n) (by
            rcases hh with ⟨e, rfl⟩ | ⟨k, i, e, a, b, rfl⟩ <;> rcases hl with ⟨e', rfl⟩ | ⟨k', i', e', a', b', rfl⟩ <;> rw [e, e']
            · exact ⟨rfl, rfl⟩
            · exact ⟨k', i', rfl, a', b', rfl, rfl⟩
            · exact ⟨k, i, rfl, a, b, rfl, rfl⟩
            · exact ⟨k, i, rfl, a, b, k', i', rfl, a', b', rfl, rfl⟩) w
          obtain ⟨rfl, rfl⟩ := e1
          simp [Instr.sliceAt, Instr.slice, run_underlying hu, hx, hr]
        case slice e =>
          cases hs : sizeOf' P e with
          | none => rw [hs] at hd; exact hd.elim
          | some n =>
            rw [hs] at hd
            obtain ⟨p, len, cap, hx, hk⟩ := hd
            obtain ⟨q, hn, hh⟩ := run_intBetween hk
            obtain ⟨m, hm, hl⟩ := run_intBetween hn
            refine ⟨_, fun w => run_v _ ?_, hm⟩
            obtain ⟨l1, h1, hr, e1⟩ := run_sliceBounds (P := P) (isSlice := true) (len := len) (cap := cap) (low := lo.map (evalE ρ)) (high := hi.map (evalE ρ)) (K := fun l h => l = m ∧ h = q) (by
              rcases hh with ⟨e, rfl⟩ | ⟨k, i, e, a, b, rfl⟩ <;> rcases hl with ⟨e', rfl⟩ | ⟨k', i', e', a', b', rfl⟩ <;> rw [e, e']
              · exact ⟨rfl, rfl⟩
              · exact ⟨k', i', rfl, a', b', rfl, rfl⟩
              · exact ⟨k, i, rfl, a, b, rfl, rfl⟩
              · exact ⟨k, i, rfl, a, b, k', i', rfl, a', b', rfl, rfl⟩) w
            obtain ⟨rfl, rfl⟩ := e1
            simp [Instr.sliceAt, Instr.slice, run_underlying hu, hx, hr, sizeOf'_run hs]
        case array len e =>
          cases hs : sizeOf' P e with
          | none => rw [hs] at hd; exact hd.elim
          | some n =>
            rw [hs] at hd
            obtain ⟨b, o, hx, hk⟩ := hd
            obtain ⟨q, hn, hh⟩ := run_intBetween hk
            obtain ⟨m, hm, hl⟩ := run_intBetween hn
            refine ⟨_, fun w => run_v _ ?_, hm⟩
            obtain ⟨l1, h1, hr, e1⟩ := run_sliceBounds (P := P) (isSlice := false) (len := len) (cap := len) (low := lo.map (evalE ρ)) (high := hi.map (evalE ρ)) (K := fun l h => l = m ∧ h = q) (by
              rcases hh with ⟨e, rfl⟩ | ⟨k, i, e, a, b, rfl⟩ <;> rcases hl with ⟨e', rfl⟩ | ⟨k', i', e', a', b', rfl⟩ <;> rw [e, e']
              · exact ⟨rfl, rfl⟩
              · exact ⟨k', i', rfl, a', b', rfl, rfl⟩
              · exact ⟨k, i, rfl, a, b, rfl, rfl⟩
              · exact ⟨k, i, rfl, a, b, k', i', rfl, a', b', rfl, rfl⟩) w
            obtain ⟨rfl, rfl⟩ := e1
            simp [Instr.sliceAt, run_underlying hu, hx, hr, sizeOf'_run hs, Instr.sureAddr, add_lit]
  case build t ps =>
    have hparts : ∀ (w : World), ∀ (place : Nat → Option (Nat × Nat)) (z : Array Value), Instr.fill place z ((ps.map fun (i, x) => (i, evalE ρ x)).toList) = Instr.fill place z (partsOf ρ ps) := fun w place z => by
      unfold partsOf; simp
    cases hu : P.underlying t with
    | none => rw [hu] at hd; exact hd.elim
    | some d =>
      cases hz : zeroOf P t with
      | none => rw [hu, hz] at hd; cases d <;> exact hd.elim
      | some z =>
        rw [hu, hz] at hd
        cases d <;> simp only at hd
        case struct fs =>
          cases hp : placesOf P fs.toList with
          | none => rw [hp] at hd; exact hd.elim
          | some pl =>
            rw [hp] at hd
            obtain ⟨cs, hf, hk⟩ := hd
            refine ⟨_, fun w => run_v _ ?_, hk⟩
            obtain ⟨zv, hzr, hzc⟩ := zeroOf_run hz w
            have hf' : Instr.fill (fun x => pl.toArray[x]?) z ((ps.map fun (i, x) => (i, evalE ρ x)).toList) = some cs := by
              rw [hparts w, ← hf]; congr 1; funext x; simp
            simp only [Instr.build, Sem.run_bind, hzr, Result.andThen, run_underlying hu, run_mapM_fields fs hp, hzc, hf', Sem.run_pure]
        case array len e =>
          cases hs : sizeOf' P e with
          | none => rw [hs] at hd; exact hd.elim
          | some n =>
            rw [hs] at hd
            obtain ⟨cs, hf, hk⟩ := hd
            refine ⟨_, fun w => run_v _ ?_, hk⟩
            obtain ⟨zv, hzr, hzc⟩ := zeroOf_run hz w
            have hf' : Instr.fill (fun i => some (i * n, n)) z ((ps.map fun (i, x) => (i, evalE ρ x)).toList) = some cs := by
              rw [hparts w, ← hf]
            simp only [Instr.build, Sem.run_bind, hzr, Result.andThen, run_underlying hu, sizeOf'_run hs, hzc, hf', Sem.run_pure]
  case makeInterface t x =>
    cases hu : P.underlying t with
    | none => rw [hu] at hd; exact hd.elim
    | some d =>
      rw [hu] at hd
      cases d <;> simp only at hd
      all_goals (refine ⟨_, fun w => run_v _ ?_, hd⟩; simp [Instr.makeInterface, run_underlying hu])
  case makeFunc f first cap =>
    refine ⟨_, fun w => run_v _ ?_, hd⟩
    simp only [Instr.makeFunc, argsOf_eq]; rfl
  case typeAssert x xt t ok =>
    cases ok with
    | false => exact hd.elim
    | true =>
      obtain ⟨v, hv, hk⟩ := hd
      exact ⟨v, fun w => run_v _ (pureRun_run w _ hv), hk⟩
  case convert src dst' x =>
    cases hs : P.underlying src with
    | none => rw [hs] at hd; exact hd.elim
    | some d =>
      rw [hs] at hd hc
      cases d
      case int k0 =>
        cases ht : P.underlying dst' with
        | none => rw [ht] at hd; exact hd.elim
        | some d2 =>
          rw [ht] at hd
          cases d2
          case int k =>
            obtain ⟨k', n, hx, hk⟩ := hd
            refine ⟨_, fun w => run_v _ ?_, hk⟩
            simp [convert, run_underlying hs, run_underlying ht, hx, Conv.intToInt]
          case float k =>
            obtain ⟨k', n, hx, hk⟩ := hd
            refine ⟨_, fun w => run_v _ ?_, hk⟩
            simp [convert, run_underlying hs, run_underlying ht, hx, Conv.intToFloat]
          all_goals exact hd.elim
      case float k0 =>
        cases ht : P.underlying dst' with
        | none => rw [ht] at hd; exact hd.elim
        | some d2 =>
          rw [ht] at hd
          cases d2
          case int k =>
            obtain ⟨k', bb, n, hx, hn, h1, h2, hk⟩ := hd
            refine ⟨_, fun w => run_v _ ?_, hk⟩
            simp [convert, run_underlying hs, run_underlying ht, hx, Conv.floatToInt, hn, h1, h2]
          all_goals exact hd.elim
      case slice => cases hc
      all_goals exact hd.elim
  case call c =>
    obtain ⟨callee, args, argTypes⟩ := c
    cases callee with
    | value f =>
      cases f
      case func f => cases hq : qf f <;> simp only [hq] at hc <;> cases hc
      all_goals cases hc
    | invoke r m => cases hc
    | builtin b =>
      cases b
      case len =>
        obtain ⟨al⟩ := args
        obtain ⟨tl⟩ := argTypes
        simp only at hd
        split at hd
        · rename_i _ _ x t
          have hgo : ∀ d, P.underlying t = some d → ((∃ e, d = .slice e) ∧ (∃ p len cap, evalE ρ x = .slice p len cap ∧ K (.int .i64 len)) ∨ (d = .string ∧ ∃ s, evalE ρ x = .string s ∧ K (.int .i64 s.size))) →
              ∃ v, Says P ⟨dst, .call ⟨.builtin .len, ⟨[x]⟩, ⟨[t]⟩⟩, type, pos, after, guard⟩ ρ v ∧ K v := by
            intro d hu hh
            rcases hh with ⟨⟨e, rfl⟩, p, len, cap, hx, hk⟩ | ⟨rfl, s, hx, hk⟩
            · refine ⟨_, fun w => ?_, hk⟩
              simp [execOp, resolve, invoke, builtin, Builtin.len_, run_underlying hu, hx, goInt]
            · refine ⟨_, fun w => ?_, hk⟩
              simp [execOp, resolve, invoke, builtin, Builtin.len_, run_underlying hu, hx, goInt]
          cases hu : P.underlying t with
          | none => rw [hu] at hd; exact hd.elim
          | some d =>
            rw [hu] at hd
            cases d
            case string => exact hgo _ hu (.inr ⟨rfl, hd⟩)
            case slice e => exact hgo _ hu (.inl ⟨⟨e, rfl⟩, hd⟩)
            all_goals exact hd.elim
        · exact hd.elim
      case max =>
        obtain ⟨al⟩ := args
        simp only at hd
        split at hd
        · rename_i _ x y
          obtain ⟨k, k', a, b, hx, hy, hk⟩ := hd
          refine ⟨_, fun w => ?_, hk⟩
          simp [execOp, resolve, invoke, builtin, Builtin.max_, Builtin.max2, hx, hy]
        · exact hd.elim
      case min =>
        obtain ⟨al⟩ := args
        simp only at hd
        split at hd
        · rename_i _ x y
          obtain ⟨k, k', a, b, hx, hy, hk⟩ := hd
          refine ⟨_, fun w => ?_, hk⟩
          simp [execOp, resolve, invoke, builtin, Builtin.min_, Builtin.min2, hx, hy]
        · exact hd.elim
      all_goals exact hd.elim
  all_goals (first | exact hd.elim | cases hc)

theorem Says.opY {o : Oper} {v : Value} (hs : Says P o ρ v) : OpY P o ρ h v := OpY.run fun w _ => hs w

theorem run_loadBytes {b off len : Nat} {c : Array Value} {e : TypeId} {fr : Nat × Nat} {w : World} {l : List UInt8} (hb : w.heap[b]? = some (.cells c e fr)) (hl : l.length = len) (ht : (c.toList.drop off).take len = byteCells l) :
    (Conv.bytesToString (.slice (some ⟨b, off, none⟩) len len)).run P w = .ok (.string ⟨l.toArray⟩) w := by
  have h1 := run_loadCells_list (P := P) w ⟨b, off, none⟩ (byteCells l) (fun j v hv => by
    rw [Addr.add_lit, cell_of hb, ← Array.getElem?_toList]
    rw [← ht, List.getElem?_take] at hv
    split at hv
    · rw [List.getElem?_drop] at hv; exact hv
    · cases hv)
  have h2 : (byteCells l).length = len := by simp [byteCells, hl]
  rw [h2] at h1
  have key : ∀ (g : Value → ByteArray → Sem (ForInStep ByteArray)), (∀ n s, g (.int .u8 n) s = pure (ForInStep.yield (s.push (UInt8.ofNat n.toNat)))) → ∀ (l : List UInt8) (acc : ByteArray), (forIn (byteCells l) acc g).run P w = .ok ⟨acc.data ++ l.toArray⟩ w := by
    intro g hg l
    induction l with
    | nil => intro acc; simp [byteCells]
    | cons x l ih =>
      intro acc
      have := ih (acc.push (UInt8.ofNat ((x.toNat : Int)).toNat))
      simp only [byteCells, List.map_cons, List.forIn_cons] at this ⊢
      simp only [hg, Sem.run_bind, Sem.run_pure, Result.andThen]
      rw [this]
      simp [ByteArray.push]
  unfold Conv.bytesToString
  simp only [Sem.run_bind, h1, Result.andThen, Sem.run_pure]
  simp
  rw [key _ (fun n s => rfl)]
  simp

theorem run_callFunc {f : FuncId} (hf : Callable P f) (args : Array Value) (w : World) : (callFunc f args).run P w = .ok (.enter f args) w := by
  obtain ⟨fn, hf, hb, hn⟩ := hf
  have hn' : fn.name ≠ "runtime.NumGoroutine" := by simpa using hn
  have hb' : ¬ fn.body = none := by intro h; rw [h] at hb; cases hb
  simp [callFunc, program, Sem.run, hf]
  rw [if_neg hn', if_neg hb']
theorem run_vW (s : Sem Value) {v : Value} {w w' : World} (hs : s.run P w = .ok v w') : (do pure (.value (← s)) : Sem Next).run P w = .ok (.value v) w' := by
  rw [Sem.run_bind, hs]; rfl

theorem denQ_read {o : Oper} {K : Value → Prop} (hc : clsOf P qf o = .read) (hd : denQ P o ρ h K) : ∃ v, OpY P o ρ h v ∧ K v := by
  obtain ⟨dst, op, type, pos, after, guard⟩ := o
  cases op <;> simp only [denQ, clsOf] at hd hc
  case slice t x lo hi mx => cases hc
  case binOp op t x y yt => split at hc <;> (try split at hc) <;> cases hc
  case lookup t x ix ok =>
    obtain ⟨v, hv, hk⟩ := hd
    exact ⟨v, OpY.run fun w hw => run_v _ (hv w hw), hk⟩
  case load t x =>
    cases hs : szOf P t with
    | none => rw [hs] at hd; exact hd.elim
    | some sz =>
      rw [hs] at hd
      obtain ⟨b, off, c, e, fr, hx, hb, hk⟩ := hd
      obtain ⟨v, hv, hk⟩ := cellsAt_fun hk
      refine ⟨v, OpY.run fun w hw => run_v _ ?_, hk⟩
      obtain ⟨v', h1, h2⟩ := run_loadVar hs (hw b _ hb) (hv (fun u => u = v) rfl)
      subst h2
      simp only [Instr.loadAt, hx, Instr.sureAddr, Sem.run_bind, Sem.run_pure, Result.andThen, h1]
  case convert src dst' x =>
    cases hs : P.underlying src with
    | none => rw [hs] at hd; exact hd.elim
    | some d =>
      rw [hs] at hd hc
      cases d
      case slice e =>
        cases ht : P.underlying dst' with
        | none => rw [ht] at hd; exact hd.elim
        | some d2 =>
          rw [ht] at hd
          cases d2
          case string =>
            simp only at hd
            cases he : P.underlying e with
            | none => rw [he] at hd; exact hd.elim
            | some d3 =>
              rw [he] at hd
              cases d3
              case int k =>
                cases k
                case u8 =>
                  rcases hd with ⟨hx, hk⟩ | ⟨b, off, len, cap, c, e', fr, l, hx, hb, hl, ht', hk⟩
                  · refine ⟨_, OpY.run fun w hw => run_v _ ?_, hk⟩
                    simp [convert, run_underlying hs, run_underlying ht, run_underlying he, hx, Conv.bytesToString]
                  · refine ⟨_, OpY.run fun w hw => run_v _ ?_, hk⟩
                    have h1 := run_loadBytes (P := P) (hw b _ hb) hl ht'
                    have h2 : ∀ cap', Conv.bytesToString (.slice (some ⟨b, off, none⟩) len cap') = Conv.bytesToString (.slice (some ⟨b, off, none⟩) len len) := fun _ => rfl
                    simp only [convert, Sem.run_bind, run_underlying hs, run_underlying ht, Result.andThen, run_underlying he, hx]
                    rw [h2, h1]
                all_goals exact hd.elim
              all_goals exact hd.elim
          all_goals exact hd.elim
      all_goals first | exact hd.elim | (cases ht : P.underlying dst' with
        | none => rw [ht] at hc; cases hc
        | some d2 => rw [ht] at hc; cases d2 <;> cases hc)
  case call c =>
    obtain ⟨callee, args, argTypes⟩ := c
    cases callee with
    | value f =>
      cases f
      case func f =>
        obtain ⟨v, hq, hk⟩ := hd
        refine ⟨v, fun w hw => ?_, hk⟩
        obtain ⟨hcb, hcall⟩ := hq
        have hrun : (execOp (evalE ρ) ⟨dst, .call ⟨.value (.func f), args, argTypes⟩, type, pos, after, guard⟩).run P w = .ok (.enter f (argsOf ρ args)) w := by
          have := run_callFunc hcb (argsOf ρ args) w
          simp only [execOp, resolve, Deferred.ofValue, evalE, invoke, Sem.run_bind, Sem.run_pure, Result.andThen, argsOf_eq]
          simpa using this
        rw [hrun]
        refine ⟨rfl, (hcall w hw).mono fun e w'' he => ?_⟩
        cases e <;> simp only at he ⊢
        · obtain ⟨h', a, b, c, d⟩ := he
          cases c; subst d
          exact ⟨rfl, a, b⟩
        · obtain ⟨h', a, b, c, d⟩ := he
          cases c
      all_goals cases hc
    | invoke r m => cases hc
    | builtin b => cases b <;> first | cases hc | (simp only at hc; split at hc <;> (try split at hc) <;> cases hc)
  all_goals (first | exact hd.elim | cases hc)

end
end Go.Pw

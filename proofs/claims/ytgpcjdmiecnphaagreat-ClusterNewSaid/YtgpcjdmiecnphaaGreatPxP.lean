/- Rows made, panics, calls: the executor tells the truth of every operation. -/
import Derived.Test.YtgpcjdmiecnphaaGreatPxO
set_option linter.unusedSimpArgs false
set_option linter.unusedVariables false
namespace Go.Px
open Go Go.Pw
/-- What is said of functions without a body is so. -/
def LibOK (P : Program) (lib : FuncId → List CV → Option CV) : Prop := ∀ f vs v ns xs, lib f vs = some v → toVs ns vs = some xs → ∃ y, toV ns v = some y ∧ ∀ w : World, ∃ n, (callFunc f xs.toArray).run P w = .ok (.value y) { w with drawn := n }
section
variable {P : Program} {ns : List Nm} {E : CE} {ρ : Env} {H : CH} {h : PH} {k : KV} {kp : KP} {K : Value → PH → Prop} {Kp : List PanicEntry → PH → Prop} {call : CALL} {lib : FuncId → List CV → Option CV}

theorem make_ok (hE : RelE ns E ρ) (hH : RelH P ns H h) {e : TypeId} {i : TypeInfo} {zv : Value} {z : List CV} {l c : Operand} (hi : P.info? e = some i) (hz : i.zero = some zv) (hzs : zsOf P e = some z) (hlen : z.length = i.size) (hone : z.all oneX = true) (hby : 0 < i.bytes)
    (hq : (lMake e i.bytes z l c).1 call E H k kp = true) (hk : KOK P ns k K) : vMakeS e i.size i.bytes zv.cells (evalE ρ l) (evalE ρ c) h K := by
  simp only [lMake] at hq
  cases hl : (oBx l).1 E with
  | none => rw [hl] at hq; cases hq
  | some lv =>
    cases hc : (oBx c).1 E with
    | none => rw [hl, hc] at hq; cases hq
    | some cv =>
      rw [hl, hc] at hq
      simp only at hq
      cases hn : asN lv with
      | none => rw [hn] at hq; cases hq
      | some n =>
        cases hm : asN cv with
        | none => rw [hn, hm] at hq; cases hq
        | some m =>
          rw [hn, hm] at hq
          simp only at hq
          cases h1 : Nat.ble n m <;> cases h2 : Nat.ble (i.bytes * m) 1048576 <;> rw [h1, h2] at hq <;> first | (cases hq; done) | skip
          simp only [newK_eq] at hq
          have b1 := Nat.le_of_ble_eq_true h1
          have b2 := Nat.le_of_ble_eq_true h2
          have ol := o_ok hE hl
          have oc := o_ok hE hc
          obtain ⟨k1, rfl⟩ := asN_ok hn
          obtain ⟨k2, rfl⟩ := asN_ok hm
          simp only [toV, Option.some.injEq] at ol oc
          have hm1 : m ≤ i.bytes * m := Nat.le_mul_of_pos_left _ hby
          obtain ⟨zs, z1, z2⟩ := zs_ok (ns := ns) hzs
          have hzz : zs = zv.cells := by
            unfold zeroOf at z1
            rw [hi] at z1
            simp [hz] at z1
            exact z1.symm
          subst hzz
          obtain ⟨xs, x1, x2⟩ := repX_to z2 m
          have hzn : zv.cells.size = i.size := by have := toVs_len z2; simp at *; omega
          have hrep : toVs ns (repX z m) = some (rep zv.cells (m * i.size)).toList := by rw [x1, x2, ← hzn, rep_flat]
          refine ⟨k1, k2, Int.ofNat n, Int.ofNat m, ol.symm, oc.symm, Int.natCast_nonneg _, Int.ofNat_le.2 b1, ?_, ?_, fun b hb => ?_⟩
          · have := Int.ofNat_le.2 b2
            rw [Int.natCast_mul] at this
            exact Int.le_trans this (by decide)
          · exact Int.lt_of_le_of_lt (Int.ofNat_le.2 (Nat.le_trans hm1 b2)) (by decide)
          · simp only [Int.ofNat_eq_natCast, Int.toNat_natCast]
            have hsz : (rep zv.cells (m * i.size)).toList.length = m * i.size := by simp [rep]
            have h1z : ∀ y ∈ (rep zv.cells (m * i.size)).toList, y.oneCell' = true := by
              rw [← hzn, rep_flat]
              intro y hy
              simp only [List.mem_flatten, List.mem_replicate] at hy
              obtain ⟨l, ⟨_, rfl⟩, hy⟩ := hy
              exact toVs_one z2 hone y hy
            have hr := new_cells hH hb (cap := m) (c := .row (repX z m)) (e := e) (rest := []) trivial hrep h1z (fun n' hn' => by rw [info_size hi hn', hsz]; simp)
            refine hk _ _ _ _ _ (Ext.one ns _) (new_sl hH b b1) ?_ hq
            simpa using hr
theorem args_ok (hE : RelE ns E ρ) {args : Array Operand} {vs : List CV} (hq : (sBx args.toList).1 E = some vs) : toVs ns vs = some (argsOf ρ args).toList := by
  have := xOs_ok hE hq
  simpa [argsOf] using this
theorem call_ok (hE : RelE ns E ρ) (hH : RelH P ns H h) (hc : CallOK P call) (hk : KOK P ns k K) (hkp : PKOK P ns kp Kp) {f : FuncId} {vs : List CV} {xs : Array Value} (hv : toVs ns vs = some xs.toList) (hq : call f vs H (kR k kp) = true) : ACalls P f xs h (AEnd.elim K Kp) := by
  have := hc f vs H (kR k kp) ns h xs.toList (AEnd.elim K Kp) hH hv hq (fun ns' v x H' h' a b c d => hk ns' v x H' h' a b c d) (fun ns' v x H' h' a b c d => hkp ns' v x H' h' a b c d)
  simpa using this
theorem meth_run {t : TypeId} {x : Value} {name : String} {f : FuncId} (hm : xMeth P t name = some f) : ∀ n, pureRun P (method (n + 1) t x name) = some (f, x) := by
  intro n
  unfold xMeth at hm
  split at hm
  · rename_i i hi
    split at hm
    · rename_i m hfd
      split at hm
      · rename_i hp hf hu
        cases hm
        have ti : pureRun P (typeInfo t) = some i := by unfold typeInfo; rw [pureRun_bind _ pureRun_program]; simp only [hi]; rfl
        rw [method, pureRun_bind _ ti]
        simp only [hfd, hp, follow, pure_bind, hf]
        have hr : ∀ nm, pureRun P (receiverAt t (.val x) true nm) = some x := fun nm => by
          unfold receiverAt
          rw [pureRun_bind _ (pureRun_underlying hu)]
          rfl
        rw [pureRun_bind _ (hr _)]
        rfl
      · cases hm
    · cases hm
  · cases hm
theorem inv_ok (hE : RelE ns E ρ) (hH : RelH P ns H h) (hc : CallOK P call) (hk : KOK P ns k K) (hkp : PKOK P ns kp Kp) {r : Operand} {name : String} {args : Array Operand} (hq : (lInv P r name args.toList).1 call E H k kp = true) :
    ∃ t x f, evalE ρ r = .iface t x ∧ xMeth P t name = some f ∧ ACalls P f (#[x] ++ argsOf ρ args) h (AEnd.elim K Kp) := by
  simp only [lInv] at hq
  split at hq
  · rename_i t v vs hr hv
    split at hq
    · rename_i f hm
      have or := o_ok hE hr
      obtain ⟨x, x1, x2⟩ := toV_iface or
      refine ⟨t, x, f, x2, hm, call_ok hE hH hc hk hkp ?_ hq⟩
      simpa using toVs_mk x1 (args_ok hE hv)
    · cases hq
  · cases hq
theorem cL_ok (hE : RelE ns E ρ) (hH : RelH P ns H h) (hlib : LibOK P lib) (hc : CallOK P call) {o : Oper} (hq : (cL P lib o).1 call E H k kp = true) (hk : KOK P ns k K) (hkp : PKOK P ns kp Kp) : denL P o ρ h K Kp := by
  obtain ⟨dst, op, type, pos, after, guard⟩ := o
  have no : ∀ {X : Prop}, lN.1 call E H k kp = true → X := fun hh => by cases hh
  cases op <;> simp only [cL] at hq
  case store t a x =>
    split at hq
    · rename_i n hs
      simp only [denL, hs]
      exact store_ok hE hH hq hk
    · exact no hq
  case makeSlice t l c =>
    split at hq
    · rename_i e hu
      split at hq
      · rename_i i z hi hz
        split at hq
        · rename_i h1 h2
          rw [Bool.and_eq_true] at h2
          obtain ⟨zv, hzv⟩ : ∃ zv, i.zero = some zv := by
            unfold zsOf zeroOf at hz
            rw [hi] at hz
            cases hzz : i.zero with
            | none => simp [hzz] at hz
            | some zv => exact ⟨_, rfl⟩
          simp only [denL, hu, hi, hzv]
          exact make_ok hE hH hi hzv hz (Nat.eq_of_beq_eq_true h1) h2.1 (blt_iff.1 h2.2) hq hk
        · exact no hq
      · exact no hq
    · exact no hq
  case mapUpdate t m x v =>
    split at hq
    · rename_i kt e hu
      exact fun w hw => upd_ok hE hH hu hq hk w hw
    · exact no hq
  case insert t m x v =>
    split at hq
    · rename_i kt e hu
      split at hq
      · rename_i i1 hkt
        simp only [denL, hu, hkt]
        exact ins_ok (d := .int i1) hE hH hkt hq hk
      · exact no hq
    · exact no hq
  case range t x =>
    split at hq
    · rename_i kt e hu
      refine OpL.val fun w hw => ?_
      obtain ⟨v, w', h', a, b, c, d⟩ := range_ok hE hH hu hq hk w hw
      exact ⟨v, w', h', run_vW _ a, b, c, d⟩
    · exact no hq
  case next it s =>
    cases s with
    | true => exact no hq
    | false =>
      simp only [lNext] at hq
      split at hq
      · rename_i itv hi
        refine OpL.val fun w hw => ?_
        obtain ⟨v, w', h', a, b, c, d⟩ := next_ok (ty := type) hH (o_ok hE hi) hq hk w hw
        exact ⟨v, w', h', run_vW _ a, b, c, d⟩
      · cases hq
  case entry it =>
    simp only [lEntry] at hq
    split at hq
    · rename_i itv hi
      split at hq
      · rename_i v hv
        obtain ⟨y, y1, y2⟩ := entry_ok hH (o_ok hE hi) hv
        refine OpL.val fun w hw => ⟨y, w, h, run_vW _ (y2 w hw), hw, Framed.refl h w, hk _ _ _ _ _ (Ext.refl ns) y1 hH hq⟩
      · cases hq
    · cases hq
  case panic x =>
    simp only [lPan] at hq
    split at hq
    · rename_i t v hv
      obtain ⟨y, y1, y2⟩ := toV_iface (o_ok hE hv)
      refine ⟨t, y, y2, hkp _ _ _ _ _ (Ext.refl ns) (by simp only [toV, y1]) hH hq⟩
    · cases hq
  case call c =>
    obtain ⟨callee, args, argTypes⟩ := c
    cases callee with
    | invoke r m =>
      obtain ⟨t, x, f, e1, e2, e3⟩ := inv_ok hE hH hc hk hkp hq
      intro w hw
      left
      have hrun : (execOp (evalE ρ) ⟨dst, .call ⟨.invoke r m, args, argTypes⟩, type, pos, after, guard⟩).run P w = .ok (.enter f (#[x] ++ argsOf ρ args)) w := by
        have h1 := pureRun_run w _ (meth_run (x := x) e2 (P.types.size + 99))
        have h2 := run_callFunc e3.1 (#[x] ++ argsOf ρ args) w
        have h3 : (callMethod (.iface t x) m (argsOf ρ args)).run P w = .ok (.enter f (#[x] ++ argsOf ρ args)) w := by
          unfold callMethod
          have hp : (program).run P w = .ok P w := rfl
          simp only [Sem.run_bind, hp, Result.andThen_ok]
          rw [show P.types.size + Made.depth = P.types.size + 99 + 1 from rfl, h1]
          exact h2
        simp only [execOp, resolve, Sem.run_bind, Sem.run_pure, Result.andThen, invoke, e1, argsOf_eq]
        have ex : (#[Value.iface t x] ++ argsOf ρ args).extract 1 (#[Value.iface t x] ++ argsOf ρ args).size = argsOf ρ args := by
          apply Array.ext'
          simp
        have e0 : (#[Value.iface t x] ++ argsOf ρ args)[0]? = some (Value.iface t x) := by
          rw [Array.getElem?_append_left (Nat.one_pos : 0 < #[Value.iface t x].size)]; rfl
        rw [e0]
        simp only [ex]
        exact h3
      rw [hrun]
      exact ⟨rfl, callV_sound e3 hw⟩
    | value f =>
      cases f with
      | func f =>
        simp only at hq
        simp only [denL]
        cases hx : extOf P f with
        | true =>
          rw [hx] at hq
          simp only [lLib] at hq
          split at hq
          · cases hq
          · rename_i vs hv
            split at hq
            · rename_i v hl
              obtain ⟨y, y1, y2⟩ := hlib _ _ _ _ _ hl (args_ok hE hv)
              intro w hw
              obtain ⟨n, hn⟩ := y2 w
              exact ⟨y, n, by simpa using hn, hk _ _ _ _ _ (Ext.refl ns) y1 hH hq⟩
            · cases hq
        | false =>
          rw [hx] at hq
          simp only [lCall] at hq
          split at hq
          · rename_i vs hv
            exact call_ok hE hH hc hk hkp (args_ok hE hv) hq
          · cases hq
      | tmp t =>
        simp only [lCallV] at hq
        split at hq
        · rename_i f first cap vs hf hv
          obtain ⟨y, z, y1, z1, e1⟩ := toV_fn (o_ok hE hf)
          refine ⟨f, y.toArray, z.toArray, e1, call_ok hE hH hc hk hkp ?_ hq⟩
          simpa using toVs_append y1 (toVs_append (args_ok hE hv) z1)
        · cases hq
      | const v => exact no hq
      | global g => exact no hq
    | builtin b =>
      obtain ⟨al⟩ := args
      obtain ⟨tl⟩ := argTypes
      cases b
      case append =>
        simp only at hq
        split at hq
        · rename_i _ _ s x t tx
          split at hq
          · rename_i e hu
            split at hq
            · rename_i i z hi hz
              split at hq
              · rename_i h1 h2 h3
                obtain ⟨zs, z1, z2⟩ := zs_ok (ns := ns) hz
                obtain ⟨zv, hzv, hzz⟩ : ∃ zv, i.zero = some zv ∧ zs = zv.cells := by
                  unfold zeroOf at z1
                  rw [hi] at z1
                  cases hzz : i.zero with
                  | none => simp [hzz] at z1
                  | some zv => simp [hzz] at z1; exact ⟨_, rfl, z1.symm⟩
                subst hzz
                have hzn : zv.cells.size = i.size := by have := toVs_len z2; have := Nat.eq_of_beq_eq_true h3; simp at *; omega
                simp only [denL, hu, hi, hzv]
                refine ⟨blt_iff.1 h1, blt_iff.1 h2, hzn, ?_⟩
                split at hq
                · rename_i htx; rw [htx]; exact app_ok hE hH hi (blt_iff.1 h1) hq hk
                · rename_i e2 htx; rw [htx]; exact app_ok hE hH hi (blt_iff.1 h1) hq hk
                · exact no hq
              · exact no hq
            · exact no hq
          · exact no hq
        · exact no hq
      case len =>
        simp only at hq
        split at hq
        · rename_i _ _ x t
          split at hq
          · rename_i kt e hu
            refine OpL.val fun w hw => ?_
            obtain ⟨v, a, b⟩ := len_ok (ty := type) hE hH hu hq hk w hw
            refine ⟨v, w, h, ?_, hw, Framed.refl h w, b⟩
            have heq : execOp (evalE ρ) ⟨dst, .call ⟨.builtin .len, ⟨[x]⟩, ⟨[t]⟩⟩, type, pos, after, guard⟩ = (Builtin.len_ #[t] type #[evalE ρ x]).bind (fun v => Sem.pure (Next.value v)) := by
              unfold execOp
              simp only [resolve, invoke, builtin, List.map_toArray, List.map_cons, List.map_nil]
              rfl
            rw [heq]
            exact run_vW _ a
          · exact no hq
        · exact no hq
      case delete =>
        simp only at hq
        split at hq
        · rename_i _ _ m x t t2
          split at hq
          · rename_i kt e hu
            refine OpL.val fun w hw => ?_
            obtain ⟨w', h', a, b, c, d⟩ := del_ok (t2 := t2) (ty := type) hE hH hu hq hk w hw
            refine ⟨_, w', h', ?_, b, c, d⟩
            have heq : execOp (evalE ρ) ⟨dst, .call ⟨.builtin .delete, ⟨[m, x]⟩, ⟨[t, t2]⟩⟩, type, pos, after, guard⟩ = (Builtin.delete_ #[t, t2] type #[evalE ρ m, evalE ρ x]).bind (fun v => Sem.pure (Next.value v)) := by
              unfold execOp
              simp only [resolve, invoke, builtin, List.map_toArray, List.map_cons, List.map_nil]
              rfl
            rw [heq]
            exact run_vW _ a
          · exact no hq
        · exact no hq
      case clear =>
        simp only at hq
        split at hq
        · rename_i _ _ m t
          split at hq
          · rename_i kt e hu
            simp only [denL, hu]
            refine OpL.val fun w hw => ?_
            obtain ⟨w', h', a, b, c, d⟩ := clr_ok (ty := type) hE hH hu hq hk w hw
            refine ⟨_, w', h', ?_, b, c, d⟩
            have heq : execOp (evalE ρ) ⟨dst, .call ⟨.builtin .clear, ⟨[m]⟩, ⟨[t]⟩⟩, type, pos, after, guard⟩ = (Builtin.clear_ #[t] type #[evalE ρ m]).bind (fun v => Sem.pure (Next.value v)) := by
              unfold execOp
              simp only [resolve, invoke, builtin, List.map_toArray, List.map_cons, List.map_nil]
              rfl
            rw [heq]
            exact run_vW _ a
          · exact no hq
        · exact no hq
      all_goals exact no hq
  all_goals exact no hq
end
end Go.Px

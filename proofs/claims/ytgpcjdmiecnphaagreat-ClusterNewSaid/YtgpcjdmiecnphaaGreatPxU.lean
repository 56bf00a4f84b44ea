/- Functions that recover; all functions: the executor tells the truth. -/
import Derived.Test.YtgpcjdmiecnphaaGreatPxR
set_option linter.unusedSimpArgs false
set_option linter.unusedVariables false
namespace Go.Px
open Go Go.Pw
section
variable {P : Program} {Kp : List PanicEntry → PH → Prop} {call : CALL} {lib : FuncId → List CV → Option CV} {ords ordsC : Nat → List (Nat × List Nat)} {fuel : Nat}

theorem pre_c_ok (hlib : LibOK P lib) (hc : CallOK P call) {rs : List ResultVar} {kr : KF} {R : AEnd → PH → Prop} : ∀ (l : List Code) {ns : List Nm} {E : CE} {ρ : Env} {H : CH} {h : PH} {k : KN} {K : Env → PH → Prop}, RelE ns E ρ → RelH P ns H h →
    (xPreC P lib ords fuel rs l).1 call kr k E H = true → KNOK P ns k K →
    (∀ ns' v x H' h', Ext ns ns' → toV ns' v = some x → RelH P ns' H' h' → kr (.ret v) H' = true → R (.ret x) h') →
    (∀ ns' v x H' h', Ext ns ns' → toV ns' v = some x → RelH P ns' H' h' → kr (.pan v) H' = true → R (.pan [{ v := x, recovered := false }]) h') →
    denPre P qx ords rs R (LX P lib call ords fuel (fun c h => R (.pan c) h)) l K ρ h
  | [], ns, E, ρ, H, h, k, K, hE, hH, hq, hk, hr, hp => hk _ _ _ _ _ (Ext.refl ns) hE hH hq
  | x :: l, ns, E, ρ, H, h, k, K, hE, hH, hq, hk, hr, hp => by
    simp only [denPre]
    refine cC_ok hlib hc x hE hH hq ⟨fun ns' E' ρ' H' h' he hE' hH' hq' => ?_, (QOK.fin hr).2.1, (QOK.fin hr).2.2⟩ fun ns' v x H' h' he hx hH' hq' => hp _ _ _ _ _ he hx hH' hq'
    exact pre_c_ok hlib hc l hE' hH' hq' (hk.ext he) (fun ns'' v x H'' h'' a => hr _ _ _ _ _ (he.trans a)) (fun ns'' v x H'' h'' a => hp _ _ _ _ _ (he.trans a))
theorem door_ok (hlib : LibOK P lib) (hc : CallOK P call) {rest : Code} {tr tx : Nat} {rs : List ResultVar} {ns : List Nm} {E : CE} {ρ : Env} {H : CH} {h : PH} {caps : List CV} {ys : List Value} {v : CV} {y : Value} {k : KF} {R : AEnd → PH → Prop}
    (hE : RelE ns E ρ) (hH : RelH P ns H h) (hcaps : toVs ns caps = some ys) (hv : toV ns v = some y) (hq : xDoor P (cC P lib ordsC fuel rest) tr tx rs call caps E v H k = true)
    (hr : ∀ ns' v x H' h', Ext ns ns' → toV ns' v = some x → RelH P ns' H' h' → k (.ret v) H' = true → R (.ret x) h') : door P qx ordsC (LX P lib call ordsC fuel (fun _ _ => False)) rest tr tx rs R ys.toArray ρ y h := by
  unfold xDoor at hq
  unfold door
  have fin : KNOK P ns (fun _ H => xEnd P rs k E H) (fun _ h' => resR P rs R ρ h') := fun ns' E' ρ' H' h' he hE' hH' hq' => by
    unfold resR
    exact end_ok (hE.ext he) hH' hq' fun ns'' v x H' h' he' => hr _ _ _ _ _ (he.trans he')
  refine cC_ok hlib hc rest (((env1_ok hcaps).put tr hv).put tx hv) hH hq ⟨fin, fin, fun i ns' E' ρ' H' h' he hE' hH' hq' => by cases hq'⟩ fun ns' v x H' h' he hx hH' hq' => by cases hq'
/-- All that is to be checked of a function that recovers, and of its closure. -/
def gB (P : Program) (ords ordsC : Nat → List (Nat × List Nat)) (k : Nat) (g : FuncId) (fn gn : Func) : Bool := match fn.body, gn.body with
  | some c, some cg => match guardOf (dropC k c), cloOf cg with
    | some (t, g', capOps, c2), some (tr, tx, rest) => Nat.beq g' g && depthOK k c && decide (t < fn.ntmps) && cellsOnly fn.results.toList && !(cellTmps fn.results.toList).contains t && dstFree (cellTmps fn.results.toList) c2 &&
        ((preC k c).all fun x => codeOK P qx fn.ntmps ords x) && codeOK P qx fn.ntmps ords c2 && codeOK P qx gn.ntmps ordsC rest && decide (tr < gn.ntmps) && decide (tx < gn.ntmps) && decide (capOps.size ≤ gn.ntmps) &&
        !(fn.name == "runtime.NumGoroutine") && !(gn.name == "runtime.NumGoroutine") && Nat.beq gn.results.size 0
    | _, _ => false
  | _, _ => false
theorem guard_ok (hm : P.follows .mixedOrders = true) (hlib : LibOK P lib) (hc : CallOK P call) {f g : FuncId} {j : Nat} {fn gn : Func} {vs : List CV} {H : CH} {k : KF} {ns : List Nm} {h : PH} {xs : List Value} {R : AEnd → PH → Prop} (hf : P.funcs[f]? = some fn) (hg : P.funcs[g]? = some gn)
    (hB : gB P ords ordsC j g fn gn = true) (hH : RelH P ns H h) (hv : toVs ns vs = some xs) (hq : (xGuard P lib ords ordsC fuel j fn gn).1 call vs H k = true)
    (hr : ∀ ns' v x H' h', Ext ns ns' → toV ns' v = some x → RelH P ns' H' h' → k (.ret v) H' = true → R (.ret x) h')
    (hp : ∀ ns' v x H' h', Ext ns ns' → toV ns' v = some x → RelH P ns' H' h' → k (.pan v) H' = true → R (.pan [{ v := x, recovered := false }]) h') : ACalls P f xs.toArray h R := by
  unfold gB at hB
  unfold xGuard at hq
  cases hb : fn.body with
  | none => rw [hb] at hq; cases hq
  | some c =>
    cases hgb : gn.body with
    | none => rw [hb, hgb] at hq; cases hq
    | some cg =>
      rw [hb, hgb] at hq hB
      simp only at hq hB
      cases hgd : guardOf (dropC j c) with
      | none => rw [hgd] at hq; cases hq
      | some p =>
        cases hcl : cloOf cg with
        | none => rw [hgd, hcl] at hq; cases hq
        | some r =>
          obtain ⟨t, g', capOps, c2⟩ := p
          obtain ⟨tr, tx, rest⟩ := r
          rw [hgd, hcl] at hq hB
          simp only [Bool.and_eq_true, Bool.not_eq_true', decide_eq_true_eq] at hq hB
          obtain ⟨⟨⟨⟨⟨⟨⟨⟨⟨⟨⟨⟨⟨⟨b0, b1⟩, b2⟩, b3⟩, b4⟩, b5⟩, b6⟩, b7⟩, b8⟩, b9⟩, b10⟩, b11⟩, b12⟩, b13⟩, b14⟩ := hB
          have := Nat.eq_of_beq_eq_true b0
          subst this
          obtain ⟨id, ty1, p1, af1, ty2, p2, af2, e1⟩ := guardOf_spec hgd
          obtain ⟨id2, ty3, p3, af3, ty4, p4, af4, e2⟩ := cloOf_spec hcl
          refine ACalls_of_guard (qf := qx) (ords := ords) (ordsC := ordsC) (L := LX P lib call ords fuel (fun c h => R (.pan c) h)) (Lc := LX P lib call ordsC fuel (fun _ _ => False)) (L2 := fun Kp => LX P lib call ords fuel Kp) (pre := preC j c) hm hf b12 (by rw [hb, ← e1, ← seqs_pre j c b1]) b2 b3 b4 b5
            (fun x hx => ⟨List.all_eq_true.1 b6 x hx, LX_ok hlib hc x⟩) b7 (fun Kp => LX_ok hlib hc c2) hg b13 (by rw [hgb, ← e2]) (Array.eq_empty_of_size_eq_zero (Nat.eq_of_beq_eq_true b14)) b8 b9 b10 (LX_ok hlib hc rest) b11 ?_
          refine pre_c_ok hlib hc (preC j c) (env1_ok hv) hH hq (fun ns' E ρ H' h' he hE hH' hq' => ?_) hr hp
          split at hq'
          · cases hq'
          · rename_i caps hcaps
            have hr' : ∀ ns'' v x H'' h'', Ext ns' ns'' → toV ns'' v = some x → RelH P ns'' H'' h'' → k (.ret v) H'' = true → R (.ret x) h'' := fun ns'' v x H'' h'' a => hr _ _ _ _ _ (he.trans a)
            have hcv := args_ok hE hcaps
            have ecap : capOps.map (evalE ρ) = (argsOf ρ capOps).toList.toArray := by rw [argsOf_eq]
            have hE2 : RelE ns' (ePut t (some (.fn g' [] caps)) E) (upd ρ (some t) (.func (.func g') #[] (capOps.map (evalE ρ)))) := hE.put t (by rw [ecap]; exact mk_fn (y := []) rfl hcv)
            have nd : ∀ (kn : KN), kn = (fun _ H => xDoor P (cC P lib ordsC fuel rest) tr tx fn.results.toList call caps E .nilif H k) → KNOK P ns' kn (fun _ h' => door P qx ordsC (LX P lib call ordsC fuel (fun _ _ => False)) rest tr tx fn.results.toList R (capOps.map (evalE ρ)) ρ .nilIface h') := fun kn hkn ns2 E2 ρ2 H2 h2 he2 hE2 hH2 hq2 => by
              subst hkn
              rw [ecap]
              exact door_ok hlib hc (hE.ext he2) hH2 (toVs_ext he2 _ hcv) rfl hq2 fun ns'' v x H'' h'' a => hr' _ _ _ _ _ (he2.trans a)
            refine cC_ok hlib hc c2 hE2 hH' hq' ⟨nd _ rfl, nd _ rfl, fun i ns2 E2 ρ2 H2 h2 he2 hE2 hH2 hq2 => by cases hq2⟩ fun ns2 v x H2 h2 he2 hx hH2 hq2 => ⟨x, rfl, ?_⟩
            rw [ecap]
            exact door_ok hlib hc (hE.ext he2) hH2 (toVs_ext he2 _ hcv) hx hq2 fun ns'' v x H'' h'' a => hr' _ _ _ _ _ (he2.trans a)
/-- All that is to be checked of a function. -/
def fB (P : Program) (ot : FuncId → List (Nat × List (Nat × List Nat))) (gt : FuncId → Option (Nat × FuncId)) (f : FuncId) : Bool := match P.funcs[f]? with
  | none => true
  | some fn => match gt f with
    | none => (match fn.body with | none => true | some c => codeOK P qx fn.ntmps (ordOf (ot f)) c) && !(fn.name == "runtime.NumGoroutine")
    | some (j, g) => match P.funcs[g]? with
      | none => true
      | some gn => gB P (ordOf (ot f)) (ordOf (ot g)) j g fn gn
theorem xF_ok (hm : P.follows .mixedOrders = true) (hlib : LibOK P lib) {ot : FuncId → List (Nat × List (Nat × List Nat))} {gt : FuncId → Option (Nat × FuncId)} (hB : ∀ f, fB P ot gt f = true) : ∀ n, CallOK P (xF P lib ot gt fuel n)
  | 0 => fun f vs H k ns h xs R hH hv hq _ _ => by cases hq
  | n + 1 => fun f vs H k ns h xs R hH hv hq hr hp => by
    have ih := xF_ok hm hlib hB n
    have hb := hB f
    simp only [xF, xFn] at hq
    unfold fB at hb
    cases hf : P.funcs[f]? with
    | none => rw [hf] at hq; cases hq
    | some fn =>
      rw [hf] at hq hb
      simp only at hq hb
      cases hg : gt f with
      | none =>
        rw [hg] at hq hb
        simp only [Bool.and_eq_true, Bool.not_eq_true'] at hq hb
        exact fun_ok hm hlib ih hf hb.2 (fun c hc => by have := hb.1; rw [hc] at this; exact this) hH hv hq hr hp
      | some p =>
        obtain ⟨j, g⟩ := p
        rw [hg] at hq hb
        simp only at hq hb
        cases hgn : P.funcs[g]? with
        | none => rw [hgn] at hq; cases hq
        | some gn =>
          rw [hgn] at hq hb
          exact guard_ok hm hlib ih hf hgn hb hH hv hq hr hp
/-- Where the executor says yes, a call says yes. -/
theorem run_ok (hm : P.follows .mixedOrders = true) (hlib : LibOK P lib) {ot : FuncId → List (Nat × List (Nat × List Nat))} {gt : FuncId → Option (Nat × FuncId)} (hB : ∀ f, fB P ot gt f = true) {n : Nat} {f : FuncId} {k : KF} {R : AEnd → PH → Prop} (hq : xF P lib ot gt fuel n f [] h0 k = true) (h : PH)
    (hr : ∀ ns' v x H' h', toV ns' v = some x → RelH P ns' H' h' → k (.ret v) H' = true → R (.ret x) h') (hp : ∀ v H, k (.pan v) H = false) : ACalls P f #[] h R := by
  have none_at : ∀ {b : Nat} {o : CO}, h0.at b = some o → False := fun {b o} hb => by
    unfold CH.at hGet at hb
    cases hl : Nat.blt b 8192 <;> rw [hl] at hb <;> simp only at hb
    · cases hb
    · rw [Px.h0, Tn.get_mk] at hb; cases hb
  have h00 : RelH P [] h0 h := ⟨rfl, fun b o hb => (none_at hb).elim, fun b b' o o' m m' hb => (none_at hb).elim⟩
  exact xF_ok hm hlib hB n f [] h0 k [] h [] R h00 rfl hq (fun ns' v x H' h' _ hx hH hk => hr ns' v x H' h' hx hH hk) (fun ns' v x H' h' _ hx hH hk => by rw [hp] at hk; cases hk)
end
end Go.Px

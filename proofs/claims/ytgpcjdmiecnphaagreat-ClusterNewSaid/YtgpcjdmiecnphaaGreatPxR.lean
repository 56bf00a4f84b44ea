/- Code, loops, functions: the executor tells the truth. -/
import Derived.Test.YtgpcjdmiecnphaaGreatPxQ
set_option linter.unusedSimpArgs false
set_option linter.unusedVariables false
namespace Go.Px
open Go Go.Pw
section
variable {P : Program} {Kp : List PanicEntry → PH → Prop} {call : CALL} {lib : FuncId → List CV → Option CV} {ords : Nat → List (Nat × List Nat)} {fuel : Nat}

/-- What follows a piece of code, where all is told. -/
def QOK (P : Program) (ns : List Nm) (k : KN) (kx : KX) (Q : Exit → Env → PH → Prop) : Prop :=
  KNOK P ns k (Q .normal) ∧ KNOK P ns (kx 0) (Q .ret) ∧ ∀ i, KNOK P ns (kx (i + 1)) (Q (.exit i))
theorem QOK.ext {ns ns' : List Nm} {k : KN} {kx : KX} {Q : Exit → Env → PH → Prop} (he : Ext ns ns') (hk : QOK P ns k kx Q) : QOK P ns' k kx Q := ⟨hk.1.ext he, hk.2.1.ext he, fun i => (hk.2.2 i).ext he⟩
/-- Loops told by their runs. -/
def LX (P : Program) (lib : FuncId → List CV → Option CV) (call : CALL) (ords : Nat → List (Nat × List Nat)) (fuel : Nat) (Kp : List PanicEntry → PH → Prop) : Loops := fun c Q ρ h =>
  ∃ n ns E H k kx kp, RelE ns E ρ ∧ RelH P ns H h ∧ (cLoop (cC P lib ords fuel c) n).1 call k kx kp E H = true ∧ QOK P ns k kx Q ∧ PKOK P ns kp Kp
theorem cC_ok (hlib : LibOK P lib) (hc : CallOK P call) : ∀ (c : Code) {ns : List Nm} {E : CE} {ρ : Env} {H : CH} {h : PH} {k : KN} {kx : KX} {kp : KP} {Q : Exit → Env → PH → Prop}, RelE ns E ρ → RelH P ns H h → (cC P lib ords fuel c).1 call k kx kp E H = true →
    QOK P ns k kx Q → PKOK P ns kp Kp → den P qx ords Kp (LX P lib call ords fuel Kp) c Q ρ h
  | .skip, ns, E, ρ, H, h, k, kx, kp, Q, hE, hH, hq, hk, hkp => hk.1 _ _ _ _ _ (Ext.refl ns) hE hH hq
  | .ret, ns, E, ρ, H, h, k, kx, kp, Q, hE, hH, hq, hk, hkp => hk.2.1 _ _ _ _ _ (Ext.refl ns) hE hH hq
  | .exit id, ns, E, ρ, H, h, k, kx, kp, Q, hE, hH, hq, hk, hkp => hk.2.2 id _ _ _ _ _ (Ext.refl ns) hE hH hq
  | .region id ops draw, ns, E, ρ, H, h, k, kx, kp, Q, hE, hH, hq, hk, hkp => cReg_ok hlib hc hE hH hq hk.1 hkp
  | .seq a b, ns, E, ρ, H, h, k, kx, kp, Q, hE, hH, hq, hk, hkp => by
    simp only [den]
    refine cC_ok hlib hc a hE hH hq ⟨fun ns' E' ρ' H' h' he hE' hH' hq' => ?_, hk.2.1, hk.2.2⟩ hkp
    exact cC_ok hlib hc b hE' hH' hq' (hk.ext he) (hkp.ext he)
  | .cond c a b, ns, E, ρ, H, h, k, kx, kp, Q, hE, hH, hq, hk, hkp => by
    simp only [cC, cIf] at hq
    simp only [den]
    cases hv : (oBx c).1 E with
    | none => rw [hv] at hq; cases hq
    | some v =>
      rw [hv] at hq
      simp only at hq
      cases hb : asB v with
      | none => rw [hb] at hq; cases hq
      | some t =>
        rw [hb] at hq
        have ov := o_ok hE hv
        rw [asB_ok hb] at ov
        refine ⟨t, toV_bool ov, fun e => ?_, fun e => ?_⟩ <;> subst e
        · exact cC_ok hlib hc a hE hH hq hk hkp
        · exact cC_ok hlib hc b hE hH hq hk hkp
  | .block id c, ns, E, ρ, H, h, k, kx, kp, Q, hE, hH, hq, hk, hkp => by
    simp only [den]
    refine cC_ok hlib hc c hE hH hq ⟨hk.1, fun ns' E' ρ' H' h' he hE' hH' hq' => ?_, fun i ns' E' ρ' H' h' he hE' hH' hq' => ?_⟩ hkp
    · have : Nat.beq 0 (id + 1) = false := rfl
      simp only [this] at hq'
      exact hk.2.1 _ _ _ _ _ he hE' hH' hq'
    · simp only at hq' ⊢
      have e1 : Nat.beq (i + 1) (id + 1) = Nat.beq i id := rfl
      rw [e1] at hq'
      cases hb : Nat.beq i id with
      | true => rw [hb] at hq'; exact hk.1 _ _ _ _ _ he hE' hH' hq'
      | false => rw [hb] at hq'; exact hk.2.2 i _ _ _ _ _ he hE' hH' hq'
  | .loop c, ns, E, ρ, H, h, k, kx, kp, Q, hE, hH, hq, hk, hkp => ⟨fuel, ns, E, H, k, kx, kp, hE, hH, hq, hk, hkp⟩
  | .scope _, _, _, _, _, _, _, _, _, _, _, _, hq, _, _ => by cases hq
  | .label _, _, _, _, _, _, _, _, _, _, _, _, hq, _, _ => by cases hq
  | .goto _, _, _, _, _, _, _, _, _, _, _, _, hq, _, _ => by cases hq
  | .rangeFunc .., _, _, _, _, _, _, _, _, _, _, _, hq, _, _ => by cases hq
  | .refuse _, _, _, _, _, _, _, _, _, _, _, _, hq, _, _ => by cases hq
theorem LX_ok (hlib : LibOK P lib) (hc : CallOK P call) (c : Code) : LoopsOK P qx ords Kp (LX P lib call ords fuel Kp) c := by
  intro b _ Q ρ h hL
  obtain ⟨n, ns, E, H, k, kx, kp, h1, h2, h3, h4, h5⟩ := hL
  refine ⟨Q, fun _ _ _ hh => hh, fun n ρ h => ∃ ns' E H, Ext ns ns' ∧ RelE ns' E ρ ∧ RelH P ns' H h ∧ (cLoop (cC P lib ords fuel b) n).1 call k kx kp E H = true, n, ⟨ns, E, H, Ext.refl ns, h1, h2, h3⟩, fun n ρ h hI => ?_⟩
  obtain ⟨ns', E', H', he, g1, g2, g3⟩ := hI
  cases n with
  | zero => cases g3
  | succ n =>
    simp only [cLoop] at g3
    refine cC_ok hlib hc b g1 g2 g3 ⟨fun ns2 E2 ρ2 H2 h2' he2 hE2 hH2 hq2 => ?_, fun ns2 E2 ρ2 H2 h2' he2 => h4.2.1 _ _ _ _ _ (he.trans he2), fun i ns2 E2 ρ2 H2 h2' he2 => h4.2.2 i _ _ _ _ _ (he.trans he2)⟩ (h5.ext he)
    exact ⟨n, Nat.lt_succ_self n, ns2, E2, H2, he.trans he2, hE2, hH2, hq2⟩

/-! ### functions -/
theorem tup_ok {ns : List Nm} {l : List CV} {xs : List Value} (h : toVs ns l = some xs) : toV ns (tupX l) = some (tupleOf xs) := by
  match l, xs, h with
  | [], xs, h => simp only [toVs, Option.some.injEq] at h; subst h; rfl
  | [v], xs, h =>
    obtain ⟨a, y, h1, h2, rfl⟩ := toVs_cons h
    simp only [toVs, Option.some.injEq] at h2
    subst h2
    exact h1
  | v :: u :: l, xs, h =>
    obtain ⟨a, y, h1, h2, rfl⟩ := toVs_cons h
    obtain ⟨b, z, h3, h4, rfl⟩ := toVs_cons h2
    exact mk_tup h
theorem res_ok {ns : List Nm} {E : CE} {ρ : Env} {H : CH} {h : PH} (hE : RelE ns E ρ) (hH : RelH P ns H h) : ∀ {rs : List ResultVar} {l : List CV} {K : List Value → Prop}, (xRes P rs).1 E H = some l → (∀ xs, toVs ns l = some xs → K xs) → resL P rs ρ h K
  | [], l, K, hq, hk => by cases hq; exact hk [] rfl
  | .tmp t :: rs, l, K, hq, hk => by
    simp only [xRes] at hq
    simp only [resL]
    split at hq
    · cases hq
    · rename_i v hv
      split at hq
      · rename_i l2 hl
        cases hq
        exact res_ok hE hH hl fun xs hx => hk _ (toVs_mk (hE t v hv) hx)
      · cases hq
  | .cell a t :: rs, l, K, hq, hk => by
    simp only [xRes] at hq
    simp only [resL]
    cases hs : szOf P t with
    | none => rw [hs] at hq; cases hq
    | some sz =>
      rw [hs] at hq
      simp only at hq ⊢
      split at hq
      · cases hq
      · rename_i v hv
        split at hq
        · rename_i l2 hl
          cases hq
          obtain ⟨y, y1, y2⟩ := load_ok hE hH hv
          exact y2 _ (res_ok hE hH hl fun xs hx => hk _ (toVs_mk y1 hx))
        · cases hq
theorem end_ok {ns : List Nm} {E : CE} {ρ : Env} {H : CH} {h : PH} (hE : RelE ns E ρ) (hH : RelH P ns H h) {rs : List ResultVar} {k : KF} {R : AEnd → PH → Prop} (hq : xEnd P rs k E H = true)
    (hk : ∀ ns' v x H' h', Ext ns ns' → toV ns' v = some x → RelH P ns' H' h' → k (.ret v) H' = true → R (.ret x) h') : resL P rs ρ h (fun vs => R (.ret (tupleOf vs)) h) := by
  unfold xEnd at hq
  split at hq
  · rename_i l hl
    exact res_ok hE hH hl fun xs hx => hk _ _ _ _ _ (Ext.refl ns) (tup_ok hx) hH hq
  · cases hq
theorem env1_get : ∀ {l : List CV} {n t : Nat} {E : CE} {v : CV}, eGet t (env1 l n E) = some v → (n ≤ t ∧ l[t - n]? = some v) ∨ eGet t E = some v
  | [], n, t, E, v, h => .inr h
  | u :: l, n, t, E, v, h => by
    rcases env1_get (l := l) h with ⟨h1, h2⟩ | h1
    · exact .inl ⟨by omega, by rw [show t - n = (t - (n + 1)) + 1 by omega, List.getElem?_cons_succ]; exact h2⟩
    · rcases eGet_put h1 with ⟨rfl, e⟩ | ⟨_, e⟩
      · exact .inl ⟨Nat.le_refl _, by simpa using e⟩
      · exact .inr e
theorem env1_ok {ns : List Nm} {l : List CV} {xs : List Value} (h : toVs ns l = some xs) : RelE ns (env1 l 0 e0) (env0 xs.toArray) := by
  intro t v hv
  rcases env1_get hv with ⟨_, h1⟩ | h1
  · obtain ⟨a, h2, h3⟩ := toVs_get h h1
    rw [Nat.sub_zero] at h3
    unfold env0
    rw [List.getD_eq_getElem?_getD, show xs.toArray.toList = xs from rfl, h3]
    exact h2
  · have : toV ns v = some (env0 xs.toArray t) := RelE.e0 (ρ := env0 xs.toArray) t v h1
    exact this
/-- The end of a function's body. -/
theorem QOK.fin {ns : List Nm} {rs : List ResultVar} {k : KF} {R : AEnd → PH → Prop} (hk : ∀ ns' v x H' h', Ext ns ns' → toV ns' v = some x → RelH P ns' H' h' → k (.ret v) H' = true → R (.ret x) h') :
    QOK P ns (xEnd P rs k) (onEnd (xEnd P rs k)) (fun e ρ h => match e with
      | .normal => resL P rs ρ h (fun vs => R (.ret (tupleOf vs)) h)
      | .ret => resL P rs ρ h (fun vs => R (.ret (tupleOf vs)) h)
      | _ => False) :=
  have key : KNOK P ns (xEnd P rs k) (fun ρ h => resL P rs ρ h (fun vs => R (.ret (tupleOf vs)) h)) := fun ns' E ρ H h he hE hH hq => end_ok hE hH hq fun ns'' v x H' h' he' => hk _ _ _ _ _ (he.trans he')
  ⟨key, key, fun i ns' E ρ H h he hE hH hq => by cases hq⟩
theorem fun_ok (hm : P.follows .mixedOrders = true) (hlib : LibOK P lib) (hc : CallOK P call) {f : FuncId} {fn : Func} {vs : List CV} {H : CH} {k : KF} {ns : List Nm} {h : PH} {xs : List Value} {R : AEnd → PH → Prop} (hf : P.funcs[f]? = some fn)
    (hn : (fn.name == "runtime.NumGoroutine") = false) (hok : ∀ c, fn.body = some c → codeOK P qx fn.ntmps ords c = true) (hH : RelH P ns H h) (hv : toVs ns vs = some xs) (hq : (xFun P lib ords fuel fn).1 call vs H k = true)
    (hr : ∀ ns' v x H' h', Ext ns ns' → toV ns' v = some x → RelH P ns' H' h' → k (.ret v) H' = true → R (.ret x) h')
    (hp : ∀ ns' v x H' h', Ext ns ns' → toV ns' v = some x → RelH P ns' H' h' → k (.pan v) H' = true → R (.pan [{ v := x, recovered := false }]) h') : ACalls P f xs.toArray h R := by
  unfold xFun at hq
  cases hb : fn.body with
  | none => rw [hb] at hq; cases hq
  | some c =>
    rw [hb] at hq
    simp only at hq
    refine ACalls_of_den hm hf hb hn (hok c hb) (LX_ok (call := call) (fuel := fuel) hlib hc c) ?_
    unfold denF
    exact cC_ok hlib hc c (env1_ok hv) hH hq (QOK.fin hr) fun ns' v x H' h' he hx hH' hq' => hp _ _ _ _ _ he hx hH' hq'
end
end Go.Px

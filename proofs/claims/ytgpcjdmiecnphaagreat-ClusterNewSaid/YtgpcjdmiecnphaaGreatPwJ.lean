/- Functions that defer a closure which recovers: the function's contract. -/
import Derived.Test.YtgpcjdmiecnphaaGreatPwI
set_option linter.unusedSimpArgs false
set_option linter.unusedVariables false
namespace Go.Pw
open Go

section
variable {P : Program} {qf : FuncId → Bool} {ords : Nat → List (Nat × List Nat)}

def cellsOnly (rs : List ResultVar) : Bool := rs.all fun r => match r with | .cell _ _ => true | .tmp _ => false
def cellTmps (rs : List ResultVar) : List Nat := rs.filterMap fun r => match r with | .cell x _ => some x | .tmp _ => none
theorem resL_congr {ρ ρ' : Env} {h : PH} : ∀ (rs : List ResultVar) (K : List Value → Prop), cellsOnly rs = true → (∀ x ∈ cellTmps rs, ρ' x = ρ x) → resL P rs ρ h K → resL P rs ρ' h K
  | [], K, _, _, hk => hk
  | .tmp t :: rs, K, hc, _, hk => by simp [cellsOnly] at hc
  | .cell x t :: rs, K, hc, hx, hk => by
    have hc' : cellsOnly rs = true := by simpa [cellsOnly] using hc
    have hx0 : ρ' x = ρ x := hx x (by simp [cellTmps])
    have hx' : ∀ y ∈ cellTmps rs, ρ' y = ρ y := fun y hy => hx y (by
      have : cellTmps (.cell x t :: rs) = x :: cellTmps rs := rfl
      rw [this]; exact List.mem_cons_of_mem _ hy)
    simp only [resL, hx0] at hk ⊢
    cases hs : szOf P t with
    | none => rw [hs] at hk; exact hk.elim
    | some sz =>
      rw [hs] at hk
      obtain ⟨b, off, c, e, fr, a1, a2, a3⟩ := hk
      refine ⟨b, off, c, e, fr, a1, a2, ?_⟩
      have : ∀ {K1 K2 : Value → Prop}, (∀ v, K1 v → K2 v) → cellsAt sz c off K1 → cellsAt sz c off K2 := fun {K1 K2} hk => by
        unfold cellsAt
        cases sz with
        | none => rintro ⟨v, h1, h2⟩; exact ⟨v, h1, hk _ h2⟩
        | some n => rintro ⟨h1, h2⟩; exact ⟨h1, hk _ h2⟩
      exact this (fun v hv => resL_congr rs _ hc' hx' hv) a3

/-- No operation of the code writes one of these. -/
def dstFree (keep : List Nat) : Code → Bool
  | .region _ ops _ => ops.toList.all fun o => match o.dst with | some d => !keep.contains d | none => true
  | .seq x y => dstFree keep x && dstFree keep y
  | .cond _ x y => dstFree keep x && dstFree keep y
  | .block _ c => dstFree keep c
  | .loop c => dstFree keep c
  | _ => true
theorem gOK_keep {keep : List Nat} {D : List Deferred} {ρ : Env} : ∀ c : Code, dstFree keep c = true → gOK (fun a => a.defers = D ∧ ∀ x ∈ keep, envOf a x = ρ x) c
  | .region _ ops _, hc => fun o ho a v hd => by
    have := List.all_eq_true.1 hc o ho
    cases hdd : o.dst with
    | none => exact hd
    | some d =>
      rw [hdd] at this
      refine ⟨hd.1, fun x hx => ?_⟩
      have hne : d ≠ x := fun e => by subst e; simp [hx] at this
      rw [← hd.2 x hx]
      unfold envOf Act.put
      simp only [Array.getD_eq_getD_getElem?, Array.getElem?_setIfInBounds_ne hne]
  | .seq x y, hc => by simp only [dstFree, Bool.and_eq_true] at hc; exact ⟨gOK_keep x hc.1, gOK_keep y hc.2⟩
  | .cond _ x y, hc => by simp only [dstFree, Bool.and_eq_true] at hc; exact ⟨gOK_keep x hc.1, gOK_keep y hc.2⟩
  | .block _ c, hc => gOK_keep c hc
  | .loop c, hc => gOK_keep c hc
  | .skip, _ | .ret, _ | .exit _, _ | .scope _, _ | .label _, _ | .goto _, _ | .rangeFunc .., _ | .refuse _, _ => trivial

def resR (P : Program) (rs : List ResultVar) (R : AEnd → PH → Prop) (ρ : Env) (h : PH) : Prop := resL P rs ρ h fun vs => R (.ret (tupleOf vs)) h
/-- What the closure makes of v, and what is handed back then. -/
def door (P : Program) (qf : FuncId → Bool) (ords : Nat → List (Nat × List Nat)) (L : Loops) (rest : Code) (tr tx : Nat) (rs : List ResultVar) (R : AEnd → PH → Prop) (caps : Array Value) (ρ : Env) (v : Value) (h : PH) : Prop :=
  den P qf ords (fun _ _ => False) L rest (fun e _ h' => match e with | .normal => resR P rs R ρ h' | .ret => resR P rs R ρ h' | _ => False) (upd (upd (env0 caps) (some tr) v) (some tx) v) h
def seqs : List Code → Code → Code
  | [], t => t
  | x :: xs, t => .seq x (seqs xs t)
def denPre (P : Program) (qf : FuncId → Bool) (ords : Nat → List (Nat × List Nat)) (rs : List ResultVar) (R : AEnd → PH → Prop) (L : Loops) : List Code → (Env → PH → Prop) → Env → PH → Prop
  | [], K, ρ, h => K ρ h
  | x :: xs, K, ρ, h => den P qf ords (fun c h => R (.pan c) h) L x (fun e ρ h => match e with | .normal => denPre P qf ords rs R L xs K ρ h | .ret => resR P rs R ρ h | _ => False) ρ h

/-- The post of a function, at its end. -/
def PostD (h0 : PH) (w0 : World) (R : AEnd → PH → Prop) : Ending → World → Prop := fun e w' => match e with
  | .returned v => ∃ h', Holds h' w' ∧ Framed h0 h' w0 w' ∧ R (.ret v) h'
  | .panicked c => ∃ h', Holds h' w' ∧ Framed h0 h' w0 w' ∧ R (.pan c) h'
  | .outgrown => False

theorem pre_sound (hm : P.follows .mixedOrders = true) {fn : Func} {R : AEnd → PH → Prop} {L : Loops} {h0 : PH} {w0 : World} {T : Code} {K : Env → PH → Prop}
    (hT : ∀ a h w, fn.ntmps ≤ a.tmps.size → a.defers = [] → Holds h w → Framed h0 h w0 w → K (envOf a) h → T.wp P (bodyPostD P fn (PostD h0 w0 R)) a w) :
    ∀ (pre : List Code), (∀ x ∈ pre, codeOK P qf fn.ntmps ords x = true ∧ LoopsOK P qf ords (fun c h => R (.pan c) h) L x) → ∀ a h w, fn.ntmps ≤ a.tmps.size → a.defers = [] → Holds h w → Framed h0 h w0 w →
      denPre P qf ords fn.results.toList R L pre K (envOf a) h → (seqs pre T).wp P (bodyPostD P fn (PostD h0 w0 R)) a w
  | [], _, a, h, w, hs, hd, hw, hf, H => hT a h w hs hd hw hf H
  | x :: xs, hp, a, h, w, hs, hd, hw, hf, H => by
    obtain ⟨p1, p2⟩ := hp x (by simp)
    refine wp_seq (wp_mono (den_sound (w0 := w0) (n := fn.ntmps) (G := fun a => a.defers = []) hm x p2 p1 (gOK_defers x) _ a h w hs hd hw hf H) fun e a' w' hq => ?_)
    cases e <;> simp only [AQ, Exit.then, bodyPostD] at hq ⊢
    · obtain ⟨b1, b2, h', b3, b4, b5⟩ := hq
      exact pre_sound hm hT xs (fun y hy => hp y (by simp [hy])) a' h' w' b1 b2 b3 b4 b5
    · obtain ⟨_, _, _, _, _, hh⟩ := hq; exact hh
    · obtain ⟨_, _, _, _, _, hh⟩ := hq; exact hh
    · obtain ⟨b1, b2, h', b3, b4, b5⟩ := hq
      obtain ⟨v, r1, r2⟩ := results_run b3 (K := fun v => R (.ret v) h') b5
      rw [b2]
      exact ⟨v, r1, h', b3, b4, r2⟩
    · obtain ⟨b2, h', b3, b4, b5⟩ := hq
      rw [b2]
      exact ⟨h', b3, b4, b5⟩

theorem ACalls_of_guard {ordsC : Nat → List (Nat × List Nat)} (hm : P.follows .mixedOrders = true) {f g : FuncId} {fn gn : Func} {pre : List Code} {C2 rest : Code} {id id2 t tr tx : Nat} {capOps : Array Operand}
    {ty1 ty2 ty3 ty4 : TypeId} {p1 p2 p3 p4 : String} {af1 af2 af3 af4 : Array Edge} {args : Array Value} {h : PH} {R : AEnd → PH → Prop} {L Lc : Loops} {L2 : (List PanicEntry → PH → Prop) → Loops}
    (hf : P.funcs[f]? = some fn) (hn : (fn.name == "runtime.NumGoroutine") = false)
    (hb : fn.body = some (seqs pre (.seq (.region id #[⟨some t, .makeFunc (.func g) #[] capOps, ty1, p1, af1, none⟩, ⟨none, .defer ⟨.value (.tmp t), #[], #[]⟩, ty2, p2, af2, none⟩] false) C2)))
    (ht : t < fn.ntmps) (hcr : cellsOnly fn.results.toList = true) (htk : (cellTmps fn.results.toList).contains t = false) (hfree : dstFree (cellTmps fn.results.toList) C2 = true)
    (hpre : ∀ x ∈ pre, codeOK P qf fn.ntmps ords x = true ∧ LoopsOK P qf ords (fun c h => R (.pan c) h) L x)
    (hok2 : codeOK P qf fn.ntmps ords C2 = true) (hl2 : ∀ Kp, LoopsOK P qf ords Kp (L2 Kp) C2)
    (hg : P.funcs[g]? = some gn) (hgn : (gn.name == "runtime.NumGoroutine") = false)
    (hgb : gn.body = some (.seq (.region id2 #[⟨some tr, .call ⟨.builtin .recover, #[], #[]⟩, ty3, p3, af3, none⟩, ⟨some tx, .assign (.tmp tr), ty4, p4, af4, none⟩] false) rest))
    (hgr : gn.results = #[]) (hgok : codeOK P qf gn.ntmps ordsC rest = true) (htr : tr < gn.ntmps) (htx : tx < gn.ntmps) (hlc : LoopsOK P qf ordsC (fun _ _ => False) Lc rest) (hcs : capOps.size ≤ gn.ntmps)
    (H : denPre P qf ords fn.results.toList R L pre (fun ρ h => den P qf ords (fun c h' => ∃ v, c = [{ v := v, recovered := false }] ∧ door P qf ordsC Lc rest tr tx fn.results.toList R (capOps.map (evalE ρ)) ρ v h')
      (L2 (fun c h' => ∃ v, c = [{ v := v, recovered := false }] ∧ door P qf ordsC Lc rest tr tx fn.results.toList R (capOps.map (evalE ρ)) ρ v h')) C2
      (fun e _ h' => match e with | .normal => door P qf ordsC Lc rest tr tx fn.results.toList R (capOps.map (evalE ρ)) ρ .nilIface h' | .ret => door P qf ordsC Lc rest tr tx fn.results.toList R (capOps.map (evalE ρ)) ρ .nilIface h' | _ => False)
      (upd ρ (some t) (.func (.func g) #[] (capOps.map (evalE ρ)))) h) (env0 args) h) :
    ACalls P f args h R := by
  have hbs : fn.body.isSome = true := by rw [hb]; rfl
  refine ⟨⟨fn, hf, hbs, hn⟩, fun w hw => (show Calls P f args w (PostD h w R) from calls_of_wp_defers hf hb ?_)⟩
  have henv : envOf { tmps := args ++ Array.replicate (fn.ntmps - args.size) undef, defers := [] } = env0 args := by
    funext t
    unfold envOf env0
    rw [Array.getD_eq_getD_getElem?, List.getD_eq_getElem?_getD]
    rcases Nat.lt_or_ge t args.size with ht | ht
    · rw [Array.getElem?_append_left ht]; simp
    · rw [Array.getElem?_append_right ht, List.getElem?_eq_none (by simpa using ht)]
      rcases Nat.lt_or_ge (t - args.size) (fn.ntmps - args.size) with h' | h'
      · simp [h']
      · rw [Array.getElem?_eq_none (by simpa using h')]
  refine pre_sound (qf := qf) (ords := ords) hm (fun a h1 w1 hs hd hw1 hf1 HK => ?_) pre hpre _ h w (by simp; omega) rfl hw (Framed.refl h w) (by rw [henv]; exact H)
  generalize hρ : envOf a = ρ at HK
  generalize hcv : capOps.map (evalE ρ) = caps at HK
  refine wp_seq (wp_region ?_)
  show wpOps P _ _ [0, 1] a w1
  have hmk : (execOp a.eval ⟨some t, .makeFunc (.func g) #[] capOps, ty1, p1, af1, none⟩).run P w1 = .ok (.value (.func (.func g) #[] (capOps.map a.eval))) w1 := by
    simp [execOp, Instr.makeFunc]
  have hev : capOps.map a.eval = caps := by rw [eval_envOf, hρ, hcv]
  rw [hev] at hmk
  let a1 : Act := a.put (some t) (.func (.func g) #[] caps)
  let d : Deferred := { target := .fn (.func g) caps, args := #[] }
  have hgt : a1.tmps.getD t undef = .func (.func g) #[] caps := by simp [a1, Act.put, Array.getD, Nat.lt_of_lt_of_le ht hs]
  have hdf : (execOp a1.eval ⟨none, .defer ⟨.value (.tmp t), #[], #[]⟩, ty2, p2, af2, none⟩).run P w1 = .ok (.defer d) w1 := by
    simp [execOp, resolve, Act.eval, hgt, d, Deferred.ofValue]
  let a2 : Act := { a1 with defers := [d] }
  have hs2 : fn.ntmps ≤ a2.tmps.size := by simp [a2, a1, Act.put]; exact hs
  have henv2 : envOf a2 = upd ρ (some t) (.func (.func g) #[] caps) := by
    show envOf a1 = _
    rw [← hρ]
    exact envOf_put _ fun x hx => by cases hx; exact Nat.lt_of_lt_of_le ht hs
  have hkeep : ∀ x ∈ cellTmps fn.results.toList, envOf a2 x = ρ x := fun x hx => by
    have hne : x ≠ t := fun e => by subst e; simp [hx] at htk
    rw [henv2, upd_ne _ _ hne]
  have inv : ∀ (w' : World), (invoke (.fn (.func g) caps) #[]).run P w' = .ok (.enter g caps) w' := fun w' => by
    simp [invoke, callFunc, hg, hgb, hgn]
    simpa using hgn
  have leave : ∀ (a' : Act) (h' : PH) (w' : World) (v : Value) (u u' : FrameMode), (∀ x ∈ cellTmps fn.results.toList, envOf a' x = ρ x) → Holds h' w' → Framed h h' w w' →
      door P qf ordsC Lc rest tr tx fn.results.toList R caps ρ v h' → u ≠ .run → settle u' = .returning →
      ((u = .returning ∧ v = .nilIface ∧ u' = .returning) ∨ (∃ older, u = .panicking ({ v := v, recovered := false } :: older) ∧ u' = .panicking ({ v := v, recovered := true } :: older))) →
      Leaves P fn a'.tmps (PostD h w R) [d] u w' := fun a' h' w' v u u' hk hw' hf' hdoor hur hset hu => by
    refine leaves_cons hur (inv w') ?_
    refine (clo_sound (Rk := fun h'' => resR P fn.results.toList R ρ h'') hm hg hgb hgr hgok htr htx hlc (by rw [← hcv]; simpa using hcs) hw' hdoor hu).mono fun e u2 w2 hh => ?_
    obtain ⟨rfl, ⟨x, rfl⟩, h2, hw2, hf2, hres⟩ := hh
    simp only [hset, Leaves]
    obtain ⟨v2, r1, r2⟩ := results_run (a := a') hw2 (K := fun v => R (.ret v) h2) (resL_congr _ _ hcr (fun x hx => hk x hx) hres)
    exact ⟨v2, r1, h2, hw2, hf'.trans hf2, r2⟩
  have fin : C2.wp P (bodyPostD P fn (PostD h w R)) a2 w1 := by
    refine wp_mono (den_sound (w0 := w) (n := fn.ntmps) (G := fun a => a.defers = [d] ∧ ∀ x ∈ cellTmps fn.results.toList, envOf a x = ρ x) hm C2 (hl2 _) hok2 (gOK_keep C2 hfree) _ a2 h1 w1 hs2 ⟨rfl, hkeep⟩ hw1 hf1 (by rw [henv2]; exact HK)) fun e a' w' hq => ?_
    cases e <;> simp only [AQ, bodyPostD] at hq ⊢
    · obtain ⟨b1, ⟨b2, bk⟩, h', b3, b4, b5⟩ := hq
      rw [b2]
      exact leave a' h' w' .nilIface .returning .returning bk b3 b4 b5 (by simp) rfl (.inl ⟨rfl, rfl, rfl⟩)
    · obtain ⟨_, _, _, _, _, hh⟩ := hq; exact hh
    · obtain ⟨_, _, _, _, _, hh⟩ := hq; exact hh
    · obtain ⟨b1, ⟨b2, bk⟩, h', b3, b4, b5⟩ := hq
      rw [b2]
      exact leave a' h' w' .nilIface .returning .returning bk b3 b4 b5 (by simp) rfl (.inl ⟨rfl, rfl, rfl⟩)
    · obtain ⟨⟨b2, bk⟩, h', b3, b4, v, rfl, b5⟩ := hq
      rw [b2]
      exact leave a' h' w' v _ (.panicking [{ v := v, recovered := true }]) bk b3 b4 b5 (by simp) rfl (.inr ⟨[], rfl, rfl⟩)
  simp only [wpOps, List.getElem?_toArray, List.getElem?_cons_zero, List.getElem?_cons_succ, Region.wanted, if_true]
  left
  unfold Oper.wp
  rw [hmk, Oper.upon_value]
  left
  rw [show (a.put (some t) (.func (.func g) #[] caps)) = a1 from rfl, hdf, Oper.upon_defer]
  have : ({ a1 with defers := d :: a1.defers } : Act) = a2 := by
    have : a1.defers = [] := hd
    simp only [a2, this]
  show C2.wp P (bodyPostD P fn (PostD h w R)) ({ a1 with defers := d :: a1.defers } : Act) w1
  rw [this]
  exact fin

def preC : Nat → Code → List Code
  | 0, _ => []
  | k + 1, .seq x y => x :: preC k y
  | _ + 1, _ => []
def dropC : Nat → Code → Code
  | 0, c => c
  | k + 1, .seq _ y => dropC k y
  | _ + 1, c => c
def depthOK : Nat → Code → Bool
  | 0, _ => true
  | k + 1, .seq _ y => depthOK k y
  | _ + 1, _ => false
theorem seqs_pre : ∀ (k : Nat) (c : Code), depthOK k c = true → c = seqs (preC k c) (dropC k c)
  | 0, c, _ => rfl
  | k + 1, .seq x y, h => by
    show Code.seq x y = .seq x (seqs (preC k y) (dropC k y))
    rw [← seqs_pre k y h]
  | k + 1, .skip, h | k + 1, .ret, h | k + 1, .exit _, h | k + 1, .scope _, h | k + 1, .label _, h | k + 1, .goto _, h | k + 1, .rangeFunc .., h | k + 1, .refuse _, h | k + 1, .region .., h | k + 1, .cond .., h | k + 1, .block .., h | k + 1, .loop _, h => by simp [depthOK] at h
def guardOf : Code → Option (Nat × FuncId × Array Operand × Code)
  | .seq (.region _ ⟨[⟨some t, .makeFunc (.func g) ⟨[]⟩ caps, _, _, _, none⟩, ⟨none, .defer ⟨.value (.tmp t'), ⟨[]⟩, ⟨[]⟩⟩, _, _, _, none⟩]⟩ false) c => cond (Nat.beq t' t) (some (t, g, caps, c)) none
  | _ => none
theorem guardOf_spec {c c2 : Code} {t : Nat} {g : FuncId} {caps : Array Operand} (h : guardOf c = some (t, g, caps, c2)) : ∃ id ty1 p1 af1 ty2 p2 af2,
    c = .seq (.region id #[⟨some t, .makeFunc (.func g) #[] caps, ty1, p1, af1, none⟩, ⟨none, .defer ⟨.value (.tmp t), #[], #[]⟩, ty2, p2, af2, none⟩] false) c2 := by
  unfold guardOf at h
  split at h
  · rename_i t1 g1 cp ty1 p1 af1 t2 ty2 p2 af2 c1
    cases hb : Nat.beq t2 t1 <;> rw [hb] at h <;> simp only [cond] at h
    · cases h
    · cases h
      have := Nat.eq_of_beq_eq_true hb
      subst this
      exact ⟨_, _, _, _, _, _, _, rfl⟩
  · cases h
def cloOf : Code → Option (Nat × Nat × Code)
  | .seq (.region _ ⟨[⟨some tr, .call ⟨.builtin .recover, ⟨[]⟩, ⟨[]⟩⟩, _, _, _, none⟩, ⟨some tx, .assign (.tmp tr'), _, _, _, none⟩]⟩ false) c => cond (Nat.beq tr' tr) (some (tr, tx, c)) none
  | _ => none
theorem cloOf_spec {c c2 : Code} {tr tx : Nat} (h : cloOf c = some (tr, tx, c2)) : ∃ id ty1 p1 af1 ty2 p2 af2,
    c = .seq (.region id #[⟨some tr, .call ⟨.builtin .recover, #[], #[]⟩, ty1, p1, af1, none⟩, ⟨some tx, .assign (.tmp tr), ty2, p2, af2, none⟩] false) c2 := by
  unfold cloOf at h
  split at h
  · rename_i t1 ty1 p1 af1 t2 t3 ty2 p2 af2 c1
    cases hb : Nat.beq t3 t1 <;> rw [hb] at h <;> simp only [cond] at h
    · cases h
    · cases h
      have := Nat.eq_of_beq_eq_true hb
      subst this
      exact ⟨_, _, _, _, _, _, _, rfl⟩
  · cases h

/-- What is asked of a guarded function without loops of its own. -/
def denGd (P : Program) (qf : FuncId → Bool) (ords ordsC : Nat → List (Nat × List Nat)) (k : Nat) (c cg : Code) (t : Nat) (g : FuncId) (tr tx : Nat) (capOps : Array Operand) (rs : List ResultVar) (args : Array Value) (h : PH) (R : AEnd → PH → Prop) : Prop :=
  denPre P qf ords rs R noLoops (preC k c) (fun ρ h => den P qf ords (fun c h' => ∃ v, c = [{ v := v, recovered := false }] ∧ door P qf ordsC noLoops (dropC 1 cg) tr tx rs R (capOps.map (evalE ρ)) ρ v h')
      noLoops (dropC (k + 1) c)
      (fun e _ h' => match e with | .normal => door P qf ordsC noLoops (dropC 1 cg) tr tx rs R (capOps.map (evalE ρ)) ρ .nilIface h' | .ret => door P qf ordsC noLoops (dropC 1 cg) tr tx rs R (capOps.map (evalE ρ)) ρ .nilIface h' | _ => False)
      (upd ρ (some t) (.func (.func g) #[] (capOps.map (evalE ρ)))) h) (env0 args) h

/-- All that is to be checked of a guarded function and its closure. -/
def guardB (P : Program) (qf : FuncId → Bool) (ords ordsC : Nat → List (Nat × List Nat)) (k : Nat) (fn gn : Func) (c cg : Code) (t tr tx ncap : Nat) : Bool :=
  depthOK k c && decide (t < fn.ntmps) && cellsOnly fn.results.toList && !(cellTmps fn.results.toList).contains t && dstFree (cellTmps fn.results.toList) (dropC (k + 1) c) && ((preC k c).all fun x => codeOK P qf fn.ntmps ords x && Nat.beq (loopsOf x).length 0) &&
  codeOK P qf fn.ntmps ords (dropC (k + 1) c) && Nat.beq (loopsOf (dropC (k + 1) c)).length 0 && codeOK P qf gn.ntmps ordsC (dropC 1 cg) && Nat.beq (loopsOf (dropC 1 cg)).length 0 && decide (tr < gn.ntmps) && decide (tx < gn.ntmps) && decide (ncap ≤ gn.ntmps)

theorem ACalls_of_guardB {ordsC : Nat → List (Nat × List Nat)} (hm : P.follows .mixedOrders = true) {f g : FuncId} {fn gn : Func} {c cg : Code} {k t tr tx : Nat} {capOps : Array Operand} {args : Array Value} {h : PH} {R : AEnd → PH → Prop}
    (hf : P.funcs[f]? = some fn) (hn : (fn.name == "runtime.NumGoroutine") = false) (hb : fn.body = some c) (hg : P.funcs[g]? = some gn) (hgn : (gn.name == "runtime.NumGoroutine") = false) (hgb : gn.body = some cg)
    (hgr : gn.results = #[]) (h1 : guardOf (dropC k c) = some (t, g, capOps, dropC (k + 1) c)) (h2 : cloOf cg = some (tr, tx, dropC 1 cg)) (hB : guardB P qf ords ordsC k fn gn c cg t tr tx capOps.size = true)
    (H : denGd P qf ords ordsC k c cg t g tr tx capOps fn.results.toList args h R) : ACalls P f args h R := by
  simp only [guardB, Bool.and_eq_true, Bool.not_eq_true', decide_eq_true_eq] at hB
  obtain ⟨⟨⟨⟨⟨⟨⟨⟨⟨⟨⟨⟨b1, b2⟩, b3⟩, b4⟩, b5⟩, b6⟩, b7⟩, b8⟩, b9⟩, b10⟩, b11⟩, b12⟩, b13⟩ := hB
  obtain ⟨id, ty1, p1, af1, ty2, p2, af2, e1⟩ := guardOf_spec h1
  obtain ⟨id2, ty3, p3, af3, ty4, p4, af4, e2⟩ := cloOf_spec h2
  refine ACalls_of_guard (qf := qf) (ords := ords) (ordsC := ordsC) (L := noLoops) (Lc := noLoops) (L2 := fun _ => noLoops) (pre := preC k c) hm hf hn (by rw [hb, ← e1, ← seqs_pre k c b1]) b2 b3 b4 b5 (fun x hx => ?_) b7 (fun Kp => noLoops_ok (Nat.eq_of_beq_eq_true b8)) hg hgn (by rw [hgb, ← e2]) hgr b9 b11 b12 (noLoops_ok (Nat.eq_of_beq_eq_true b10)) b13 H
  have := List.all_eq_true.1 b6 x hx
  simp only [Bool.and_eq_true] at this
  exact ⟨this.1, noLoops_ok (Nat.eq_of_beq_eq_true this.2)⟩

/-- What is asked of a guarded function with loops behind the deferred closure. -/
def denGdL (P : Program) (qf : FuncId → Bool) (ords ordsC : Nat → List (Nat × List Nat)) (L2 : (List PanicEntry → PH → Prop) → Loops) (k : Nat) (c cg : Code) (t : Nat) (g : FuncId) (tr tx : Nat) (capOps : Array Operand) (rs : List ResultVar) (args : Array Value) (h : PH) (R : AEnd → PH → Prop) : Prop :=
  denPre P qf ords rs R noLoops (preC k c) (fun ρ h => den P qf ords (fun c h' => ∃ v, c = [{ v := v, recovered := false }] ∧ door P qf ordsC noLoops (dropC 1 cg) tr tx rs R (capOps.map (evalE ρ)) ρ v h')
      (L2 (fun c h' => ∃ v, c = [{ v := v, recovered := false }] ∧ door P qf ordsC noLoops (dropC 1 cg) tr tx rs R (capOps.map (evalE ρ)) ρ v h')) (dropC (k + 1) c)
      (fun e _ h' => match e with | .normal => door P qf ordsC noLoops (dropC 1 cg) tr tx rs R (capOps.map (evalE ρ)) ρ .nilIface h' | .ret => door P qf ordsC noLoops (dropC 1 cg) tr tx rs R (capOps.map (evalE ρ)) ρ .nilIface h' | _ => False)
      (upd ρ (some t) (.func (.func g) #[] (capOps.map (evalE ρ)))) h) (env0 args) h
def guardBL (P : Program) (qf : FuncId → Bool) (ords ordsC : Nat → List (Nat × List Nat)) (k : Nat) (fn gn : Func) (c cg : Code) (t tr tx ncap : Nat) : Bool :=
  depthOK k c && decide (t < fn.ntmps) && cellsOnly fn.results.toList && !(cellTmps fn.results.toList).contains t && dstFree (cellTmps fn.results.toList) (dropC (k + 1) c) && ((preC k c).all fun x => codeOK P qf fn.ntmps ords x && Nat.beq (loopsOf x).length 0) &&
  codeOK P qf fn.ntmps ords (dropC (k + 1) c) && codeOK P qf gn.ntmps ordsC (dropC 1 cg) && Nat.beq (loopsOf (dropC 1 cg)).length 0 && decide (tr < gn.ntmps) && decide (tx < gn.ntmps) && decide (ncap ≤ gn.ntmps)
theorem ACalls_of_guardBL {ordsC : Nat → List (Nat × List Nat)} (hm : P.follows .mixedOrders = true) {f g : FuncId} {fn gn : Func} {c cg : Code} {k t tr tx : Nat} {capOps : Array Operand} {args : Array Value} {h : PH} {R : AEnd → PH → Prop} {L2 : (List PanicEntry → PH → Prop) → Loops}
    (hf : P.funcs[f]? = some fn) (hn : (fn.name == "runtime.NumGoroutine") = false) (hb : fn.body = some c) (hg : P.funcs[g]? = some gn) (hgn : (gn.name == "runtime.NumGoroutine") = false) (hgb : gn.body = some cg)
    (hgr : gn.results = #[]) (h1 : guardOf (dropC k c) = some (t, g, capOps, dropC (k + 1) c)) (h2 : cloOf cg = some (tr, tx, dropC 1 cg)) (hB : guardBL P qf ords ordsC k fn gn c cg t tr tx capOps.size = true)
    (hl2 : ∀ Kp, LoopsOK P qf ords Kp (L2 Kp) (dropC (k + 1) c))
    (H : denGdL P qf ords ordsC L2 k c cg t g tr tx capOps fn.results.toList args h R) : ACalls P f args h R := by
  simp only [guardBL, Bool.and_eq_true, Bool.not_eq_true', decide_eq_true_eq] at hB
  obtain ⟨⟨⟨⟨⟨⟨⟨⟨⟨⟨⟨b1, b2⟩, b3⟩, b4⟩, b5⟩, b6⟩, b7⟩, b9⟩, b10⟩, b11⟩, b12⟩, b13⟩ := hB
  obtain ⟨id, ty1, p1, af1, ty2, p2, af2, e1⟩ := guardOf_spec h1
  obtain ⟨id2, ty3, p3, af3, ty4, p4, af4, e2⟩ := cloOf_spec h2
  refine ACalls_of_guard (qf := qf) (ords := ords) (ordsC := ordsC) (L := noLoops) (Lc := noLoops) (L2 := L2) (pre := preC k c) hm hf hn (by rw [hb, ← e1, ← seqs_pre k c b1]) b2 b3 b4 b5 (fun x hx => ?_) b7 hl2 hg hgn (by rw [hgb, ← e2]) hgr b9 b11 b12 (noLoops_ok (Nat.eq_of_beq_eq_true b10)) b13 H
  have := List.all_eq_true.1 b6 x hx
  simp only [Bool.and_eq_true] at this
  exact ⟨this.1, noLoops_ok (Nat.eq_of_beq_eq_true this.2)⟩
end
end Go.Pw

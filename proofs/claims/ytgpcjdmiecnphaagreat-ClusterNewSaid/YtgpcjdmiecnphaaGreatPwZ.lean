/- From a contract over the whole memory to a row's last line: the law answers true, the input reads as it did. -/
import Derived.Test.YtgpcjdmiecnphaaGreatPwS
import Derived.WalkKit
import Derived.ProofKit
import Derived.Carry
import Derived.ChangeSame
import Derived.JoinedOf
import Derived.RowKit
import Derived.OpenShut
set_option linter.unusedSimpArgs false
set_option linter.unusedVariables false
namespace Go.Pw
open Go Go.ChangeShapes Go.WideShapes Go.ChangeAt Go.RowKit

/-- The whole of a world's memory. -/
def whole (W : World) : PH := fun b => W.heap[b]?
theorem whole_holds (W : World) : Holds (whole W) W := fun b o h => h
theorem below_of {W W' : World} (hH : Holds (whole W) W') (hF : Framed (whole W) (whole W) W W') : Below W.heap.size W W' where
  os := hF.os
  tape := hF.tape
  output := hF.output
  size := hF.size
  block k hk := by
    have : W.heap[k]? = some W.heap[k] := Array.getElem?_eq_getElem hk
    rw [hH k _ this, this]

section
variable {H : Type} {enc : TypeId × Value → H} {P : Program}

theorem stays {ts : List TypeId} (hl : laidOutB P = true) {W W' : World} (hb : Below W.heap.size W W') {sp : Nat → Bool} :
    ∀ {ts : List TypeId} {vs : List Value} {ds : List (DataW H)} {p : List MemPlace}, ts.all (fun t => P.readableRec t && decide (t < P.types.size)) = true →
      DataW.TrodAll enc P W 0 (fun _ => true) true ts vs ds p → (∀ x ∈ p, x.block < W.heap.size) → (∀ x ∈ p, sp x.block = true) → DataW.TrodAll enc P W' 0 sp true ts vs ds p
  | [], vs, ds, p, _, h, _, _ => by
    obtain ⟨rfl, rfl, rfl⟩ := trodAll_nil h
    exact trodAll_mk0
  | t :: ts, vs, ds, p, ht, h, hlt, hs => by
    obtain ⟨v, vs', d, ds', p0, q, rfl, rfl, rfl, h0, h1⟩ := trodAll_cons h
    simp only [List.all_cons, Bool.and_eq_true, decide_eq_true_eq] at ht
    exact trodAll_cons_mk (WideElems.Trod_stays hl ht.1.1 ht.1.2 h0 (fun x hx => hb.same (hlt x (by simp [hx]))) (fun x hx => hs x (by simp [hx])))
      (stays (ts := ts) hl hb (by simpa using ht.2) h1 (fun x hx => hlt x (by simp [hx])) (fun x hx => hs x (by simp [hx])))

theorem law_post {f : Func} {s : ChangeSpec} {apart fresh handsOn again : Bool} {W W' : World} {args : Array Value} {ds gs : List (DataW H)} {before : List MemPlace} {tb : TypeId}
    (hW : DataW.Whole enc P f.params.toList s.vars apart W args.toList ds gs before) (hb : Below W.heap.size W W') (hl : laidOutB P = true)
    (hrd : f.params.toList.all (fun t => P.readableRec t && decide (t < P.types.size)) = true) (hvars : s.vars = [])
    (hfn : s.fn H ds = { results := [.lit (.bool true)], args := ds }) (hres : f.resultTypes = #[tb]) (htb : P.underlying tb = some .bool) :
    s.post enc P f apart fresh handsOn again W args (.bool true) W' := by
  have hold : ∀ p ∈ before, (fun b => decide (b < W.heap.size)) p.block = true := fun p hp => by simpa using hW.lt p hp
  have hlt0 := hW.lt
  have hW2 := hW
  obtain ⟨p, q, hA, hV, rfl, hz, hn⟩ := hW2
  rw [hvars] at hV
  obtain ⟨rfl, rfl⟩ := trodVars_none hV
  simp only [List.append_nil] at hz hn hold hlt0
  have hW' := hW
  simp only [List.append_nil] at hW'
  have hargs : ∀ sp : Nat → Bool, (∀ x ∈ p, sp x.block = true) → DataW.TrodAll enc P W' 0 sp true f.params.toList args.toList (s.fn H (ds ++ [])).args p := fun sp hsp => by
    rw [List.append_nil, hfn]
    exact stays (ts := []) hl hb hrd hA (fun x hx => hlt0 x hx) hsp
  have hr : ∀ (b : Nat) (sp : Nat → Bool) (hd : Bool), DataW.TrodAll enc P W' b sp hd f.resultTypes.toList ((Value.bool true).resultList f.resultTypes.size) (s.fn H (ds ++ [])).results [] := fun b sp hd => by
    rw [List.append_nil, hfn, hres]
    exact trodAll_mk1 (shut_bool htb _)
  have hvs : ∀ sp : Nat → Bool, DataW.TrodVars enc P W' sp s.vars (s.fn H (ds ++ [])).vars [] := fun sp => by
    rw [List.append_nil, hfn, hvars]
    exact rfl
  refine ⟨ds, [], p, [], p, [], hW', hr _ _ _, hargs _ hold, hvs _, World.keptBut_mono (fun x hx => ⟨hx, ?_⟩) (hb.frame (fun x => x ∈ p)), fun _ => ?_⟩
  · simp [hx]
  · refine ⟨ok_one hres rfl (okWide_bool_mk htb _), _, _, ([] ++ p) ++ [], ⟨[] ++ p, [], trodAll_append (hargs _ (fun _ _ => rfl)) (hr _ _ _), hvs _, rfl, ?_, ?_⟩, ?_⟩
    · intro b off hp
      simp only [List.nil_append, List.append_nil] at hp
      have := hlt0 _ hp
      rw [hb.frozen (p := ⟨b, off, none⟩) (show b < W.heap.size from this)]
      exact hz b off hp
    · intro ha
      simpa using hn ha
    · intro x hx _
      simpa using hx

/-- A contract over the whole memory gives what a row asks of the call. -/
theorem law_calls {f : FuncId} {fn : Func} {s : ChangeSpec} {apart fresh handsOn again : Bool} {W : World} {args : Array Value} {ds gs : List (DataW H)} {before : List MemPlace} {tb : TypeId}
    (hc : ACalls P f args (whole W) fun e h' => e = .ret (.bool true) ∧ h' = whole W)
    (hW : DataW.Whole enc P fn.params.toList s.vars apart W args.toList ds gs before) (hl : laidOutB P = true)
    (hrd : fn.params.toList.all (fun t => P.readableRec t && decide (t < P.types.size)) = true) (hvars : s.vars = [])
    (hfn : s.fn H ds = { results := [.lit (.bool true)], args := ds }) (hres : fn.resultTypes = #[tb]) (htb : P.underlying tb = some .bool) :
    Calls P f args W fun e W' => ∃ v, e = .returned v ∧ s.post enc P fn apart fresh handsOn again W args v W' := by
  refine (hc.2 W (whole_holds W)).mono fun e W' he => ?_
  cases e <;> simp only at he
  · obtain ⟨h', hh, hf, e1, rfl⟩ := he
    cases e1
    exact ⟨_, rfl, law_post hW (below_of hh hf) hl hrd hvars hfn hres htb⟩
  · obtain ⟨h', hh, hf, e1, rfl⟩ := he
    cases e1
end
end Go.Pw

/- The words of PwC tell the truth of the model's operations. -/
import Derived.Test.YtgpcjdmiecnphaaGreatPwC
import Derived.Deep.AppendSrc
import Derived.Room.AppendAny
import Derived.Room.Make
import Derived.Laws.Rows
set_option linter.unusedSimpArgs false
set_option linter.unusedVariables false
namespace Go.Pw
open Go

def szOf (P : Program) (t : TypeId) : Option (Option Nat) :=
  match P.underlying t with
  | some (.struct _) => (P.info? t).map fun i => some i.size
  | some (.array _ _) => (P.info? t).map fun i => some i.size
  | some _ => some none
  | none => none
def sizeOf' (P : Program) (t : TypeId) : Option Nat := (P.info? t).map (·.size)
def placesOf (P : Program) : List Field → Option (List (Nat × Nat))
  | [] => some []
  | f :: l => match sizeOf' P f.type, placesOf P l with
    | some n, some r => some ((f.offset, n) :: r)
    | _, _ => none
def zeroOf (P : Program) (t : TypeId) : Option (Array Value) := (P.info? t).bind fun i => i.zero.map Value.cells
def partsOf (ρ : Env) (ps : Array (Nat × Operand)) : List (Nat × Value) := ps.toList.map fun p => (p.1, evalE ρ p.2)
def argsOf (ρ : Env) (as : Array Operand) : Array Value := (as.toList.map (evalE ρ)).toArray

/-- The operations that leave memory as it is. -/
def denQ (P : Program) (o : Oper) (ρ : Env) (h : PH) (K : Value → Prop) : Prop :=
  match o.op with
  | .move x => K (evalE ρ x)
  | .assign x => K (evalE ρ x)
  | .pick c a b => vPick (evalE ρ c) (evalE ρ a) (evalE ρ b) K
  | .binOp op t x y _ => vBin P op t (evalE ρ x) (evalE ρ y) K
  | .unOp op _ x => vUn P op (evalE ρ x) K
  | .extract x i => vExt (evalE ρ x) i K
  | .field t x i => match P.underlying t with
    | some (.struct fs) => match fs.toList[i]? with
      | some f => match szOf P f.type with
        | some sz => vFld sz f.offset (evalE ρ x) K
        | none => False
      | none => False
    | _ => False
  | .fieldAddr t x i => match P.underlying t with
    | some (.struct fs) => match fs.toList[i]? with
      | some f => match sizeOf' P f.type with
        | some (_ + 1) => vFA f.offset (evalE ρ x) K
        | _ => False
      | none => False
    | _ => False
  | .indexAddr t x ix => match P.underlying t with
    | some (.array len e) => match sizeOf' P e with
      | some n => vIxA len n (evalE ρ x) (evalE ρ ix) K
      | none => False
    | some (.slice e) => match sizeOf' P e with
      | some n => vIxS n (evalE ρ x) (evalE ρ ix) K
      | none => False
    | _ => False
  | .index t x ix => match P.underlying t with
    | some .string => vIxStr (evalE ρ x) (evalE ρ ix) K
    | some (.array len e) => match sizeOf' P e, szOf P e with
      | some n, some sz => vIxAg sz len n (evalE ρ x) (evalE ρ ix) K
      | _, _ => False
    | _ => False
  | .nilCheck x => vNil (evalE ρ x) K
  | .slice t x lo hi none => match P.underlying t with
    | some .string => vSlStr (lo.map (evalE ρ)) (hi.map (evalE ρ)) (evalE ρ x) K
    | some (.slice e) => match sizeOf' P e with
      | some n => vSl n (lo.map (evalE ρ)) (hi.map (evalE ρ)) (evalE ρ x) K
      | none => False
    | some (.array len e) => match sizeOf' P e with
      | some n => vSlA len n (lo.map (evalE ρ)) (hi.map (evalE ρ)) (evalE ρ x) K
      | none => False
    | _ => False
  | .slice t x lo hi (some mx) => match P.underlying t with
    | some (.slice e) => match sizeOf' P e with
      | some n => vSl3 n (lo.map (evalE ρ)) (hi.map (evalE ρ)) (evalE ρ mx) (evalE ρ x) K
      | none => False
    | _ => False
  | .lookup t x ix ok => wLk P t ok (evalE ρ x) (evalE ρ ix) h K
  | .load t x => match szOf P t with
    | some sz => vLoad sz (evalE ρ x) h K
    | none => False
  | .build t ps => match P.underlying t, zeroOf P t with
    | some (.struct fs), some z => match placesOf P fs.toList with
      | some pl => vBuild pl z (partsOf ρ ps) K
      | none => False
    | some (.array _ e), some z => match sizeOf' P e with
      | some n => vBuildA n z (partsOf ρ ps) K
      | none => False
    | _, _ => False
  | .makeInterface t x => match P.underlying t with
    | some (.interface _) => False
    | some _ => vIface t (evalE ρ x) K
    | none => False
  | .makeFunc f first cap => vFunc f (argsOf ρ first) (argsOf ρ cap) K
  | .typeAssert x xt t true => vAssert P xt t (evalE ρ x) K
  | .convert src dst x => match P.underlying src, P.underlying dst with
    | some (.int _), some (.int k) => vConvI k (evalE ρ x) K
    | some (.int _), some (.float k) => vConvIF k (evalE ρ x) K
    | some (.float _), some (.int k) => vConvFI k (evalE ρ x) K
    | some (.slice e), some .string => match P.underlying e with
      | some (.int .u8) => vConvBS (evalE ρ x) h K
      | _ => False
    | _, _ => False
  | .call { callee := .builtin .len, args, argTypes } => match args.toList, argTypes.toList with
    | [x], [t] => match P.underlying t with
      | some .string => vLenStr (evalE ρ x) K
      | some (.slice _) => vLenS (evalE ρ x) K
      | _ => False
    | _, _ => False
  | .call { callee := .builtin .max, args, .. } => match args.toList with
    | [x, y] => vMinMax true (evalE ρ x) (evalE ρ y) K
    | _ => False
  | .call { callee := .builtin .min, args, .. } => match args.toList with
    | [x, y] => vMinMax false (evalE ρ x) (evalE ρ y) K
    | _ => False
  | .call { callee := .value (.func f), args, .. } => vQCall P f (argsOf ρ args) h K
  | _ => False

def clsOf (P : Program) (qf : FuncId → Bool) (o : Oper) : Cls :=
  match o.op with
  | .binOp op t _ _ _ => match arithF op with
    | some _ => (match P.underlying t with
      | some (.float _) => .loud
      | _ => .pure)
    | none => .pure
  | .move _ | .assign _ | .pick .. | .unOp .. | .extract .. | .field .. | .fieldAddr .. | .indexAddr .. | .index .. | .nilCheck _ | .slice .. | .build .. | .makeInterface .. | .makeFunc .. | .typeAssert .. => .pure
  | .load .. | .lookup .. => .read
  | .convert src dst _ => match P.underlying src, P.underlying dst with
    | some (.slice _), _ => .read
    | _, some (.slice _) => .loud
    | _, _ => .pure
  | .alloc _ | .box .. => .alloc
  | .makeMap _ none => .alloc
  | .buildSlice .. => match qf 1000000 with
    | true => .alloc
    | false => .loud
  | .call { callee := .builtin .len, argTypes, .. } => match argTypes.toList with
    | [t] => (match P.underlying t with
      | some (.map _ _) => .loud
      | _ => .pure)
    | _ => .pure
  | .call { callee := .builtin .max, .. } => .pure
  | .call { callee := .builtin .min, .. } => .pure
  | .call { callee := .value (.func f), .. } => match qf f with
    | true => .read
    | false => .loud
  | _ => .loud

def denA (P : Program) (o : Oper) (ρ : Env) (h : PH) (K : Value → PH → Prop) : Prop :=
  match o.op with
  | .alloc e => match zeroOf P e with
    | some z => vNew z e h K
    | none => False
  | .box e x => vNew (evalE ρ x).cells e h K
  | .makeMap _ none => vMapNew h K
  | .buildSlice t len ps => match P.underlying t with
    | some (.slice e) => match sizeOf' P e, zeroOf P e with
      | some n, some z => len * n ≤ 2 ^ 24 ∧ vBuildS e n len z (partsOf ρ ps) h K
      | _, _ => False
    | _ => False
  | _ => False

def denL (P : Program) (o : Oper) (ρ : Env) (h : PH) (K : Value → PH → Prop) (Kp : List PanicEntry → PH → Prop) : Prop :=
  match o.op with
  | .store t a x => match sizeOf' P t with
    | some n => vStore n (evalE ρ a) (evalE ρ x) h (fun h' => K undef h')
    | none => False
  | .buildSlice t len ps => match P.underlying t with
    | some (.slice e) => match sizeOf' P e, zeroOf P e with
      | some n, some z => len * n ≤ 2 ^ 24 ∧ vBuildS e n len z (partsOf ρ ps) h K
      | _, _ => False
    | _ => False
  | .makeSlice t l c => match P.underlying t with
    | some (.slice e) => match P.info? e with
      | some i => match i.zero with
        | some z => vMakeS e i.size i.bytes z.cells (evalE ρ l) (evalE ρ c) h K
        | none => False
      | none => False
    | _ => False
  | .call { callee := .builtin .append, args, argTypes } => match args.toList, argTypes.toList with
    | [s, x], [t, tx] => match P.underlying t with
      | some (.slice e) => match P.info? e with
        | some i => match i.zero with
          | some z => 0 < i.size ∧ 0 < i.bytes ∧ z.cells.size = i.size ∧ (match P.underlying tx with
            | some .string => vAppend true e i.size i.bytes (evalE ρ s) (evalE ρ x) h K
            | some (.slice _) => vAppend false e i.size i.bytes (evalE ρ s) (evalE ρ x) h K
            | _ => False)
          | none => False
        | none => False
      | _ => False
    | _, _ => False
  | .call { callee := .builtin .clear, args, argTypes } => match args.toList, argTypes.toList with
    | [x], [t] => match P.underlying t with
      | some (.slice e) => match zeroOf P e with
        | some z => vClear z (evalE ρ x) h (fun h' => K (.tuple #[]) h')
        | none => False
      | _ => OpL P o ρ h K Kp
    | _, _ => False
  | .makeMap _ none => vMapNew h K
  | .mapUpdate t m x v => wMU P t (evalE ρ m) (evalE ρ x) (evalE ρ v) h (fun h' => K undef h')
  | .insert t m k v => match P.underlying t with
    | some (.map kt _) => match P.underlying kt with
      | some d => vMapIns d (evalE ρ m) (evalE ρ k) (evalE ρ v) h (fun h' => K undef h')
      | none => False
    | _ => False
  | .binOp op _ x y _ => vFArith op (evalE ρ x) (evalE ρ y) h K
  | .call { callee := .value (.func f), args, .. } => match extOf P f with
    | true => vLib P f (argsOf ρ args) h K
    | false => vCall P f (argsOf ρ args) h K Kp
  | .call { callee := .value x, args, .. } => vCallV P (evalE ρ x) (argsOf ρ args) h K Kp
  | .panic x => vPanic (evalE ρ x) h Kp
  | _ => OpL P o ρ h K Kp

section
variable {P : Program} {ρ : Env} {h : PH}

theorem OpY.pure {o : Oper} {v : Value} (hp : pureRun P (execOp (evalE ρ) o) = some (.value v)) : OpY P o ρ h v := by
  intro w _
  rw [pureRun_run w _ hp]
  exact ⟨rfl, rfl⟩

theorem OpY.run {o : Oper} {v : Value} (hp : ∀ w, Holds h w → (execOp (evalE ρ) o).run P w = .ok (.value v) w) : OpY P o ρ h v := by
  intro w hw
  rw [hp w hw]
  exact ⟨rfl, rfl⟩

theorem run_v (s : Sem Value) {v : Value} {w : World} (hs : s.run P w = .ok v w) : (do pure (.value (← s)) : Sem Next).run P w = .ok (.value v) w := by
  rw [Sem.run_bind, hs]; rfl

def aggD : TypeDesc → Bool
  | .struct _ => true
  | .array _ _ => true
  | _ => false
theorem run_isAgg {t : TypeId} {sz : Option Nat} (hs : szOf P t = some sz) (w : World) : (isAgg t).run P w = .ok sz.isSome w ∧ (∀ n, sz = some n → (Go.sizeOf t).run P w = .ok n w) := by
  unfold szOf at hs
  cases hu : P.underlying t with
  | none => rw [hu] at hs; cases hs
  | some d =>
    rw [hu] at hs
    have h1 : (isAgg t).run P w = .ok (aggD d) w := by
      unfold isAgg
      rw [Sem.run_bind, run_underlying hu]
      cases d <;> rfl
    have hsz : ∀ n, (P.info? t).map (fun i => some i.size) = some (some n) → (Go.sizeOf t).run P w = .ok n w := fun n hn => by
      cases hi : P.info? t with
      | none => rw [hi] at hn; cases hn
      | some i =>
        rw [hi] at hn
        simp at hn
        simp [Go.sizeOf, typeInfo, hi, hn]
    rw [h1]
    clear h1 hu
    cases d <;> simp only [Option.some.injEq] at hs <;> first
      | (subst hs; exact ⟨rfl, fun n hn => by cases hn⟩)
      | (cases sz with
         | none =>
           exfalso
           revert hs
           cases P.info? t <;> simp
         | some n => exact ⟨rfl, fun m hm => by cases hm; exact hsz n hs⟩)

theorem run_part {t : TypeId} {sz : Option Nat} (hs : szOf P t = some sz) {cs : Array Value} {off : Nat} {K : Value → Prop} (hk : cellsAt sz cs off K) (w : World) :
    ∃ v, (part t cs off).run P w = .ok v w ∧ K v := by
  obtain ⟨h1, h2⟩ := run_isAgg hs w
  unfold part
  cases sz with
  | none =>
    obtain ⟨v, hv, hk⟩ := hk
    refine ⟨v, ?_, hk⟩
    rw [Sem.run_bind, h1]
    simp [Result.andThen, hv]
  | some n =>
    refine ⟨_, ?_, hk.2⟩
    rw [Sem.run_bind, h1]
    simp [Result.andThen, h2 n rfl]

theorem cellsAt_fun {sz : Option Nat} {cs : Array Value} {off : Nat} {K : Value → Prop} (hk : cellsAt sz cs off K) : ∃ v, (∀ K' : Value → Prop, K' v → cellsAt sz cs off K') ∧ K v := by
  cases sz with
  | none => obtain ⟨v, hv, hk⟩ := hk; exact ⟨v, fun K' hk' => ⟨v, hv, hk'⟩, hk⟩
  | some n => exact ⟨_, fun K' hk' => ⟨hk.1, hk'⟩, hk.2⟩

theorem cell_of {w : World} {b off : Nat} {c : Array Value} {e : TypeId} {fr : Nat × Nat} (hb : w.heap[b]? = some (.cells c e fr)) (j : Nat) : w.cell? ⟨b, off + j, none⟩ = c[off + j]? := by
  unfold World.cell?
  rw [hb]
  rfl

theorem run_loadVar {t : TypeId} {sz : Option Nat} (hs : szOf P t = some sz) {w : World} {b off : Nat} {c : Array Value} {e : TypeId} {fr : Nat × Nat} (hb : w.heap[b]? = some (.cells c e fr))
    {K : Value → Prop} (hk : cellsAt sz c off K) : ∃ v, (loadVar t ⟨b, off, none⟩).run P w = .ok v w ∧ K v := by
  obtain ⟨h1, h2⟩ := run_isAgg hs w
  unfold loadVar
  cases sz with
  | none =>
    obtain ⟨v, hv, hk⟩ := hk
    refine ⟨v, ?_, hk⟩
    have hc : w.cell? ⟨b, off, none⟩ = some v := by have := cell_of (off := off) hb 0; simpa [hv] using this
    rw [Sem.run_bind, h1]
    simp [Result.andThen, load, Sem.run, hc]
  | some n =>
    refine ⟨_, ?_, hk.2⟩
    have hl := run_loadCells_list (P := P) w ⟨b, off, none⟩ ((c.extract off (off + n)).toList) (fun j v hv => by
      rw [Addr.add_lit]
      rw [cell_of hb]
      simp only [Array.getElem?_toList, Array.getElem?_extract] at hv
      split at hv
      · exact hv
      · cases hv)
    have hlen : (c.extract off (off + n)).toList.length = n := by have := hk.1; simp; omega
    rw [hlen] at hl
    rw [Sem.run_bind, h1]
    simp only [Result.andThen, Option.isSome_some, if_true, Sem.run_bind, h2 n rfl, hl, Array.toArray_toList]
    rfl

theorem run_intBetween {v : Option Value} {lo hi dflt : Nat} {K : Nat → Prop} (hk : intBetween v lo hi dflt K) : ∃ n, K n ∧ ((v = none ∧ n = dflt) ∨ ∃ k i, v = some (.int k i) ∧ (lo : Int) ≤ i ∧ i ≤ (hi : Int) ∧ n = i.toNat) := by
  unfold intBetween at hk
  cases v with
  | none => exact ⟨dflt, hk, .inl ⟨rfl, rfl⟩⟩
  | some v => obtain ⟨k, i, rfl, a, b, c⟩ := hk; exact ⟨_, c, .inr ⟨k, i, rfl, a, b, rfl⟩⟩

theorem run_sliceBounds {isSlice : Bool} {len cap : Nat} {low high : Option Value} {K : Nat → Nat → Prop} (hk : intBetween high 0 cap len fun h => intBetween low 0 h 0 fun l => K l h) (w : World) :
    ∃ l h, (Instr.sliceBounds isSlice len cap low high none).run P w = .ok (l, h, cap) w ∧ K l h := by
  obtain ⟨h, hk, hh⟩ := run_intBetween hk
  obtain ⟨l, hk, hl⟩ := run_intBetween hk
  refine ⟨l, h, ?_, hk⟩
  have sb : ∀ (k : IntKind) (i : Int) (y : Nat) (c : BoundsCode), 0 ≤ i → i ≤ (y : Int) → (Instr.sliceBound (.int k i) y c).run P w = .ok i.toNat w := fun k i y c a b => by
    simp [Instr.sliceBound, asIntOf, a, b]
  unfold Instr.sliceBounds
  rcases hh with ⟨rfl, rfl⟩ | ⟨k, i, rfl, a, b, rfl⟩ <;> rcases hl with ⟨rfl, rfl⟩ | ⟨k', i', rfl, a', b', rfl⟩
  · simp
  · simp [sb k' i' h _ (by simpa using a') b']
  · simp [sb k i cap _ (by simpa using a) b]
  · simp [sb k i cap _ (by simpa using a) b, sb k' i' _ _ (by simpa using a') b']

theorem argsOf_eq (as : Array Operand) : as.map (evalE ρ) = argsOf ρ as := by
  unfold argsOf; apply Array.ext'; simp

theorem sizeOf'_run {t : TypeId} {n : Nat} (hs : sizeOf' P t = some n) (w : World) : (Go.sizeOf t).run P w = .ok n w := by
  unfold sizeOf' at hs
  cases hi : P.info? t with
  | none => rw [hi] at hs; cases hs
  | some i => rw [hi] at hs; simp at hs; simp [Go.sizeOf, typeInfo, hi, hs]
theorem run_mapM_fields (fs : Array Field) {pl : List (Nat × Nat)} (hp : placesOf P fs.toList = some pl) (w : World) :
    ((fs.mapM fun f => do pure (f.offset, ← Go.sizeOf f.type) : Sem (Array (Nat × Nat)))).run P w = .ok pl.toArray w := by
  have key : ∀ (l : List Field) (pl : List (Nat × Nat)), placesOf P l = some pl → ((l.mapM fun f => do pure (f.offset, ← Go.sizeOf f.type) : Sem (List (Nat × Nat)))).run P w = .ok pl w := by
    intro l
    induction l with
    | nil => intro pl hp; simp [placesOf] at hp; subst hp; simp
    | cons f l ih =>
      intro pl hp
      simp only [placesOf] at hp
      cases h1 : sizeOf' P f.type with
      | none => rw [h1] at hp; cases hp
      | some n =>
        cases h2 : placesOf P l with
        | none => rw [h1, h2] at hp; cases hp
        | some r =>
          rw [h1, h2] at hp
          simp only [Option.some.injEq] at hp
          subst hp
          have hsz := sizeOf'_run h1 w
          rw [List.mapM_cons, Sem.run_bind, Sem.run_bind, hsz]
          simp only [Result.andThen, Sem.run_pure, Sem.run_bind, ih r h2]
  obtain ⟨l, rfl⟩ : ∃ l : List Field, fs = l.toArray := ⟨fs.toList, by simp⟩
  rw [List.mapM_toArray]
  simp only [map_eq_pure_bind, Sem.run_bind]
  rw [key _ _ hp]
  rfl

theorem zeroOf_run {t : TypeId} {z : Array Value} (hs : zeroOf P t = some z) (w : World) : ∃ v, (zeroValue t).run P w = .ok v w ∧ v.cells = z := by
  unfold zeroOf at hs
  cases hi : P.info? t with
  | none => rw [hi] at hs; cases hs
  | some i =>
    rw [hi] at hs
    cases hz : i.zero with
    | none => simp [hz] at hs
    | some v => simp [hz] at hs; exact ⟨v, by simp [zeroValue, typeInfo, hi, hz], hs⟩

end
end Go.Pw

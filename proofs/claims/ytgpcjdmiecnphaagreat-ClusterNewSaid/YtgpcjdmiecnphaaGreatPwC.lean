/- Contracts over a part of memory, and what the model's operations do to it, one word an operation. -/
import Derived.Test.YtgpcjdmiecnphaaGreatPwB
import Derived.Laws.Sem
set_option linter.unusedSimpArgs false
set_option linter.unusedVariables false
namespace Go.Pw
open Go

inductive AEnd where
  | ret (v : Value)
  | pan (c : List PanicEntry)

def Callable (P : Program) (f : FuncId) : Prop := ∃ fn, P.funcs[f]? = some fn ∧ fn.body.isSome = true ∧ (fn.name == "runtime.NumGoroutine") = false

def ACalls (P : Program) (f : FuncId) (args : Array Value) (h : PH) (R : AEnd → PH → Prop) : Prop :=
  Callable P f ∧ ∀ w, Holds h w → Calls P f args w fun e w' => match e with
    | .returned v => ∃ h', Holds h' w' ∧ Framed h h' w w' ∧ R (.ret v) h'
    | .panicked c => ∃ h', Holds h' w' ∧ Framed h h' w w' ∧ R (.pan c) h'
    | .outgrown => False

theorem ACalls.mono {P : Program} {f : FuncId} {args : Array Value} {h : PH} {R R' : AEnd → PH → Prop} (H : ACalls P f args h R) (hr : ∀ e h', R e h' → R' e h') : ACalls P f args h R' :=
  ⟨H.1, fun w hw => (H.2 w hw).mono fun e w' he => by
    cases e <;> simp only at he ⊢
    · obtain ⟨h', a, b, c⟩ := he; exact ⟨h', a, b, hr _ _ c⟩
    · obtain ⟨h', a, b, c⟩ := he; exact ⟨h', a, b, hr _ _ c⟩⟩

/-- A part g of memory beside what the contract owns. -/
def join (h g : PH) : PH := fun b => match h b with | some o => some o | none => g b
theorem ACalls.frame {P : Program} {f : FuncId} {args : Array Value} {h : PH} {R : AEnd → PH → Prop} (H : ACalls P f args h R) (g : PH) (hd : ∀ b, h b ≠ none → g b = none) :
    ACalls P f args (join h g) fun e h' => ∃ h1, h' = join h1 g ∧ (∀ b, g b ≠ none → h1 b = none) ∧ R e h1 := by
  have hs : Sub h (join h g) := fun b o hb => by simp [join, hb]
  have key : ∀ {w w' : World} {h1 : PH}, Holds (join h g) w → Holds h1 w' → Framed h h1 w w' → Holds (join h1 g) w' ∧ Framed (join h g) (join h1 g) w w' ∧ (∀ b, g b ≠ none → h1 b = none) := by
    intro w w' h1 hw hw' hf
    have hg : ∀ b, g b ≠ none → h1 b = none ∧ w'.heap[b]? = w.heap[b]? := fun b hb => by
      have hbn : h b = none := by
        cases hh : h b with
        | none => rfl
        | some o => exact absurd (hd b (by rw [hh]; simp)) hb
      have : (join h g) b = g b := by simp [join, hbn]
      cases hgb : g b with
      | none => exact absurd hgb hb
      | some o => exact hf.keep b (hw.lt (o := o) (by rw [this, hgb])) hbn
    refine ⟨fun b o hb => ?_, ⟨hf.os, hf.tape, hf.output, hf.size, fun b hb hn => ?_⟩, fun b hb => (hg b hb).1⟩
    · unfold join at hb
      cases hh : h1 b with
      | some p => rw [hh] at hb; exact hw' b o (by rw [hh]; exact hb)
      | none =>
        rw [hh] at hb
        have h2 := hg b (by simp [hb])
        rw [h2.2]
        refine hw b o ?_
        have hbn : h b = none := by
          cases hh : h b with
          | none => rfl
          | some o => exact absurd (hd b (by rw [hh]; simp)) (by simp [hb])
        simp [join, hbn, hb]
    · unfold join at hn
      cases hh : h b with
      | some p => rw [hh] at hn; cases hn
      | none =>
        rw [hh] at hn
        obtain ⟨x, y⟩ := hf.keep b hb hh
        exact ⟨by simp [join, x]; exact hn, y⟩
  refine ⟨H.1, fun w hw => (H.2 w (hw.sub hs)).mono fun e w' he => ?_⟩
  cases e <;> simp only at he ⊢
  · obtain ⟨h', a, b, c⟩ := he
    obtain ⟨x, y, z⟩ := key hw a b
    exact ⟨_, x, y, h', rfl, z, c⟩
  · obtain ⟨h', a, b, c⟩ := he
    obtain ⟨x, y, z⟩ := key hw a b
    exact ⟨_, x, y, h', rfl, z, c⟩

def AEnd.elim (K : Value → PH → Prop) (Kp : List PanicEntry → PH → Prop) : AEnd → PH → Prop
  | .ret v => K v
  | .pan c => Kp c

/-! ### a program of the model that touches no memory -/
def pureRun {α : Type} (P : Program) : Sem α → Option α
  | .pure a => some a
  | .program k => pureRun P (k P)
  | _ => none
theorem pureRun_run {α : Type} {P : Program} {v : α} (w : World) : ∀ (s : Sem α), pureRun P s = some v → s.run P w = .ok v w
  | .pure a, h => by simp only [pureRun, Option.some.injEq] at h; subst h; rfl
  | .program k, h => by simp only [pureRun] at h; exact pureRun_run w (k P) h
  | .load .., h => by simp [pureRun] at h
  | .store .., h => by simp [pureRun] at h
  | .new .., h => by simp [pureRun] at h
  | .shape .., h => by simp [pureRun] at h
  | .freeze .., h => by simp [pureRun] at h
  | .frozen .., h => by simp [pureRun] at h
  | .getObj .., h => by simp [pureRun] at h
  | .setObj .., h => by simp [pureRun] at h
  | .choose .., h => by simp [pureRun] at h
  | .sys .., h => by simp [pureRun] at h
  | .mark .., h => by simp [pureRun] at h
  | .halt _, h => by simp [pureRun] at h
theorem pureRun_bind {α β : Type} {P : Program} {v : α} {f : α → Sem β} : ∀ (s : Sem α), pureRun P s = some v → pureRun P (s >>= f) = pureRun P (f v)
  | .pure a, h => by simp only [pureRun, Option.some.injEq] at h; subst h; rfl
  | .program k, h => by
    simp only [pureRun] at h
    show pureRun P (Sem.bind (.program k) f) = _
    simp only [Sem.bind, pureRun]
    exact pureRun_bind (k P) h
  | .load .., h => by simp [pureRun] at h
  | .store .., h => by simp [pureRun] at h
  | .new .., h => by simp [pureRun] at h
  | .shape .., h => by simp [pureRun] at h
  | .freeze .., h => by simp [pureRun] at h
  | .frozen .., h => by simp [pureRun] at h
  | .getObj .., h => by simp [pureRun] at h
  | .setObj .., h => by simp [pureRun] at h
  | .choose .., h => by simp [pureRun] at h
  | .sys .., h => by simp [pureRun] at h
  | .mark .., h => by simp [pureRun] at h
  | .halt _, h => by simp [pureRun] at h

/-! ### the words -/
def boolOf : Value → Option Bool
  | .bool b => some b
  | _ => none
def vPick (c a b : Value) (K : Value → Prop) : Prop := ∃ t, c = .bool t ∧ K (cond t a b)
def vBin (P : Program) (op : BinOp) (t : TypeId) (a b : Value) (K : Value → Prop) : Prop :=
  ∃ v, (∀ x y w, (do eqGuard op t x y a b; binOp op t a b : Sem Value).run P w = .ok v w) ∧ K v
def vUn (P : Program) (op : UnOp) (a : Value) (K : Value → Prop) : Prop := ∃ v, pureRun P (Op.unary op a) = some v ∧ K v
def vExt (a : Value) (i : Nat) (K : Value → Prop) : Prop := ∃ vs v, a = .tuple vs ∧ vs[i]? = some v ∧ K v
def cellsAt (sz : Option Nat) (cs : Array Value) (off : Nat) (K : Value → Prop) : Prop :=
  match sz with
  | none => ∃ v, cs[off]? = some v ∧ K v
  | some n => off + n ≤ cs.size ∧ K (.agg (cs.extract off (off + n)))
def vFld (sz : Option Nat) (off : Nat) (a : Value) (K : Value → Prop) : Prop := ∃ cs, a = .agg cs ∧ cellsAt sz cs off K
def vFA (off : Nat) (a : Value) (K : Value → Prop) : Prop := ∃ b o, a = .pointer (some ⟨b, o, none⟩) ∧ K (.pointer (some ⟨b, o + off, none⟩))
def vIxA (len esz : Nat) (a i : Value) (K : Value → Prop) : Prop :=
  ∃ b o k n, a = .pointer (some ⟨b, o, none⟩) ∧ i = .int k n ∧ 0 ≤ n ∧ n < (len : Int) ∧ K (.pointer (some ⟨b, o + n.toNat * esz, none⟩))
def vIxS (esz : Nat) (a i : Value) (K : Value → Prop) : Prop :=
  ∃ b o len cap k n, a = .slice (some ⟨b, o, none⟩) len cap ∧ i = .int k n ∧ 0 ≤ n ∧ n < (len : Int) ∧ K (.pointer (some ⟨b, o + n.toNat * esz, none⟩))
def vIxStr (a i : Value) (K : Value → Prop) : Prop := ∃ s k n c, a = .string s ∧ i = .int k n ∧ 0 ≤ n ∧ s.data[n.toNat]? = some c ∧ K (.int .u8 c.toNat)
def vIxAg (sz : Option Nat) (len esz : Nat) (a i : Value) (K : Value → Prop) : Prop :=
  ∃ cs k n, a = .agg cs ∧ i = .int k n ∧ 0 ≤ n ∧ n < (len : Int) ∧ cellsAt sz cs (n.toNat * esz) K
def notNil : Value → Bool
  | .pointer (some _) | .func (.func _) _ _ => true
  | _ => false
def vNil (a : Value) (K : Value → Prop) : Prop := notNil a = true ∧ K a
def vLoad (sz : Option Nat) (a : Value) (h : PH) (K : Value → Prop) : Prop :=
  ∃ b off c e fr, a = .pointer (some ⟨b, off, none⟩) ∧ h b = some (.cells c e fr) ∧ cellsAt sz c off K
def wr : Array Value → Nat → List Value → Array Value
  | c, _, [] => c
  | c, o, v :: vs => wr (c.setIfInBounds o v) (o + 1) vs
def frOK (fr : Nat × Nat) (off n : Nat) : Prop := fr.2 ≤ off ∨ off + n ≤ fr.1
def vStore (n : Nat) (a v : Value) (h : PH) (K : PH → Prop) : Prop :=
  ∃ b off c e fr, a = .pointer (some ⟨b, off, none⟩) ∧ h b = some (.cells c e fr) ∧ v.cells.size = n ∧ off + n ≤ c.size ∧ v.cells.toList.all Value.oneCell' = true ∧ frOK fr off n ∧
    K (ins h b (.cells (wr c off v.cells.toList) e fr))
def intBetween (v : Option Value) (lo hi dflt : Nat) (K : Nat → Prop) : Prop :=
  match v with
  | none => K dflt
  | some v => ∃ k n, v = .int k n ∧ (lo : Int) ≤ n ∧ n ≤ (hi : Int) ∧ K n.toNat
def vSlStr (lo hi : Option Value) (a : Value) (K : Value → Prop) : Prop :=
  ∃ s, a = .string s ∧ intBetween hi 0 s.size s.size fun h => intBetween lo 0 h 0 fun l => K (.string (s.extract l h))
def vSl (esz : Nat) (lo hi : Option Value) (a : Value) (K : Value → Prop) : Prop :=
  ∃ p len cap, a = .slice p len cap ∧ intBetween hi 0 cap len fun h => intBetween lo 0 h 0 fun l => K (.slice (if cap = l then p else p.map (·.add (l * esz))) (h - l) (cap - l))
def vSlA (n esz : Nat) (lo hi : Option Value) (a : Value) (K : Value → Prop) : Prop :=
  ∃ b o, a = .pointer (some ⟨b, o, none⟩) ∧ intBetween hi 0 n n fun h => intBetween lo 0 h 0 fun l => K (.slice (some (if n = l then ⟨b, o, none⟩ else ⟨b, o + l * esz, none⟩)) (h - l) (n - l))
def vNew (cells : Array Value) (e : TypeId) (h : PH) (K : Value → PH → Prop) : Prop :=
  ∀ b, h b = none → K (.pointer (some ⟨b, 0, none⟩)) (ins h b (.cells cells e))
def vBuild (places : List (Nat × Nat)) (zero : Array Value) (parts : List (Nat × Value)) (K : Value → Prop) : Prop :=
  ∃ cs, Instr.fill (fun i => places[i]?) zero parts = some cs ∧ K (.agg cs)
def vBuildA (esz : Nat) (zero : Array Value) (parts : List (Nat × Value)) (K : Value → Prop) : Prop :=
  ∃ cs, Instr.fill (fun i => some (i * esz, esz)) zero parts = some cs ∧ K (.agg cs)
def rep (zero : Array Value) (n : Nat) : Array Value := (Array.range n).map (zero[· % zero.size]!)
def vBuildS (e : TypeId) (esz len : Nat) (zero : Array Value) (parts : List (Nat × Value)) (h : PH) (K : Value → PH → Prop) : Prop :=
  ∃ cs, Instr.fill (fun i => some (i * esz, esz)) (rep zero (len * esz)) parts = some cs ∧ ∀ b, h b = none → K (.slice (some ⟨b, 0, none⟩) len len) (ins h b (.cells cs e))
def vMakeS (e : TypeId) (esz bytes : Nat) (zero : Array Value) (l c : Value) (h : PH) (K : Value → PH → Prop) : Prop :=
  ∃ k k' n m, l = .int k n ∧ c = .int k' m ∧ 0 ≤ n ∧ n ≤ m ∧ (bytes : Int) * m ≤ 2 ^ 48 ∧ m < 2 ^ 62 ∧
    (∀ b, h b = none → K (.slice (some ⟨b, 0, none⟩) n.toNat m.toNat) (ins h b (.cells (rep zero (m.toNat * esz)) e)))
def vLenS (a : Value) (K : Value → Prop) : Prop := ∃ p len cap, a = .slice p len cap ∧ K (.int .i64 len)
def vLenStr (a : Value) (K : Value → Prop) : Prop := ∃ s, a = .string s ∧ K (.int .i64 s.size)
def vMinMax (mx : Bool) (a b : Value) (K : Value → Prop) : Prop := ∃ k k' x y, a = .int k x ∧ b = .int k' y ∧ K (.int k (if (if mx then y > x else y < x) then y else x))
def vConvI (k : IntKind) (a : Value) (K : Value → Prop) : Prop := ∃ k' n, a = .int k' n ∧ K (.int k (k.wrap n))
def byteCells (l : List UInt8) : List Value := l.map fun c => .int .u8 c.toNat
/-- bytes to a string -/
def vConvBS (a : Value) (h : PH) (K : Value → Prop) : Prop :=
  (a = .slice none 0 0 ∧ K (.string .empty)) ∨
  ∃ b off len cap c e fr l, a = .slice (some ⟨b, off, none⟩) len cap ∧ h b = some (.cells c e fr) ∧ l.length = len ∧ (c.toList.drop off).take len = byteCells l ∧ K (.string ⟨l.toArray⟩)
def vIface (t : TypeId) (a : Value) (K : Value → Prop) : Prop := K (.iface t a)
/-- an assertion to a concrete type, with ok -/
def vAssert (P : Program) (xt t : TypeId) (a : Value) (K : Value → Prop) : Prop := ∃ v, pureRun P (Instr.typeAssert a xt t true) = some v ∧ K v
def vFunc (f : Fn) (first cap : Array Value) (K : Value → Prop) : Prop := K (.func f first cap)
def vCall (P : Program) (f : FuncId) (args : Array Value) (h : PH) (K : Value → PH → Prop) (Kp : List PanicEntry → PH → Prop) : Prop := ACalls P f args h (AEnd.elim K Kp)
def QCall (P : Program) (f : FuncId) (args : Array Value) (h : PH) (v : Value) : Prop := ACalls P f args h fun e h' => e = .ret v ∧ h' = h
def vQCall (P : Program) (f : FuncId) (args : Array Value) (h : PH) (K : Value → Prop) : Prop := ∃ v, QCall P f args h v ∧ K v
def vCallV (P : Program) (f : Value) (args : Array Value) (h : PH) (K : Value → PH → Prop) (Kp : List PanicEntry → PH → Prop) : Prop :=
  ∃ g first cap, f = .func (.func g) first cap ∧ ACalls P g (first ++ args ++ cap) h (AEnd.elim K Kp)
def vPanic (a : Value) (h : PH) (Kp : List PanicEntry → PH → Prop) : Prop := ∃ t v, a = .iface t v ∧ Kp [{ v := .iface t v, recovered := false }] h
/-- What is appended: the cells of n elements. -/
def srcCells (str : Bool) (esz : Nat) (x : Value) (h : PH) (K : Nat → List Value → Prop) : Prop :=
  (str = true ∧ ∃ s, x = .string s ∧ esz = 1 ∧ K s.size (byteCells s.data.toList)) ∨ (str = false ∧ ∃ c, x = .slice none 0 c ∧ K 0 []) ∨
  str = false ∧ ∃ b off len cap c e fr, x = .slice (some ⟨b, off, none⟩) len cap ∧ h b = some (.cells c e fr) ∧ off + len * esz ≤ c.size ∧ (∀ v ∈ (c.toList.drop off).take (len * esz), v.oneCell' = true) ∧ K len ((c.toList.drop off).take (len * esz))
def dropB (h : PH) (b : Nat) : PH := fun x => cond (Nat.beq x b) none (h x)
/-- append in place, or away from a row that is not owned whole -/
def vAppIn (e : TypeId) (esz bytes : Nat) (n : Nat) (news : List Value) (s : Value) (h : PH) (K : Value → PH → Prop) : Prop :=
  ∃ b off len cap c e' fr, s = .slice (some ⟨b, off, none⟩) len cap ∧
    ((len + n ≤ cap ∧ h b = some (.cells c e' fr) ∧ off + len * esz + news.length ≤ c.size ∧ frOK fr (off + len * esz) news.length ∧
        K (.slice (some ⟨b, off, none⟩) (len + n) cap) (ins h b (.cells (wr c (off + len * esz) news) e' fr))) ∨
     (cap < len + n ∧ (len + n) * bytes ≤ roomBytes ∧ cap ≤ len + n ∧ h b = some (.cells c e' (0, 0)) ∧ off + len * esz ≤ c.size ∧ (∀ v ∈ (c.toList.drop off).take (len * esz), v.oneCell' = true) ∧
        ∀ b' cap' rest, h b' = none → len + n ≤ cap' → ((c.toList.drop off).take (len * esz) ++ news).length + rest.length = cap' * esz →
          K (.slice (some ⟨b', 0, none⟩) (len + n) cap') (ins h b' (.cells ((c.toList.drop off).take (len * esz) ++ news ++ rest).toArray e))))
/-- append onto nil, or onto a row that is owned whole: what comes is a row that is owned whole. -/
def vAppend (str : Bool) (e : TypeId) (esz bytes : Nat) (s x : Value) (h : PH) (K : Value → PH → Prop) : Prop :=
  srcCells str esz x h fun n news =>
    (s = .slice none 0 0 ∧ (n = 0 → K (.slice none 0 0) h) ∧
      (0 < n → n * bytes ≤ roomBytes ∧ ∀ b cap rest, h b = none → n ≤ cap → news.length + rest.length = cap * esz → K (.slice (some ⟨b, 0, none⟩) n cap) (ins h b (.cells (news ++ rest).toArray e)))) ∨
    (∃ g len cap c, s = .slice (some ⟨g, 0, none⟩) len cap ∧ h g = some (.cells c e (0, 0)) ∧ c.size = cap * esz ∧ len ≤ cap ∧ (len + n) * bytes ≤ roomBytes ∧ (∀ b off l c, x = .slice (some ⟨b, off, none⟩) l c → b ≠ g) ∧
      ∀ b cap' rest, (b = g ∨ h b = none) → len + n ≤ cap' → (c.toList.take (len * esz) ++ news).length + rest.length = cap' * esz →
        K (.slice (some ⟨b, 0, none⟩) (len + n) cap') (ins (dropB h g) b (.cells (c.toList.take (len * esz) ++ news ++ rest).toArray e))) ∨
    vAppIn e esz bytes n news s h K
def gq (g : Option Bool) (want : Bool) (op : (Value → PH → Prop) → Prop) (K : Value → PH → Prop) (h : PH) : Prop := (g = some want → op K) ∧ (g ≠ some want → K undef h)
def gd (g : Option Bool) (want : Bool) (A : Prop) : Prop := g = some want → A
def dIf (v : Value) (A B : Prop) : Prop := ∃ t, v = .bool t ∧ (t = true → A) ∧ (t = false → B)

/-- a full slice expression -/
def vSl3 (esz : Nat) (lo hi : Option Value) (mx a : Value) (K : Value → Prop) : Prop :=
  ∃ p len cap k1 n1 k2 n2 l, a = .slice p len cap ∧ hi = some (.int k2 n2) ∧ mx = .int k1 n1 ∧ 0 ≤ n2 ∧ n2 ≤ n1 ∧ n1 ≤ (cap : Int) ∧ ((lo = none ∧ l = 0) ∨ ∃ k n, lo = some (.int k n) ∧ 0 ≤ n ∧ n ≤ n2 ∧ l = n.toNat) ∧
    K (.slice (if n1.toNat = l then p else p.map (·.add (l * esz))) (n2.toNat - l) (n1.toNat - l))
/-- clear of a slice -/
def vClear (zero : Array Value) (a : Value) (h : PH) (K : PH → Prop) : Prop :=
  (∃ p cap, a = .slice p 0 cap ∧ K h) ∨
  ∃ b off n cap c e fr, a = .slice (some ⟨b, off, none⟩) n cap ∧ 0 < n ∧ h b = some (.cells c e fr) ∧ off + n * zero.size ≤ c.size ∧ frOK fr off (n * zero.size) ∧ (∀ v ∈ zero.toList, v.oneCell' = true) ∧
    K (ins h b (.cells (wr c off (rep zero (n * zero.size)).toList) e fr))
/-- a lookup, a map written: by what the model says of them -/
def wLk (P : Program) (t : TypeId) (ok : Bool) (m k : Value) (h : PH) (K : Value → Prop) : Prop := ∃ v, (∀ w, Holds h w → (Instr.lookup t m k ok).run P w = .ok v w) ∧ K v
def wMU (P : Program) (t : TypeId) (m k v : Value) (h : PH) (K : PH → Prop) : Prop := ∀ w, Holds h w → ∃ w' h', (Instr.mapUpdate t m k v).run P w = .ok () w' ∧ Holds h' w' ∧ Framed h h' w w' ∧ K h'
/-! maps with keys that are whole numbers or strings -/
def vMapNew (h : PH) (K : Value → PH → Prop) : Prop := ∀ b, h b = none → K (.map (some b)) (ins h b (.map #[] 0))
def keyD : TypeDesc → Bool
  | .int _ => true
  | .string => true
  | _ => false
def vMapIns (kt : TypeDesc) (m k v : Value) (h : PH) (K : PH → Prop) : Prop :=
  ∃ b es clock, m = .map (some b) ∧ h b = some (.map es clock) ∧ keyD kt = true ∧ Instr.findNow kt k es.toList 0 = some none ∧ K (ins h b (.map (es.push { key := k, val := v, born := clock }) (clock + 1)))
def vMapGet (kt : TypeDesc) (zero : Value) (ok : Bool) (m k : Value) (h : PH) (K : Value → Prop) : Prop :=
  ∃ b es clock r, m = .map (some b) ∧ h b = some (.map es clock) ∧ keyD kt = true ∧ Instr.findNow kt k es.toList 0 = some r ∧
    K (match r, ok with | some (_, v), true => .tuple #[v, .bool true] | some (_, v), false => v | none, true => .tuple #[zero, .bool false] | none, false => zero)
/-! floats -/
def vConvIF (k : FloatKind) (a : Value) (K : Value → Prop) : Prop := ∃ kk n, a = .int kk n ∧ K (.float k (k.nearest n))
def vConvFI (dst : IntKind) (a : Value) (K : Value → Prop) : Prop := ∃ k b n, a = .float k b ∧ (k.decode b).toInt .zero = some n ∧ dst.min ≤ n ∧ n ≤ dst.max ∧ K (.int dst n)
def arithF : BinOp → Option (FloatKind → Nat → Nat → Option Nat)
  | .add => some fun k x y => k.format.add x y
  | .sub => some fun k x y => k.format.sub x y
  | .mul => some fun k x y => k.format.mul x y
  | .quo => some fun k x y => k.format.div x y
  | _ => none
def vFArith (op : BinOp) (a b : Value) (h : PH) (K : Value → PH → Prop) : Prop :=
  ∃ k x y f, a = .float k x ∧ b = .float k y ∧ arithF op = some f ∧ (∀ r, f k x y = some r → K (.float k r) h) ∧ (f k x y = none → ∀ r, K (.float k ((Question.nanBits k x y).cut r)) h)
/-- a function of the library without a body -/
def vLib (P : Program) (f : FuncId) (args : Array Value) (h : PH) (K : Value → PH → Prop) : Prop :=
  ∀ w, Holds h w → ∃ v n, (callFunc f args).run P w = .ok (.value v) { w with drawn := n } ∧ K v h
def extOf (P : Program) (f : FuncId) : Bool := match P.funcs[f]? with
  | some fn => fn.body.isNone
  | none => false
end Go.Pw

/- The program carried out over numbered blocks (each operation told by its text first: what a text comes to is reckoned once). -/
import Derived.Test.YtgpcjdmiecnphaaGreatPxC
import Derived.Test.YtgpcjdmiecnphaaGreatPwJ
set_option linter.unusedSimpArgs false
set_option linter.unusedVariables false
namespace Go.Px
noncomputable section
open Go Go.Pw

/-! ### views -/
def asB : CV → Option Bool
  | .bool b => some b
  | _ => none
def asN : CV → Option Nat
  | .int _ (.ofNat n) => some n
  | _ => none
def asP : CV → Option (Nat × Nat)
  | .ptr b o => some (b, o)
  | _ => none
def asS : CV → Option (List Nat)
  | .str l => some l
  | _ => none
def asA : CV → Option (List CV)
  | .agg l => some l
  | _ => none
def asT : CV → Option (List CV)
  | .tup l => some l
  | _ => none
def asC : Option CO → Option (Cells × TypeId)
  | some (.cells c e) => some (c, e)
  | _ => none
def asM : Option CO → Option (List (CV × CV × Nat) × Nat)
  | some (.map es k) => some (es, k)
  | _ => none

def xCells (sz : Option Nat) : Bx (Cells → Nat → Option CV) := match sz with
  | none => ⟨Cells.get⟩
  | some n => match n with
    | 0 => ⟨fun _ _ => none⟩
    | n + 1 => ⟨fun c off => match c.rng off (n + 1) with
      | some l => some (.agg l)
      | none => none⟩
def xNat (o : Option Operand) : Bx (CE → Nat → Option Nat) := match o with
  | none => ⟨fun _ d => some d⟩
  | some x => ⟨fun E _ => match (oBx x).1 E with
    | some v => asN v
    | none => none⟩
def zvOf (P : Program) (e : TypeId) : Option CV := match P.info? e with
  | some i => match i.zero with
    | some z => ofV z
    | none => none
  | none => none
def zsOf (P : Program) (e : TypeId) : Option (List CV) := match zeroOf P e with
  | some z => ofVs z.toList
  | none => none

/-! ### maps -/
def findX (k : CV) : List (CV × CV × Nat) → Nat → Option (Option (Nat × CV))
  | [], _ => some none
  | (k', v, _) :: es, i => match eqK k k' with
    | some true => some (some (i, v))
    | some false => findX k es (i + 1)
    | none => none
def entriesX (H : CH) : CV → Option (List (CV × CV × Nat))
  | .nilmp => some []
  | .mp b => match asM (H.at b) with
    | some es => some es.1
    | none => none
  | _ => none
def lookR (z : CV) (ok : Bool) (r : Option (Option (Nat × CV))) : Option CV := match r with
  | none => none
  | some none => (match ok with | true => some (.tup [z, .bool false]) | false => some z)
  | some (some p) => (match ok with | true => some (.tup [p.2, .bool true]) | false => some p.2)
def hLook (P : Program) (kt : TypeId) (z : CV) (ok : Bool) (m k : CV) (H : CH) : Option CV := match keyOK P kt k with
  | false => none
  | true => match entriesX H m with
    | none => none
    | some es => lookR z ok (findX k es 0)

def toNats : List CV → Option (List Nat)
  | [] => some []
  | v :: l => match v with
    | .int .u8 (.ofNat n) => match Nat.blt n 256 with
      | false => none
      | true => match toNats l with
        | some r => some (n :: r)
        | none => none
    | _ => none

/-! ### what leaves memory as it is -/
abbrev QF := Bx (CE → CH → Option CV)
def hX (x : Operand) : QF := ⟨fun E _ => (oBx x).1 E⟩
def hPick (c a b : Operand) : QF := ⟨fun E _ => match (oBx c).1 E with
  | none => none
  | some c => match asB c with
    | none => none
    | some true => (oBx a).1 E
    | some false => (oBx b).1 E⟩
def h2 (f : Bx (CV → CV → Option CV)) (x y : Operand) : QF := ⟨fun E _ => ob ((oBx x).1 E) (fun a => ob ((oBx y).1 E) (fun b => f.1 a b) none) none⟩
def h1 (f : CV → Option CV) (x : Operand) : QF := ⟨fun E _ => match (oBx x).1 E with
  | none => none
  | some a => f a⟩
def hN : QF := ⟨fun _ _ => none⟩
def fUn (P : Program) (op : UnOp) (a : CV) : Option CV := match toB a with
  | some u => match pureRun P (Op.unary op u) with
    | some r => ofVf r
    | none => none
  | none => none
def fExt (i : Nat) (v : CV) : Option CV := match asT v with
  | some l => nth i l
  | none => none
def fFld (sz : Option Nat) (off : Nat) (v : CV) : Option CV := match asA v with
  | some l => (xCells sz).1 (.row l) off
  | none => none
def fFA (off : Nat) (v : CV) : Option CV := match asP v with
  | some p => some (.ptr p.1 (p.2 + off))
  | none => none
def fIxA (len n : Nat) (v i : CV) : Option CV := match asP v with
  | none => none
  | some p => match asN i with
    | none => none
    | some j => match Nat.blt j len with
      | true => some (.ptr p.1 (p.2 + j * n))
      | false => none
def asL : CV → Option (Nat × Nat × Nat)
  | .sl b off len _ => some (b, off, len)
  | .slk b off len _ => some (b, off, len)
  | _ => none
def fIxS (n : Nat) (v i : CV) : Option CV := match asL v with
  | none => none
  | some p => match asN i with
    | none => none
    | some j => match Nat.blt j p.2.2 with
      | true => some (.ptr p.1 (p.2.1 + j * n))
      | false => none
def fIxStr (v i : CV) : Option CV := match asS v with
  | none => none
  | some l => match asN i with
    | none => none
    | some j => match nth j l with
      | some c => some (.int .u8 (Int.ofNat (Nat.mod c 256)))
      | none => none
def fIxAg (sz : Option Nat) (len n : Nat) (v i : CV) : Option CV := match asA v with
  | none => none
  | some l => match asN i with
    | none => none
    | some j => match Nat.blt j len with
      | true => (xCells sz).1 (.row l) (j * n)
      | false => none
def fNil : CV → Option CV
  | .ptr b off => some (.ptr b off)
  | .fn f a c => some (.fn f a c)
  | _ => none
def fSlStr (lo hi : Bx (CE → Nat → Option Nat)) (E : CE) (v : CV) : Option CV := match asS v with
  | none => none
  | some l => match hi.1 E l.length with
    | none => none
    | some h => match lo.1 E 0 with
      | none => none
      | some a => match Nat.ble a h, Nat.ble h l.length with
        | true, true => some (.str ((l.take h).drop a))
        | _, _ => none
def asSl : CV → Option (Nat × Nat × Nat × Nat)
  | .sl b off len i => some (b, off, len, i)
  | _ => none
def fSl (n : Nat) (lo hi : Bx (CE → Nat → Option Nat)) (E : CE) (v : CV) : Option CV := match asSl v with
  | none => none
  | some p => match hi.1 E p.2.2.1 with
    | none => none
    | some h => match lo.1 E 0 with
      | none => none
      | some a => match Nat.ble a h, Nat.ble h p.2.2.1, Nat.blt a p.2.2.1 || Nat.beq a 0 with
        | true, true, true => some (.sl p.1 (p.2.1 + a * n) (h - a) (p.2.2.2 + a))
        | true, true, false => some (.sle p.1 p.2.1 (p.2.1 + a * n) (p.2.2.2 + a))
        | _, _, _ => none
def hSl (f : CE → CV → Option CV) (x : Operand) : QF := ⟨fun E _ => match (oBx x).1 E with
  | none => none
  | some a => f E a⟩
def hLoad (sz : Option Nat) (x : Operand) : QF := ⟨fun E H => match (oBx x).1 E with
  | none => none
  | some a => match asP a with
    | none => none
    | some p => match asC (hGet p.1 H.m) with
      | none => none
      | some c => (xCells sz).1 c.1 p.2⟩
def hBuild (place : Nat → Option (Nat × Nat)) (z : List CV) (ps : List (Nat × Operand)) : QF := ⟨fun E _ => match (nBx ps).1 E with
  | none => none
  | some vs => match xFill place z vs with
    | some r => some (.agg r)
    | none => none⟩
def hFn (f : FuncId) (first cap : List Operand) : QF := ⟨fun E _ => match (sBx first).1 E with
  | none => none
  | some a => match (sBx cap).1 E with
    | none => none
    | some c => some (.fn f a c)⟩
def fAssert (t : TypeId) (z : CV) : CV → Option CV
  | .iface u v => match Nat.beq u t with
    | true => some (.tup [v, .bool true])
    | false => some (.tup [z, .bool false])
  | .nilif => some (.tup [z, .bool false])
  | _ => none
def fConvI (k : IntKind) : CV → Option CV
  | .int _ n => some (.int k (k.wrap n))
  | _ => none
/-- The bytes of a row in pieces, ahead of some. -/
def ropeS : List Ch → List Nat → Option (List Nat)
  | [], a => some a
  | c :: l, a => match c with
    | .bs _ x => ropeS l (x ++ a)
    | .cs _ x => match toNats x with
      | some y => ropeS l (y ++ a)
      | none => none
def bytesX (c : Cells) (off len : Nat) : Option (List Nat) := match c with
  | .rope n l => match Nat.beq off 0, Nat.beq len n with
    | true, true => ropeS l []
    | _, _ => match rngL (ropeA l []) off len with
      | none => none
      | some r => toNats r
  | c => match c.rng off len with
    | none => none
    | some r => toNats r
def fConvBS (H : CH) : CV → Option CV
  | .nilsl => some (.str [])
  | .sl b off len _ => match asC (H.at b) with
    | none => none
    | some c => match bytesX c.1 off len with
      | some l => some (.str l)
      | none => none
  | _ => none
def hConvBS (x : Operand) : QF := ⟨fun E H => match (oBx x).1 E with
  | none => none
  | some a => fConvBS H a⟩
def fLenStr (v : CV) : Option CV := match asS v with
  | some l => some (.int .i64 (Int.ofNat l.length))
  | none => none
def fLenS : CV → Option CV
  | .sl _ _ len _ => some (.int .i64 (Int.ofNat len))
  | .slk _ _ len _ => some (.int .i64 (Int.ofNat len))
  | .sle _ _ _ _ => some (.int .i64 (Int.ofNat 0))
  | .nilsl => some (.int .i64 (Int.ofNat 0))
  | _ => none
def fMM (mx : Bool) (a b : CV) : Option CV := match a, b with
  | .int k x, .int _ y => some (.int k (if (if mx then y > x else y < x) then y else x))
  | _, _ => none
def hLk (f : CV → CV → CH → Option CV) (x y : Operand) : QF := ⟨fun E H => match (oBx x).1 E with
  | none => none
  | some a => match (oBx y).1 E with
    | none => none
    | some b => f a b H⟩
def cQ (P : Program) (o : Oper) : QF := match o.op with
  | .move x => hX x
  | .assign x => hX x
  | .pick c a b => hPick c a b
  | .binOp op t x y _ => h2 (cBin P op t) x y
  | .unOp op _ x => h1 (fUn P op) x
  | .extract x i => h1 (fExt i) x
  | .field t x i => match P.underlying t with
    | some (.struct fs) => match fs.toList[i]? with
      | some f => match szOf P f.type with
        | some sz => h1 (fFld sz f.offset) x
        | none => hN
      | none => hN
    | _ => hN
  | .fieldAddr t x i => match P.underlying t with
    | some (.struct fs) => match fs.toList[i]? with
      | some f => match sizeOf' P f.type with
        | some (_ + 1) => h1 (fFA f.offset) x
        | _ => hN
      | none => hN
    | _ => hN
  | .indexAddr t x ix => match P.underlying t with
    | some (.array len e) => match sizeOf' P e with
      | some n => h2 ⟨fIxA len n⟩ x ix
      | none => hN
    | some (.slice e) => match sizeOf' P e with
      | some n => h2 ⟨fIxS n⟩ x ix
      | none => hN
    | _ => hN
  | .index t x ix => match P.underlying t with
    | some .string => h2 ⟨fIxStr⟩ x ix
    | some (.array len e) => match sizeOf' P e, szOf P e with
      | some n, some sz => h2 ⟨fIxAg sz len n⟩ x ix
      | _, _ => hN
    | _ => hN
  | .nilCheck x => h1 fNil x
  | .slice t x lo hi none => match P.underlying t with
    | some .string => hSl (fSlStr (xNat lo) (xNat hi)) x
    | some (.slice e) => match sizeOf' P e with
      | some n => hSl (fSl n (xNat lo) (xNat hi)) x
      | none => hN
    | _ => hN
  | .lookup t x ix ok => match P.underlying t with
    | some (.map kt e) => match zvOf P e with
      | some z => hLk (hLook P kt z ok) x ix
      | none => hN
    | _ => hN
  | .load t x => match szOf P t with
    | some sz => hLoad sz x
    | none => hN
  | .build t ps => match P.underlying t, zsOf P t with
    | some (.struct fs), some z => match placesOf P fs.toList with
      | some pl => hBuild (fun i => pl[i]?) z ps.toList
      | none => hN
    | some (.array _ e), some z => match sizeOf' P e with
      | some n => hBuild (fun i => some (i * n, n)) z ps.toList
      | none => hN
    | _, _ => hN
  | .makeInterface t x => match P.underlying t with
    | some (.interface _) => hN
    | some _ => h1 (fun v => some (.iface t v)) x
    | none => hN
  | .makeFunc (.func f) first cap => hFn f first.toList cap.toList
  | .typeAssert x _ t true => match P.underlying t, zvOf P t with
    | some (.interface _), _ => hN
    | some _, some z => h1 (fAssert t z) x
    | _, _ => hN
  | .convert src dst x => match P.underlying src, P.underlying dst with
    | some (.int _), some (.int k) => h1 (fConvI k) x
    | some (.slice e), some .string => match P.underlying e with
      | some (.int .u8) => hConvBS x
      | _ => hN
    | _, _ => hN
  | .call { callee := .builtin .len, args, argTypes } => match args.toList, argTypes.toList with
    | [x], [t] => match P.underlying t with
      | some .string => h1 fLenStr x
      | some (.slice _) => h1 fLenS x
      | _ => hN
    | _, _ => hN
  | .call { callee := .builtin .max, args, .. } => match args.toList with
    | [x, y] => h2 ⟨fMM true⟩ x y
    | _ => hN
  | .call { callee := .builtin .min, args, .. } => match args.toList with
    | [x, y] => h2 ⟨fMM false⟩ x y
    | _ => hN
  | _ => hN

/-! ### new blocks -/
abbrev KV := CV → CH → Bool
abbrev KP := CV → CH → Bool
/-- (the number told as a number) -/
def newK (H : CH) (o : CO) (k : Nat → CH → Bool) : Bool := match H.n with
  | 0 => k 0 ⟨1, hPut 0 (some o) H.m⟩
  | n + 1 => k (n + 1) ⟨n + 2, hPut (n + 1) (some o) H.m⟩
theorem newK_eq (H : CH) (o : CO) (k : Nat → CH → Bool) : newK H o k = k H.n (H.new o) := by
  obtain ⟨n, m⟩ := H
  cases n <;> rfl
def repX (z : List CV) : Nat → List CV
  | 0 => []
  | n + 1 => z ++ repX z n
def xBS (P : Program) (t : TypeId) (len : Nat) (ps : List (Nat × Operand)) : Bx (CE → Option (List CV × TypeId)) := match P.underlying t with
  | some (.slice e) => match sizeOf' P e, zsOf P e with
    | some n, some z => match Nat.ble (len * n) 16777216, Nat.beq z.length n, z.all oneX with
      | true, true, true => ⟨fun E => match (nBx ps).1 E with
        | none => none
        | some vs => match xFill (fun i => some (i * n, n)) (repX z len) vs with
          | some r => some (r, e)
          | none => none⟩
      | _, _, _ => ⟨fun _ => none⟩
    | _, _ => ⟨fun _ => none⟩
  | _ => ⟨fun _ => none⟩
abbrev AF := Bx (CE → CH → KV → Bool)
def aN : AF := ⟨fun _ _ _ => false⟩
def aNew (c : Cells) (e : TypeId) : AF := ⟨fun _ H k => newK H (.cells c e) fun b H' => k (.ptr b 0) H'⟩
def aBox (e : TypeId) (x : Operand) : AF := ⟨fun E H k => match (oBx x).1 E with
  | none => false
  | some v => match (cellsX v).all oneX with
    | true => newK H (.cells (.row (cellsX v)) e) fun b H' => k (.ptr b 0) H'
    | false => false⟩
def aMap : AF := ⟨fun _ H k => newK H (.map [] 0) fun b H' => k (.mp b) H'⟩
def aBS (f : Bx (CE → Option (List CV × TypeId))) (len : Nat) : AF := ⟨fun E H k => match f.1 E with
  | none => false
  | some r => match r.1.all oneX with
    | true => newK H (.cells (.row r.1) r.2) fun b H' => k (.sl b 0 len 0) H'
    | false => false⟩
def cA (P : Program) (o : Oper) : AF := match o.op with
  | .alloc e => match zsOf P e with
    | some z => (match z.all oneX with | true => aNew (cOf z) e | false => aN)
    | none => aN
  | .box e x => aBox e x
  | .makeMap _ none => aMap
  | .buildSlice t len ps => aBS (xBS P t len ps.toList) len
  | _ => aN

/-! ### all else -/
inductive CR where
  | ret (v : CV)
  | pan (v : CV)
abbrev KF := CR → CH → Bool
abbrev CALL := FuncId → List CV → CH → KF → Bool
abbrev LF := Bx (CALL → CE → CH → KV → KP → Bool)
def lN : LF := ⟨fun _ _ _ _ _ => false⟩
/-- What is appended: how many elements, their cells. -/
def xSrc (str : Bool) (esz : Nat) : Bx (CV → CH → Option (Nat × Ch)) := match str with
  | true => match Nat.beq esz 1 with
    | true => ⟨fun x _ => match asS x with | some l => some (l.length, .bs l.length l) | none => none⟩
    | false => ⟨fun _ _ => none⟩
  | false => ⟨fun x H => match x with
    | .nilsl => some (0, .cs 0 [])
    | x => match asL x with
      | none => none
      | some p => match asC (H.at p.1) with
        | none => none
        | some c => match c.1.rng p.2.1 (p.2.2 * esz) with
          | some r => some (p.2.2, .cs (p.2.2 * esz) r)
          | none => none⟩
def apNil (e bytes : Nat) (n : Nat) (news : Ch) (H : CH) (k : KV) : Bool := match n with
  | 0 => k .nilsl H
  | n + 1 => match Nat.ble ((n + 1) * bytes) roomBytes with
    | true => newK H (.cells (.rope news.k [news]) e) fun b H' => k (.sl b 0 (n + 1) 0) H'
    | false => false
def apRow (e esz bytes : Nat) (p : Nat × Nat × Nat × Nat) (n : Nat) (news : Ch) (H : CH) (k : KV) : Bool := match asC (H.at p.1) with
  | none => false
  | some c => match Nat.beq e c.2, Nat.ble ((p.2.2.1 + n) * bytes) roomBytes, Nat.ble p.2.1 (p.2.2.2 * esz) with
    | true, true, true => match c.1.app p.2.1 (p.2.2.1 * esz) news with
      | none => false
      | some r => newK (H.set p.1 none) (.cells r e) fun b H' => k (.sl b 0 (p.2.2.1 + n) 0) H'
    | _, _, _ => false
def apEnd (e esz bytes : Nat) (b off off' i : Nat) (n : Nat) (news : Ch) (H : CH) (k : KV) : Bool := match n with
  | 0 => false
  | n + 1 => match asC (H.at b) with
    | none => false
    | some c => match Nat.beq e c.2, Nat.ble off c.1.len && Nat.ble off' c.1.len, Nat.ble ((n + 1) * bytes) roomBytes, Nat.ble off' (i * esz) with
      | true, true, true, true => newK (H.set b none) (.cells (.rope news.k [news]) e) fun b H' => k (.sl b 0 (n + 1) 0) H'
      | _, _, _, _ => false
def xApp (e esz bytes : Nat) (s : CV) (p : Nat × Ch) (H : CH) (k : KV) : Bool := match s with
  | .nilsl => apNil e bytes p.1 p.2 H k
  | .sl b off len i => apRow e esz bytes (b, off, len, i) p.1 p.2 H k
  | .sle b off off' i => apEnd e esz bytes b off off' i p.1 p.2 H k
  | _ => false
def lApp (e esz bytes : Nat) (src : Bx (CV → CH → Option (Nat × Ch))) (s x : Operand) : LF := ⟨fun _ E H k _ => match (oBx s).1 E with
  | none => false
  | some sv => match (oBx x).1 E with
    | none => false
    | some xv => match src.1 xv H with
      | none => false
      | some p => xApp e esz bytes sv p H k⟩
def lStore (n : Nat) (a x : Operand) : LF := ⟨fun _ E H k _ => match (oBx a).1 E with
  | none => false
  | some av => match (oBx x).1 E with
    | none => false
    | some v => match asP av with
      | none => false
      | some p => match asC (hGet p.1 H.m) with
        | none => false
        | some c => match Nat.beq (cellsX v).length n, (cellsX v).all oneX with
          | true, true => match c.1.set p.2 (cellsX v) with
            | some c' => k .und ⟨H.n, hPut p.1 (some (.cells c' c.2)) H.m⟩
            | none => false
          | _, _ => false⟩
def lMake (e : TypeId) (bytes : Nat) (z : List CV) (l c : Operand) : LF := ⟨fun _ E H k _ => match (oBx l).1 E with
  | none => false
  | some lv => match (oBx c).1 E with
    | none => false
    | some cv => match asN lv with
      | none => false
      | some n => match asN cv with
        | none => false
        | some m => match Nat.ble n m, Nat.ble (bytes * m) 1048576 with
          | true, true => newK H (.cells (.row (repX z m)) e) fun b H' => k (.sl b 0 n 0) H'
          | _, _ => false⟩
def setV : List (CV × CV × Nat) → Nat → CV → List (CV × CV × Nat)
  | [], _, _ => []
  | (k, _, n) :: es, 0, v => (k, v, n) :: es
  | e :: es, i + 1, v => e :: setV es i v
def asMp : CV → Option Nat
  | .mp b => some b
  | _ => none
def xUpd (P : Program) (kt : TypeId) (m k v : CV) (H : CH) : Option CH := match asMp m with
  | none => none
  | some b => match asM (H.at b) with
    | none => none
    | some es => match keyOK P kt k with
      | false => none
      | true => match findX k es.1 0 with
        | some none => some (H.set b (some (.map (es.1 ++ [(k, v, es.2)]) (es.2 + 1))))
        | some (some (i, _)) => some (H.set b (some (.map (setV es.1 i v) es.2)))
        | none => none
def xDel (P : Program) (kt : TypeId) (m k : CV) (H : CH) : Option CH := match asMp m with
  | none => none
  | some b => match asM (H.at b) with
    | none => none
    | some es => match keyOK P kt k with
      | false => none
      | true => match findX k es.1 0 with
        | some none => some H
        | some (some (i, _)) => some (H.set b (some (.map (es.1.eraseIdx i) es.2)))
        | none => none
def lUpd (P : Program) (kt : TypeId) (m x v : Operand) : LF := ⟨fun _ E H k _ => match (oBx m).1 E, (oBx x).1 E, (oBx v).1 E with
  | some m, some x, some v => (match xUpd P kt m x v H with | some H' => k .und H' | none => false)
  | _, _, _ => false⟩
/-- (a literal's part: of a key that there is not yet) -/
def xIns (P : Program) (kt : TypeId) (m k v : CV) (H : CH) : Option CH := match asMp m with
  | none => none
  | some b => match asM (H.at b) with
    | none => none
    | some es => match keyOK P kt k with
      | false => none
      | true => match findX k es.1 0 with
        | some none => some (H.set b (some (.map (es.1 ++ [(k, v, es.2)]) (es.2 + 1))))
        | _ => none
def lIns (P : Program) (kt : TypeId) (m x v : Operand) : LF := ⟨fun _ E H k _ => match (oBx m).1 E, (oBx x).1 E, (oBx v).1 E with
  | some m, some x, some v => (match xIns P kt m x v H with | some H' => k .und H' | none => false)
  | _, _, _ => false⟩
def lDel (P : Program) (kt : TypeId) (m x : Operand) : LF := ⟨fun _ E H k _ => match (oBx m).1 E, (oBx x).1 E with
  | some m, some x => (match xDel P kt m x H with | some H' => k (.tup []) H' | none => false)
  | _, _ => false⟩
def lClr (m : Operand) : LF := ⟨fun _ E H k _ => match (oBx m).1 E with
  | none => false
  | some m => match asMp m with
    | none => false
    | some b => match asM (H.at b) with
      | none => false
      | some es => k (.tup []) (H.set b (some (.map [] es.2)))⟩
def lRange (x : Operand) : LF := ⟨fun _ E H k _ => match (oBx x).1 E with
  | some .nilmp => newK H (.iter none 0 [] 0) fun b H' => k (.ptr b 0) H'
  | some (.mp m) => match asM (H.at m) with
    | none => false
    | some es => newK H (.iter (some m) es.2 [] es.2) fun b H' => k (.ptr b 0) H'
  | _ => false⟩
def hasN : List Nat → Nat → Bool
  | [], _ => false
  | a :: l, n => match Nat.beq a n with | true => true | false => hasN l n
def xNext (it : CV) (H : CH) (k : KV) : Bool := match it with
  | .ptr r 0 => match H.at r with
    | some (.iter none _ _ _) => k (.tup [.bool false]) H
    | some (.iter (some m) since seen stepped) => match asM (H.at m) with
      | none => false
      | some es => match !seen.isEmpty && !es.1.isEmpty && es.1.all (fun e => Nat.ble stepped e.2.2) with
        | true => false
        | false => match (es.1.filter fun e => !hasN seen e.2.2).all (fun e => Nat.blt e.2.2 since) with
          | false => false
          | true => match es.1.filter fun e => !hasN seen e.2.2 with
            | [] => k (.tup [.bool false]) H
            | e :: l => (e :: l).all fun e => k (.tup [.bool true, e.1, e.2.1]) (H.set r (some (.iter (some m) since (seen ++ [e.2.2]) es.2)))
    | _ => false
  | _ => false
def xEntry (it : CV) (H : CH) : Option CV := match it with
  | .ptr r 0 => match H.at r with
    | some (.iter (some m) _ seen stepped) => match asM (H.at m), seen.getLast? with
      | some es, some stamp => match Nat.beq es.2 stepped, es.1.find? (fun e => Nat.beq e.2.2 stamp) with
        | true, some e => some (.tup [e.1, e.2.1])
        | _, _ => none
      | _, _ => none
    | _ => none
  | _ => none
def lNext (it : Operand) : LF := ⟨fun _ E H k _ => match (oBx it).1 E with
  | some it => xNext it H k
  | none => false⟩
def lEntry (it : Operand) : LF := ⟨fun _ E H k _ => match (oBx it).1 E with
  | some it => (match xEntry it H with | some v => k v H | none => false)
  | none => false⟩
def lPan (x : Operand) : LF := ⟨fun _ E H _ kp => match (oBx x).1 E with
  | some (.iface t v) => kp (.iface t v) H
  | _ => false⟩
def lLen (x : Operand) : LF := ⟨fun _ E H k _ => match (oBx x).1 E with
  | some m => (match entriesX H m with | some es => k (.int .i64 (Int.ofNat es.length)) H | none => false)
  | none => false⟩
def xMeth (P : Program) (t : TypeId) (name : String) : Option FuncId := match P.info? t with
  | some i => match i.methods.find? (fun m => m.name == name) with
    | some m => match m.path.toList, m.func, P.underlying t with
      | [], some (f, true), some (.pointer _) => some f
      | _, _, _ => none
    | none => none
  | none => none
def kR (k : KV) (kp : KP) : KF := fun r H => match r with
  | .ret v => k v H
  | .pan v => kp v H
def lCall (f : FuncId) (args : List Operand) : LF := ⟨fun call E H k kp => match (sBx args).1 E with
  | some vs => call f vs H (kR k kp)
  | none => false⟩
def lLib (lib : List CV → Option CV) (args : List Operand) : LF := ⟨fun _ E H k _ => match (sBx args).1 E with
  | none => false
  | some vs => match lib vs with
    | some v => k v H
    | none => false⟩
def lCallV (x : Operand) (args : List Operand) : LF := ⟨fun call E H k kp => match (oBx x).1 E, (sBx args).1 E with
  | some (.fn f first cap), some vs => call f (first ++ (vs ++ cap)) H (kR k kp)
  | _, _ => false⟩
def lInv (P : Program) (r : Operand) (name : String) (args : List Operand) : LF := ⟨fun call E H k kp => match (oBx r).1 E, (sBx args).1 E with
  | some (.iface t v), some vs => match xMeth P t name with
    | some f => call f (v :: vs) H (kR k kp)
    | none => false
  | _, _ => false⟩
def cL (P : Program) (lib : FuncId → List CV → Option CV) (o : Oper) : LF := match o.op with
  | .store t a x => match sizeOf' P t with
    | some n => lStore n a x
    | none => lN
  | .makeSlice t l c => match P.underlying t with
    | some (.slice e) => match P.info? e, zsOf P e with
      | some i, some z => match Nat.beq z.length i.size, z.all oneX && Nat.blt 0 i.bytes with
        | true, true => lMake e i.bytes z l c
        | _, _ => lN
      | _, _ => lN
    | _ => lN
  | .mapUpdate t m x v => match P.underlying t with
    | some (.map kt _) => lUpd P kt m x v
    | _ => lN
  | .insert t m x v => match P.underlying t with
    | some (.map kt _) => (match P.underlying kt with | some (.int _) => lIns P kt m x v | _ => lN)
    | _ => lN
  | .range t x => match P.underlying t with
    | some (.map _ _) => lRange x
    | _ => lN
  | .next it false => lNext it
  | .entry it => lEntry it
  | .panic x => lPan x
  | .call { callee := .builtin .append, args, argTypes } => match args.toList, argTypes.toList with
    | [s, x], [t, tx] => match P.underlying t with
      | some (.slice e) => match P.info? e, zsOf P e with
        | some i, some z => match Nat.blt 0 i.size, Nat.blt 0 i.bytes, Nat.beq z.length i.size with
          | true, true, true => match P.underlying tx with
            | some .string => lApp e i.size i.bytes (xSrc true i.size) s x
            | some (.slice _) => lApp e i.size i.bytes (xSrc false i.size) s x
            | _ => lN
          | _, _, _ => lN
        | _, _ => lN
      | _ => lN
    | _, _ => lN
  | .call { callee := .builtin .len, args, argTypes } => match args.toList, argTypes.toList with
    | [x], [t] => match P.underlying t with
      | some (.map _ _) => lLen x
      | _ => lN
    | _, _ => lN
  | .call { callee := .builtin .delete, args, argTypes } => match args.toList, argTypes.toList with
    | [m, x], [t, _] => match P.underlying t with
      | some (.map kt _) => lDel P kt m x
      | _ => lN
    | _, _ => lN
  | .call { callee := .builtin .clear, args, argTypes } => match args.toList, argTypes.toList with
    | [m], [t] => match P.underlying t with
      | some (.map _ _) => lClr m
      | _ => lN
    | _, _ => lN
  | .call { callee := .value (.func f), args, .. } => match extOf P f with
    | true => lLib (lib f) args.toList
    | false => lCall f args.toList
  | .call { callee := .value (.tmp x), args, .. } => lCallV (.tmp x) args.toList
  | .call { callee := .invoke r name, args, .. } => lInv P r name args.toList
  | _ => lN

/-! ### regions -/
def qx (n : FuncId) : Bool := Nat.beq n 1000000
def oQ (q : QF) : LF := ⟨fun _ E H k _ => ob (q.1 E H) (fun v => k v H) false⟩
def oA (a : AF) : LF := ⟨fun _ E H k _ => a.1 E H k⟩
mutual
def eqCV : CV → CV → Bool
  | .bool a, .bool b => a == b
  | .int j a, .int k b => kb j k && a == b
  | .str l, .str m => l == m
  | .ptr b o, .ptr b' o' => Nat.beq b b' && Nat.beq o o'
  | .nilp, .nilp => true
  | .sl a b c d, .sl a' b' c' d' => Nat.beq a a' && (Nat.beq b b' && (Nat.beq c c' && Nat.beq d d'))
  | .nilsl, .nilsl => true
  | .mp a, .mp b => Nat.beq a b
  | .nilmp, .nilmp => true
  | .nilif, .nilif => true
  | .iface t v, .iface u w => Nat.beq t u && eqCV v w
  | .agg l, .agg m => eqCVs l m
  | .tup l, .tup m => eqCVs l m
  | _, _ => false
def eqCVs : List CV → List CV → Bool
  | [], [] => true
  | a :: l, b :: m => eqCV a b && eqCVs l m
  | _, _ => false
end
section
variable (P : Program) (lib : FuncId → List CV → Option CV)
def cOp (o : Oper) : LF := match clsOf P qx o with
  | .pure => oQ (cQ P o)
  | .read => oQ (cQ P o)
  | .alloc => oA (cA P o)
  | .loud => cL P lib o
def xYield (l : List Oper) (j : Nat) : Bx (CE → Option (Option Bool)) := match (l[j]?).bind (·.dst) with
  | some t => ⟨fun E => match (gBx t).1 E with | some (.bool b) => some (some b) | some .und => some none | _ => none⟩
  | none => ⟨fun _ => some none⟩
def yb (y : Option Bool) (w : Bool) : Bool := match y with
  | some b => b == w
  | none => false
def xRe1 (o : Oper) (E : CE) (H : CH) : Bool := match o.dst with
  | none => (match (cQ P o).1 E H with | some _ => true | none => false)
  | some d => match (cQ P o).1 E H, (gBx d).1 E with
    | some v, some u => eqCV v u
    | _, _ => false
def xRe (l : List Oper) (E : CE) (H : CH) : List Nat → Bool
  | [] => true
  | q :: qs => match l[q]? with
    | some o => match isB o with
      | true => xRe l E H qs
      | false => (match o.guard with
        | none => xRe1 P o E H
        | some (j, w) => (match (xYield l j).1 E with
          | some y => (match yb y w with | true => xRe1 P o E H | false => true)
          | none => false)) && xRe l E H qs
    | none => xRe l E H qs
def xPre1 (o : Oper) (E : CE) : Bool := match o.op with
  | .buildSlice t len ps => (match (xBS P t len ps.toList).1 E with | some _ => true | none => false)
  | _ => false
def xPre (l : List Oper) (E : CE) : List Nat → Bool
  | [] => true
  | q :: qs => match l[q]? with
    | some o => match isB o with
      | true => (match o.guard with
        | none => xPre1 P o E
        | some (j, w) => (match (xYield l j).1 E with
          | some y => (match yb y w with | true => xPre1 P o E | false => true)
          | none => false)) && xPre l E qs
      | false => xPre l E qs
    | none => xPre l E qs
abbrev KN := CE → CH → Bool
abbrev RF := Bx (CALL → KN → KP → CE → CH → Bool)
def rN : RF := ⟨fun _ _ _ _ _ => false⟩
def rOne (A : LF) (d : Option Nat) (R : RF) : RF := ⟨fun call k kp E H => A.1 call E H (fun v H' => R.1 call k kp ((eUpd d).1 v E) H') kp⟩
def rQs (A : LF) (d : Option Nat) (pre : CE → Bool) (re : CE → CH → Bool) (R : RF) : RF := ⟨fun call k kp E H => match pre E with
  | false => false
  | true => A.1 call E H (fun v H' => match re E H' with | true => R.1 call k kp ((eUpd d).1 v E) H' | false => false) kp⟩
def rG (y : Bx (CE → Option (Option Bool))) (w : Bool) (A : RF) (d : Option Nat) (R : RF) : RF := ⟨fun call k kp E H => match y.1 E with
  | none => false
  | some y => match yb y w with
    | true => A.1 call k kp E H
    | false => R.1 call k kp ((eUpd d).1 .und E) H⟩
def rGq (y : Bx (CE → Option (Option Bool))) (w : Bool) (pre : CE → Bool) (re : CE → CH → Bool) (A : RF) (d : Option Nat) (R : RF) : RF := ⟨fun call k kp E H => match y.1 E with
  | none => false
  | some y => match yb y w with
    | true => A.1 call k kp E H
    | false => match pre E, re E H with
      | true, true => R.1 call k kp ((eUpd d).1 .und E) H
      | _, _ => false⟩
def cReg (l : List Oper) : List (Nat × List Nat) → RF
  | [] => ⟨fun _ k _ E H => k E H⟩
  | (i, qs) :: rest => match l[i]? with
    | none => rN
    | some o => match o.guard, qs with
      | none, [] => rOne (cOp P lib o) o.dst (cReg l rest)
      | none, q :: qs => rQs (cOp P lib o) o.dst (fun E => xPre P l E (q :: qs)) (fun E H => xRe P l E H (q :: qs)) (cReg l rest)
      | some (j, w), [] => rG (xYield l j) w (rOne (cOp P lib o) o.dst (cReg l rest)) o.dst (cReg l rest)
      | some (j, w), q :: qs => rGq (xYield l j) w (fun E => xPre P l E (q :: qs)) (fun E H => xRe P l E H (q :: qs)) (rQs (cOp P lib o) o.dst (fun E => xPre P l E (q :: qs)) (fun E H => xRe P l E H (q :: qs)) (cReg l rest)) o.dst (cReg l rest)

/-- How a piece of code ends: on, or (0: the function's end; i + 1: the block i) -/
abbrev KX := Nat → CE → CH → Bool
abbrev CF := Bx (CALL → KN → KX → KP → CE → CH → Bool)
def cLoop (B : CF) : Nat → CF
  | 0 => ⟨fun _ _ _ _ _ _ => false⟩
  | n + 1 => ⟨fun call k kx kp E H => B.1 call (fun E H => (cLoop B n).1 call k kx kp E H) kx kp E H⟩
def cSeq (A B : CF) : CF := ⟨fun call k kx kp E H => A.1 call (fun E H => B.1 call k kx kp E H) kx kp E H⟩
def cIf (c : Operand) (A B : CF) : CF := ⟨fun call k kx kp E H => match (oBx c).1 E with
  | none => false
  | some v => match asB v with
    | none => false
    | some true => A.1 call k kx kp E H
    | some false => B.1 call k kx kp E H⟩
def cBlock (id : Nat) (A : CF) : CF := ⟨fun call k kx kp E H => A.1 call k (fun x E H => match Nat.beq x (id + 1) with | true => k E H | false => kx x E H) kp E H⟩
def cRegC (R : RF) : CF := ⟨fun call k _ kp E H => R.1 call k kp E H⟩
def cC (ords : Nat → List (Nat × List Nat)) (fuel : Nat) : Code → CF
  | .skip => ⟨fun _ k _ _ E H => k E H⟩
  | .region id ops draw => cRegC (cReg P lib ops.toList (match draw with | true => ords id | false => seqGo ops.toList.length 0))
  | .seq a b => cSeq (cC ords fuel a) (cC ords fuel b)
  | .cond c a b => cIf c (cC ords fuel a) (cC ords fuel b)
  | .block id c => cBlock id (cC ords fuel c)
  | .loop c => cLoop (cC ords fuel c) fuel
  | .ret => ⟨fun _ _ kx _ E H => kx 0 E H⟩
  | .exit id => ⟨fun _ _ kx _ E H => kx (id + 1) E H⟩
  | _ => ⟨fun _ _ _ _ _ _ => false⟩

def xRes : List ResultVar → Bx (CE → CH → Option (List CV))
  | [] => ⟨fun _ _ => some []⟩
  | .tmp t :: rs => ⟨fun E H => match (gBx t).1 E with
    | none => none
    | some v => match (xRes rs).1 E H with
      | some l => some (v :: l)
      | none => none⟩
  | .cell a t :: rs => match szOf P t with
    | none => ⟨fun _ _ => none⟩
    | some sz => ⟨fun E H => match (hLoad sz (.tmp a)).1 E H with
      | none => none
      | some v => match (xRes rs).1 E H with
        | some l => some (v :: l)
        | none => none⟩
def tupX : List CV → CV
  | [v] => v
  | l => .tup l
def env1 : List CV → Nat → CE → CE
  | [], _, E => E
  | v :: l, n, E => env1 l (n + 1) (ePut n (some v) E)
def xEnd (rs : List ResultVar) (k : KF) (E : CE) (H : CH) : Bool := match (xRes P rs).1 E H with
  | some l => k (.ret (tupX l)) H
  | none => false
def onEnd (k : KN) : KX := fun x E H => match x with
  | 0 => k E H
  | _ + 1 => false
/-- A function without a deferred call. -/
def xFun (ords : Nat → List (Nat × List Nat)) (fuel : Nat) (fn : Func) : Bx (CALL → List CV → CH → KF → Bool) := match fn.body with
  | none => ⟨fun _ _ _ _ => false⟩
  | some c => ⟨fun call args H k => (cC P lib ords fuel c).1 call (xEnd P fn.results.toList k) (onEnd (xEnd P fn.results.toList k)) (fun v H => k (.pan v) H) (env1 args 0 e0) H⟩
def xPreC (ords : Nat → List (Nat × List Nat)) (fuel : Nat) (rs : List ResultVar) : List Code → Bx (CALL → KF → KN → CE → CH → Bool)
  | [] => ⟨fun _ _ k E H => k E H⟩
  | x :: xs => ⟨fun call kr k E H => (cC P lib ords fuel x).1 call (fun E H => (xPreC ords fuel rs xs).1 call kr k E H) (onEnd (xEnd P rs kr)) (fun v H => kr (.pan v) H) E H⟩
def xDoor (C : CF) (tr tx : Nat) (rs : List ResultVar) (call : CALL) (caps : List CV) (E : CE) (v : CV) (H : CH) (k : KF) : Bool :=
  C.1 call (fun _ H => xEnd P rs k E H) (onEnd fun _ H => xEnd P rs k E H) (fun _ _ => false) (ePut tx (some v) (ePut tr (some v) (env1 caps 0 e0))) H
/-- A function that defers a closure which recovers, behind j pieces of code. -/
def xGuard (ords ordsC : Nat → List (Nat × List Nat)) (fuel j : Nat) (fn gn : Func) : Bx (CALL → List CV → CH → KF → Bool) := match fn.body, gn.body with
  | some c, some cg => match guardOf (dropC j c), cloOf cg with
    | some (t, g, capOps, c2), some (tr, tx, rest) => ⟨fun call args H k =>
      (xPreC P lib ords fuel fn.results.toList (preC j c)).1 call k (fun E H => match (sBx capOps.toList).1 E with
        | none => false
        | some caps => (cC P lib ords fuel c2).1 call
            (fun _ H => xDoor P (cC P lib ordsC fuel rest) tr tx fn.results.toList call caps E .nilif H k)
            (onEnd fun _ H => xDoor P (cC P lib ordsC fuel rest) tr tx fn.results.toList call caps E .nilif H k)
            (fun v H => xDoor P (cC P lib ordsC fuel rest) tr tx fn.results.toList call caps E v H k)
            (ePut t (some (.fn g [] caps)) E) H)
        (env1 args 0 e0) H⟩
    | _, _ => ⟨fun _ _ _ _ => false⟩
  | _, _ => ⟨fun _ _ _ _ => false⟩
end
/-- What a function is: told once. gt: for functions that defer, how many pieces of code stand ahead, and the closure. -/
def xFn (P : Program) (lib : FuncId → List CV → Option CV) (ot : FuncId → List (Nat × List (Nat × List Nat))) (gt : FuncId → Option (Nat × FuncId)) (fuel : Nat) (f : FuncId) : Bx (CALL → List CV → CH → KF → Bool) :=
  match P.funcs[f]? with
  | none => ⟨fun _ _ _ _ => false⟩
  | some fn => match gt f with
    | none => xFun P lib (ordOf (ot f)) fuel fn
    | some (j, g) => match P.funcs[g]? with
      | none => ⟨fun _ _ _ _ => false⟩
      | some gn => xGuard P lib (ordOf (ot f)) (ordOf (ot g)) fuel j fn gn
/-- The calls, so deep. -/
def xF (P : Program) (lib : FuncId → List CV → Option CV) (ot : FuncId → List (Nat × List (Nat × List Nat))) (gt : FuncId → Option (Nat × FuncId)) (fuel : Nat) : Nat → CALL
  | 0 => fun _ _ _ _ => false
  | n + 1 => fun f args H k => (xFn P lib ot gt fuel f).1 (xF P lib ot gt fuel n) args H k
end
end Go.Px

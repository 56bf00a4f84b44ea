/-
  No cell of these rows narrows 'for every input' (looked for: loops, veiled, ifaces, maps, wideKeys, modest, calm, conditions, laid).
  DERIVED. THE GIVEN ROWS OF THIS SEAT. 8 by the template 'for every input the law returns true; each argument reads behind the call as it read before'; 0 by the template 'total and deterministic' (their statements: YtboeddfdbpjnjaaGreatTotals.lean).
  GIVEN WITH THE SEED: the statements are not yours to turn. If you find one false, say at which input.
  Laid BY PROGRAM, IN A SANDBOX (cutbox-rows.mjs): the forced cells as the released guide's own fill.sh prints them over the translation 5a38d64796185674… (all of the seat's roots in one cut). By AI agents, Wed Nov 11 2026. No macro, syntax, notation, axiom, sorry.
-/
import Derived.Test.YtboeddfdbpjnjaaGreatChecked
import GoSem.Claim
import GoSem.ClaimJoined
import GoSem.ClaimMapViews
import Derived.JoinedTies
import Derived.KernelRfl
namespace Go.Proofs.YtboeddfdbpjnjaaGreat
/- THE CELL 'sum', in the pinned program and in every row, IS THE sha256 OF THE DUMP (.gsa) THAT YtboeddfdbpjnjaaGreatProg.lean LOADS. Nothing in Lean hashes anything: it is a label: what it is worth is what the hold of that sum in a sandbox is worth. -/
noncomputable def Tryz.pinned : Pinned := { name := "ytboeddfdbpjnjaagreat", sum := "5a38d64796185674c828a3b463ef4719b880514eb303dc78658580afccc0da3a", checked := Tryz.checked }
namespace Rows
def none {H : Type} : Left H := { results := [], args := [] }

/-- 'gavellaw09.HouseOnce': WHATEVER THE INPUT: true; the input reads as it did. -/
def houseOnceSpec : ChangeSpec := { name := "houseOnce", fn := fun _ => fun
  | [d1, d2, d3] => { results := [.lit (.bool true)], args := [d1, d2, d3] }
  | _ => none }
def houseOnceRow : OpenClaim := { program := "ytboeddfdbpjnjaagreat", sum := "5a38d64796185674c828a3b463ef4719b880514eb303dc78658580afccc0da3a", func := "gavel/gavellaw09.HouseOnce", spec := "houseOnce", inPlace := ["math.Float64bits", "math.Float64frombits", "math.archTrunc"], unfollowed := true, recurses := true, apart := false }
def HouseOnceSaid : Prop := houseOnceRow.holds Tryz.pinned (OpenSpec.ofChange houseOnceSpec)

/-- ITS FALSE NEIGHBOUR: 'it returns false'. Refute it at one input. -/
def houseOnceWrong : ChangeSpec := { name := "houseOnce", fn := fun _ => fun
  | [d1, d2, d3] => { results := [.lit (.bool false)], args := [d1, d2, d3] }
  | _ => none }
def HouseOnceWrongFalsely : Prop := houseOnceRow.holds Tryz.pinned (OpenSpec.ofChange houseOnceWrong)

/-- 'gavellaw09.HouseOthers': WHATEVER THE INPUT: true; the input reads as it did. -/
def houseOthersSpec : ChangeSpec := { name := "houseOthers", fn := fun _ => fun
  | [d1, d2] => { results := [.lit (.bool true)], args := [d1, d2] }
  | _ => none }
def houseOthersRow : OpenClaim := { program := "ytboeddfdbpjnjaagreat", sum := "5a38d64796185674c828a3b463ef4719b880514eb303dc78658580afccc0da3a", func := "gavel/gavellaw09.HouseOthers", spec := "houseOthers", inPlace := ["math.Float64bits", "math.Float64frombits", "math.archTrunc"], unfollowed := true, recurses := true, apart := false }
def HouseOthersSaid : Prop := houseOthersRow.holds Tryz.pinned (OpenSpec.ofChange houseOthersSpec)

/-- ITS FALSE NEIGHBOUR: 'it returns false'. Refute it at one input. -/
def houseOthersWrong : ChangeSpec := { name := "houseOthers", fn := fun _ => fun
  | [d1, d2] => { results := [.lit (.bool false)], args := [d1, d2] }
  | _ => none }
def HouseOthersWrongFalsely : Prop := houseOthersRow.holds Tryz.pinned (OpenSpec.ofChange houseOthersWrong)

/-- 'gavellaw09.HouseRefused': WHATEVER THE INPUT: true; the input reads as it did. -/
def houseRefusedSpec : ChangeSpec := { name := "houseRefused", fn := fun _ => fun
  | [d1, d2] => { results := [.lit (.bool true)], args := [d1, d2] }
  | _ => none }
def houseRefusedRow : OpenClaim := { program := "ytboeddfdbpjnjaagreat", sum := "5a38d64796185674c828a3b463ef4719b880514eb303dc78658580afccc0da3a", func := "gavel/gavellaw09.HouseRefused", spec := "houseRefused", inPlace := ["math.Float64bits", "math.Float64frombits", "math.archTrunc"], unfollowed := true, recurses := true, apart := false }
def HouseRefusedSaid : Prop := houseRefusedRow.holds Tryz.pinned (OpenSpec.ofChange houseRefusedSpec)

/-- ITS FALSE NEIGHBOUR: 'it returns false'. Refute it at one input. -/
def houseRefusedWrong : ChangeSpec := { name := "houseRefused", fn := fun _ => fun
  | [d1, d2] => { results := [.lit (.bool false)], args := [d1, d2] }
  | _ => none }
def HouseRefusedWrongFalsely : Prop := houseRefusedRow.holds Tryz.pinned (OpenSpec.ofChange houseRefusedWrong)

/-- 'gavellaw09.HousePlays': WHATEVER THE INPUT: true; the input reads as it did. -/
def housePlaysSpec : ChangeSpec := { name := "housePlays", fn := fun _ => fun
  | [d1, d2, d3] => { results := [.lit (.bool true)], args := [d1, d2, d3] }
  | _ => none }
def housePlaysRow : OpenClaim := { program := "ytboeddfdbpjnjaagreat", sum := "5a38d64796185674c828a3b463ef4719b880514eb303dc78658580afccc0da3a", func := "gavel/gavellaw09.HousePlays", spec := "housePlays", inPlace := ["math.Float64bits", "math.Float64frombits", "math.archTrunc"], unfollowed := true, recurses := true, apart := false }
def HousePlaysSaid : Prop := housePlaysRow.holds Tryz.pinned (OpenSpec.ofChange housePlaysSpec)

/-- ITS FALSE NEIGHBOUR: 'it returns false'. Refute it at one input. -/
def housePlaysWrong : ChangeSpec := { name := "housePlays", fn := fun _ => fun
  | [d1, d2, d3] => { results := [.lit (.bool false)], args := [d1, d2, d3] }
  | _ => none }
def HousePlaysWrongFalsely : Prop := housePlaysRow.holds Tryz.pinned (OpenSpec.ofChange housePlaysWrong)

/-- 'gavellaw09.HouseNobody': WHATEVER THE INPUT: true; the input reads as it did. -/
def houseNobodySpec : ChangeSpec := { name := "houseNobody", fn := fun _ => fun
  | [d1, d2, d3] => { results := [.lit (.bool true)], args := [d1, d2, d3] }
  | _ => none }
def houseNobodyRow : OpenClaim := { program := "ytboeddfdbpjnjaagreat", sum := "5a38d64796185674c828a3b463ef4719b880514eb303dc78658580afccc0da3a", func := "gavel/gavellaw09.HouseNobody", spec := "houseNobody", inPlace := ["math.Float64frombits", "math.Float64bits", "math.archTrunc"], unfollowed := true, recurses := true, apart := false }
def HouseNobodySaid : Prop := houseNobodyRow.holds Tryz.pinned (OpenSpec.ofChange houseNobodySpec)

/-- ITS FALSE NEIGHBOUR: 'it returns false'. Refute it at one input. -/
def houseNobodyWrong : ChangeSpec := { name := "houseNobody", fn := fun _ => fun
  | [d1, d2, d3] => { results := [.lit (.bool false)], args := [d1, d2, d3] }
  | _ => none }
def HouseNobodyWrongFalsely : Prop := houseNobodyRow.holds Tryz.pinned (OpenSpec.ofChange houseNobodyWrong)

/-- 'gavellaw09.HouseBack': WHATEVER THE INPUT: true; the input reads as it did. -/
def houseBackSpec : ChangeSpec := { name := "houseBack", fn := fun _ => fun
  | [d1, d2] => { results := [.lit (.bool true)], args := [d1, d2] }
  | _ => none }
def houseBackRow : OpenClaim := { program := "ytboeddfdbpjnjaagreat", sum := "5a38d64796185674c828a3b463ef4719b880514eb303dc78658580afccc0da3a", func := "gavel/gavellaw09.HouseBack", spec := "houseBack", inPlace := ["math.Float64bits", "math.Float64frombits", "math.archTrunc"], unfollowed := true, recurses := true, apart := false }
def HouseBackSaid : Prop := houseBackRow.holds Tryz.pinned (OpenSpec.ofChange houseBackSpec)

/-- ITS FALSE NEIGHBOUR: 'it returns false'. Refute it at one input. -/
def houseBackWrong : ChangeSpec := { name := "houseBack", fn := fun _ => fun
  | [d1, d2] => { results := [.lit (.bool false)], args := [d1, d2] }
  | _ => none }
def HouseBackWrongFalsely : Prop := houseBackRow.holds Tryz.pinned (OpenSpec.ofChange houseBackWrong)

/-- 'gavellaw09.HouseReads': WHATEVER THE INPUT: true; the input reads as it did. -/
def houseReadsSpec : ChangeSpec := { name := "houseReads", fn := fun _ => fun
  | [d1, d2] => { results := [.lit (.bool true)], args := [d1, d2] }
  | _ => none }
def houseReadsRow : OpenClaim := { program := "ytboeddfdbpjnjaagreat", sum := "5a38d64796185674c828a3b463ef4719b880514eb303dc78658580afccc0da3a", func := "gavel/gavellaw09.HouseReads", spec := "houseReads", inPlace := ["math.Float64bits", "math.Float64frombits", "math.archTrunc"], unfollowed := true, recurses := true, apart := false }
def HouseReadsSaid : Prop := houseReadsRow.holds Tryz.pinned (OpenSpec.ofChange houseReadsSpec)

/-- ITS FALSE NEIGHBOUR: 'it returns false'. Refute it at one input. -/
def houseReadsWrong : ChangeSpec := { name := "houseReads", fn := fun _ => fun
  | [d1, d2] => { results := [.lit (.bool false)], args := [d1, d2] }
  | _ => none }
def HouseReadsWrongFalsely : Prop := houseReadsRow.holds Tryz.pinned (OpenSpec.ofChange houseReadsWrong)

/-- 'gavellaw09.HouseTold': WHATEVER THE INPUT: true; the input reads as it did. -/
def houseToldSpec : ChangeSpec := { name := "houseTold", fn := fun _ => fun
  | [d1, d2] => { results := [.lit (.bool true)], args := [d1, d2] }
  | _ => none }
def houseToldRow : OpenClaim := { program := "ytboeddfdbpjnjaagreat", sum := "5a38d64796185674c828a3b463ef4719b880514eb303dc78658580afccc0da3a", func := "gavel/gavellaw09.HouseTold", spec := "houseTold", inPlace := ["math.Float64bits", "math.Float64frombits", "math.archTrunc"], unfollowed := true, recurses := true, apart := false }
def HouseToldSaid : Prop := houseToldRow.holds Tryz.pinned (OpenSpec.ofChange houseToldSpec)

/-- ITS FALSE NEIGHBOUR: 'it returns false'. Refute it at one input. -/
def houseToldWrong : ChangeSpec := { name := "houseTold", fn := fun _ => fun
  | [d1, d2] => { results := [.lit (.bool false)], args := [d1, d2] }
  | _ => none }
def HouseToldWrongFalsely : Prop := houseToldRow.holds Tryz.pinned (OpenSpec.ofChange houseToldWrong)

/- THE SECOND FORM. 'bulk': how many values and letters a reading holds, each counted each time it is reached (what is shared counts as often as it is met; a slice's spare places count too). A statement '..UptoSaid' is the law's where the arguments, and the package variables that the reading takes, are together of bulk at most 1048576: NARROWER than '..Said'. Prove '..Said' where nothing that the law and all that it calls make is longer than what came in: it says more and counts as full. Else prove '..UptoSaid'. A law counts once. -/
mutual
def uptoBulk {H : Type} : DataW H → Nat
  | .lit (.string bytes) => bytes.length + 1
  | .lit _ => 1
  | .nil => 1
  | .ptr d => uptoBulk d + 1
  | .slice elems spare => uptoBulkAll elems + uptoBulkAll spare + 1
  | .agg parts => uptoBulkAll parts + 1
  | .iface _ d => uptoBulk d + 1
  | .map entries => uptoBulkEntries entries + 1
  | .held _ => 1
def uptoBulkAll {H : Type} : List (DataW H) → Nat
  | [] => 0
  | d :: r => uptoBulk d + uptoBulkAll r
def uptoBulkEntries {H : Type} : List (Lit × DataW H) → Nat
  | [] => 0
  | x :: r => uptoBulkEntry x + uptoBulkEntries r
def uptoBulkEntry {H : Type} : Lit × DataW H → Nat
  | (.string bytes, d) => bytes.length + uptoBulk d + 1
  | (_, d) => uptoBulk d + 1
 end
def uptoSmall : (H : Type) → List (DataW H) → Bool := fun _ ds => decide (uptoBulkAll ds ≤ 1048576)
def OpenSpec.upto (s : _root_.Go.ChangeSpec) : _root_.Go.OpenSpec := { _root_.Go.OpenSpec.ofChange s with cond := some uptoSmall }

/-- 'gavellaw09.HouseOnce', WHERE WHAT IT READS IS OF BULK AT MOST 1048576: true; the input reads as it did. -/
def houseOnceUptoRow : OpenClaim := { program := "ytboeddfdbpjnjaagreat", sum := "5a38d64796185674c828a3b463ef4719b880514eb303dc78658580afccc0da3a", func := "gavel/gavellaw09.HouseOnce", spec := "houseOnce", inPlace := ["math.Float64bits", "math.Float64frombits", "math.archTrunc"], unfollowed := true, recurses := true, apart := false, narrowed := true }
def HouseOnceUptoSaid : Prop := houseOnceUptoRow.holds Tryz.pinned (OpenSpec.upto houseOnceSpec)

/-- 'gavellaw09.HouseOthers', WHERE WHAT IT READS IS OF BULK AT MOST 1048576: true; the input reads as it did. -/
def houseOthersUptoRow : OpenClaim := { program := "ytboeddfdbpjnjaagreat", sum := "5a38d64796185674c828a3b463ef4719b880514eb303dc78658580afccc0da3a", func := "gavel/gavellaw09.HouseOthers", spec := "houseOthers", inPlace := ["math.Float64bits", "math.Float64frombits", "math.archTrunc"], unfollowed := true, recurses := true, apart := false, narrowed := true }
def HouseOthersUptoSaid : Prop := houseOthersUptoRow.holds Tryz.pinned (OpenSpec.upto houseOthersSpec)

/-- 'gavellaw09.HouseRefused', WHERE WHAT IT READS IS OF BULK AT MOST 1048576: true; the input reads as it did. -/
def houseRefusedUptoRow : OpenClaim := { program := "ytboeddfdbpjnjaagreat", sum := "5a38d64796185674c828a3b463ef4719b880514eb303dc78658580afccc0da3a", func := "gavel/gavellaw09.HouseRefused", spec := "houseRefused", inPlace := ["math.Float64bits", "math.Float64frombits", "math.archTrunc"], unfollowed := true, recurses := true, apart := false, narrowed := true }
def HouseRefusedUptoSaid : Prop := houseRefusedUptoRow.holds Tryz.pinned (OpenSpec.upto houseRefusedSpec)

/-- 'gavellaw09.HousePlays', WHERE WHAT IT READS IS OF BULK AT MOST 1048576: true; the input reads as it did. -/
def housePlaysUptoRow : OpenClaim := { program := "ytboeddfdbpjnjaagreat", sum := "5a38d64796185674c828a3b463ef4719b880514eb303dc78658580afccc0da3a", func := "gavel/gavellaw09.HousePlays", spec := "housePlays", inPlace := ["math.Float64bits", "math.Float64frombits", "math.archTrunc"], unfollowed := true, recurses := true, apart := false, narrowed := true }
def HousePlaysUptoSaid : Prop := housePlaysUptoRow.holds Tryz.pinned (OpenSpec.upto housePlaysSpec)

/-- 'gavellaw09.HouseNobody', WHERE WHAT IT READS IS OF BULK AT MOST 1048576: true; the input reads as it did. -/
def houseNobodyUptoRow : OpenClaim := { program := "ytboeddfdbpjnjaagreat", sum := "5a38d64796185674c828a3b463ef4719b880514eb303dc78658580afccc0da3a", func := "gavel/gavellaw09.HouseNobody", spec := "houseNobody", inPlace := ["math.Float64frombits", "math.Float64bits", "math.archTrunc"], unfollowed := true, recurses := true, apart := false, narrowed := true }
def HouseNobodyUptoSaid : Prop := houseNobodyUptoRow.holds Tryz.pinned (OpenSpec.upto houseNobodySpec)

/-- 'gavellaw09.HouseBack', WHERE WHAT IT READS IS OF BULK AT MOST 1048576: true; the input reads as it did. -/
def houseBackUptoRow : OpenClaim := { program := "ytboeddfdbpjnjaagreat", sum := "5a38d64796185674c828a3b463ef4719b880514eb303dc78658580afccc0da3a", func := "gavel/gavellaw09.HouseBack", spec := "houseBack", inPlace := ["math.Float64bits", "math.Float64frombits", "math.archTrunc"], unfollowed := true, recurses := true, apart := false, narrowed := true }
def HouseBackUptoSaid : Prop := houseBackUptoRow.holds Tryz.pinned (OpenSpec.upto houseBackSpec)

/-- 'gavellaw09.HouseReads', WHERE WHAT IT READS IS OF BULK AT MOST 1048576: true; the input reads as it did. -/
def houseReadsUptoRow : OpenClaim := { program := "ytboeddfdbpjnjaagreat", sum := "5a38d64796185674c828a3b463ef4719b880514eb303dc78658580afccc0da3a", func := "gavel/gavellaw09.HouseReads", spec := "houseReads", inPlace := ["math.Float64bits", "math.Float64frombits", "math.archTrunc"], unfollowed := true, recurses := true, apart := false, narrowed := true }
def HouseReadsUptoSaid : Prop := houseReadsUptoRow.holds Tryz.pinned (OpenSpec.upto houseReadsSpec)

/-- 'gavellaw09.HouseTold', WHERE WHAT IT READS IS OF BULK AT MOST 1048576: true; the input reads as it did. -/
def houseToldUptoRow : OpenClaim := { program := "ytboeddfdbpjnjaagreat", sum := "5a38d64796185674c828a3b463ef4719b880514eb303dc78658580afccc0da3a", func := "gavel/gavellaw09.HouseTold", spec := "houseTold", inPlace := ["math.Float64bits", "math.Float64frombits", "math.archTrunc"], unfollowed := true, recurses := true, apart := false, narrowed := true }
def HouseToldUptoSaid : Prop := houseToldUptoRow.holds Tryz.pinned (OpenSpec.upto houseToldSpec)

end Rows
end Go.Proofs.YtboeddfdbpjnjaaGreat

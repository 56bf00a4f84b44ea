/-
  No cell of these rows narrows 'for every input' (looked for: loops, veiled, ifaces, maps, wideKeys, modest, calm, conditions, laid).
  DERIVED. THE GIVEN ROWS OF THIS SEAT. 3 by the template 'for every input the law returns true; each argument reads behind the call as it read before'; 0 by the template 'total and deterministic' (their statements: YtgpcjdmiecnphaaGreatTotals.lean).
  GIVEN WITH THE SEED: the statements are not yours to turn. If you find one false, say at which input.
  Laid BY PROGRAM, IN A SANDBOX (cutbox-rows.mjs): the forced cells as the released guide's own fill.sh prints them over the translation dca9addf714fcdda… (all of the seat's roots in one cut). By AI agents, Wed Nov 11 2026. No macro, syntax, notation, axiom, sorry.
-/
import Derived.Test.YtgpcjdmiecnphaaGreatChecked
import GoSem.Claim
import GoSem.ClaimJoined
import GoSem.ClaimMapViews
import Derived.JoinedTies
import Derived.KernelRfl
namespace Go.Proofs.YtgpcjdmiecnphaaGreat
/- THE CELL 'sum', in the pinned program and in every row, IS THE sha256 OF THE DUMP (.gsa) THAT YtgpcjdmiecnphaaGreatProg.lean LOADS. Nothing in Lean hashes anything: it is a label: what it is worth is what the hold of that sum in a sandbox is worth. -/
noncomputable def Tryz.pinned : Pinned := { name := "ytgpcjdmiecnphaagreat", sum := "dca9addf714fcdda380df74e943fc37da709d8369d80417f4768c5633487fa3e", checked := Tryz.checked }
namespace Rows
def none {H : Type} : Left H := { results := [], args := [] }

/-- 'gavellaw11.CoreNew': WHATEVER THE INPUT: true; the input reads as it did. -/
def coreNewSpec : ChangeSpec := { name := "coreNew", fn := fun _ => fun
  | [d1, d2, d3] => { results := [.lit (.bool true)], args := [d1, d2, d3] }
  | _ => none }
def coreNewRow : OpenClaim := { program := "ytgpcjdmiecnphaagreat", sum := "dca9addf714fcdda380df74e943fc37da709d8369d80417f4768c5633487fa3e", func := "gavel/gavellaw11.CoreNew", spec := "coreNew", inPlace := ["math.Float64bits", "math.Float64frombits", "math.archTrunc", "internal/bytealg.abigen_runtime_cmpstring"], unfollowed := true, recurses := true, plainKeys := false, apart := false }
def CoreNewSaid : Prop := coreNewRow.holds Tryz.pinned (OpenSpec.ofChange coreNewSpec)

/-- ITS FALSE NEIGHBOUR: 'it returns false'. Refute it at one input. -/
def coreNewWrong : ChangeSpec := { name := "coreNew", fn := fun _ => fun
  | [d1, d2, d3] => { results := [.lit (.bool false)], args := [d1, d2, d3] }
  | _ => none }
def CoreNewWrongFalsely : Prop := coreNewRow.holds Tryz.pinned (OpenSpec.ofChange coreNewWrong)

/-- 'gavellaw13.ClusterBound': WHATEVER THE INPUT: true; the input reads as it did. -/
def clusterBoundSpec : ChangeSpec := { name := "clusterBound", fn := fun _ => fun
  | [d1, d2] => { results := [.lit (.bool true)], args := [d1, d2] }
  | _ => none }
def clusterBoundRow : OpenClaim := { program := "ytgpcjdmiecnphaagreat", sum := "dca9addf714fcdda380df74e943fc37da709d8369d80417f4768c5633487fa3e", func := "gavel/gavellaw13.ClusterBound", spec := "clusterBound", inPlace := ["math.Float64frombits", "math.Float64bits", "math.archTrunc", "internal/bytealg.abigen_runtime_cmpstring"], unfollowed := true, recurses := true, plainKeys := false, apart := false }
def ClusterBoundSaid : Prop := clusterBoundRow.holds Tryz.pinned (OpenSpec.ofChange clusterBoundSpec)

/-- ITS FALSE NEIGHBOUR: 'it returns false'. Refute it at one input. -/
def clusterBoundWrong : ChangeSpec := { name := "clusterBound", fn := fun _ => fun
  | [d1, d2] => { results := [.lit (.bool false)], args := [d1, d2] }
  | _ => none }
def ClusterBoundWrongFalsely : Prop := clusterBoundRow.holds Tryz.pinned (OpenSpec.ofChange clusterBoundWrong)

/-- 'gavellaw13.ClusterNew': WHATEVER THE INPUT: true; the input reads as it did. -/
def clusterNewSpec : ChangeSpec := { name := "clusterNew", fn := fun _ => fun
  | [d1, d2, d3] => { results := [.lit (.bool true)], args := [d1, d2, d3] }
  | _ => none }
def clusterNewRow : OpenClaim := { program := "ytgpcjdmiecnphaagreat", sum := "dca9addf714fcdda380df74e943fc37da709d8369d80417f4768c5633487fa3e", func := "gavel/gavellaw13.ClusterNew", spec := "clusterNew", inPlace := ["math.Float64frombits", "math.Float64bits", "math.archTrunc", "internal/bytealg.abigen_runtime_cmpstring"], unfollowed := true, recurses := true, plainKeys := false, apart := false }
def ClusterNewSaid : Prop := clusterNewRow.holds Tryz.pinned (OpenSpec.ofChange clusterNewSpec)

/-- ITS FALSE NEIGHBOUR: 'it returns false'. Refute it at one input. -/
def clusterNewWrong : ChangeSpec := { name := "clusterNew", fn := fun _ => fun
  | [d1, d2, d3] => { results := [.lit (.bool false)], args := [d1, d2, d3] }
  | _ => none }
def ClusterNewWrongFalsely : Prop := clusterNewRow.holds Tryz.pinned (OpenSpec.ofChange clusterNewWrong)

/- THE SECOND FORM. 'bulk': how many values and letters a reading holds, each counted each time it is reached (what is shared counts as often as it is met; a slice's spare places count too). A statement '..UptoSaid' is the law's where the arguments, and the package variables that the reading takes, are together of bulk at most 1048576: NARROWER than '..Said'. Prove '..Said' where nothing that the law and all that it calls make is longer than what came in: it says more and counts as full. Else prove '..UptoSaid'. A law counts once. -/
mutual
def uptoBulk {H : Type} : DataW H → Nat
  | .lit (.string bytes) => bytes.length + 1
  | .lit _ => 1
  | .nil => 1
  | .ptr d => uptoBulk d + 1
  | .slice elems spare => uptoBulkAll elems + uptoBulkAll spare + 1
  | .agg parts => uptoBulkAll parts + 1
  | .iface _ d => uptoBulk d + 1
  | .map entries => uptoBulkEntries entries + 1
  | .held _ => 1
def uptoBulkAll {H : Type} : List (DataW H) → Nat
  | [] => 0
  | d :: r => uptoBulk d + uptoBulkAll r
def uptoBulkEntries {H : Type} : List (Lit × DataW H) → Nat
  | [] => 0
  | x :: r => uptoBulkEntry x + uptoBulkEntries r
def uptoBulkEntry {H : Type} : Lit × DataW H → Nat
  | (.string bytes, d) => bytes.length + uptoBulk d + 1
  | (_, d) => uptoBulk d + 1
 end
def uptoSmall : (H : Type) → List (DataW H) → Bool := fun _ ds => decide (uptoBulkAll ds ≤ 1048576)
def OpenSpec.upto (s : _root_.Go.ChangeSpec) : _root_.Go.OpenSpec := { _root_.Go.OpenSpec.ofChange s with cond := some uptoSmall }

/-- 'gavellaw11.CoreNew', WHERE WHAT IT READS IS OF BULK AT MOST 1048576: true; the input reads as it did. -/
def coreNewUptoRow : OpenClaim := { program := "ytgpcjdmiecnphaagreat", sum := "dca9addf714fcdda380df74e943fc37da709d8369d80417f4768c5633487fa3e", func := "gavel/gavellaw11.CoreNew", spec := "coreNew", inPlace := ["math.Float64bits", "math.Float64frombits", "math.archTrunc", "internal/bytealg.abigen_runtime_cmpstring"], unfollowed := true, recurses := true, plainKeys := false, apart := false, narrowed := true }
def CoreNewUptoSaid : Prop := coreNewUptoRow.holds Tryz.pinned (OpenSpec.upto coreNewSpec)

/-- 'gavellaw13.ClusterBound', WHERE WHAT IT READS IS OF BULK AT MOST 1048576: true; the input reads as it did. -/
def clusterBoundUptoRow : OpenClaim := { program := "ytgpcjdmiecnphaagreat", sum := "dca9addf714fcdda380df74e943fc37da709d8369d80417f4768c5633487fa3e", func := "gavel/gavellaw13.ClusterBound", spec := "clusterBound", inPlace := ["math.Float64frombits", "math.Float64bits", "math.archTrunc", "internal/bytealg.abigen_runtime_cmpstring"], unfollowed := true, recurses := true, plainKeys := false, apart := false, narrowed := true }
def ClusterBoundUptoSaid : Prop := clusterBoundUptoRow.holds Tryz.pinned (OpenSpec.upto clusterBoundSpec)

/-- 'gavellaw13.ClusterNew', WHERE WHAT IT READS IS OF BULK AT MOST 1048576: true; the input reads as it did. -/
def clusterNewUptoRow : OpenClaim := { program := "ytgpcjdmiecnphaagreat", sum := "dca9addf714fcdda380df74e943fc37da709d8369d80417f4768c5633487fa3e", func := "gavel/gavellaw13.ClusterNew", spec := "clusterNew", inPlace := ["math.Float64frombits", "math.Float64bits", "math.archTrunc", "internal/bytealg.abigen_runtime_cmpstring"], unfollowed := true, recurses := true, plainKeys := false, apart := false, narrowed := true }
def ClusterNewUptoSaid : Prop := clusterNewUptoRow.holds Tryz.pinned (OpenSpec.upto clusterNewSpec)

end Rows
end Go.Proofs.YtgpcjdmiecnphaaGreat

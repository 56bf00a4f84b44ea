/-
  No cell of these rows narrows 'for every input' (looked for: loops, veiled, ifaces, maps, wideKeys, modest, calm, conditions, laid).
  DERIVED. THE GIVEN ROWS OF THIS SEAT. 6 by the template 'for every input the law returns true; each argument reads behind the call as it read before'; 0 by the template 'total and deterministic' (their statements: YtbidgpchoamdfaaTotals.lean).
  GIVEN WITH THE SEED: the statements are not yours to turn. If you find one false, say at which input.
  Laid BY PROGRAM, IN A SANDBOX (cutbox-rows.mjs): the forced cells as the released guide's own fill.sh prints them over the translation a3e970e72718ddfb… (all of the seat's roots in one cut). By AI agents, Wed Nov 11 2026. No macro, syntax, notation, axiom, sorry.
-/
import Derived.Test.YtbidgpchoamdfaaChecked
import GoSem.Claim
import GoSem.ClaimJoined
import GoSem.ClaimMapViews
import Derived.JoinedTies
import Derived.KernelRfl
namespace Go.Proofs.Ytbidgpchoamdfaa
/- THE CELL 'sum', in the pinned program and in every row, IS THE sha256 OF THE DUMP (.gsa) THAT YtbidgpchoamdfaaProg.lean LOADS. Nothing in Lean hashes anything: it is a label: what it is worth is what the hold of that sum in a sandbox is worth. -/
noncomputable def Try.pinned : Pinned := { name := "ytbidgpchoamdfaa", sum := "a3e970e72718ddfbcd6b981343eb5b1c3d3be98bd224a6e204d39b5c78787f93", checked := Try.checked }
namespace Rows
def none {H : Type} : Left H := { results := [], args := [] }

/-- 'gavellaw06.LedgerRefused': WHATEVER THE INPUT: true; the input reads as it did. -/
def ledgerRefusedSpec : ChangeSpec := { name := "ledgerRefused", fn := fun _ => fun
  | [d1, d2] => { results := [.lit (.bool true)], args := [d1, d2] }
  | _ => none }
def ledgerRefusedRow : OpenClaim := { program := "ytbidgpchoamdfaa", sum := "a3e970e72718ddfbcd6b981343eb5b1c3d3be98bd224a6e204d39b5c78787f93", func := "gavel/gavellaw06.LedgerRefused", spec := "ledgerRefused", apart := false }
def LedgerRefusedSaid : Prop := ledgerRefusedRow.holds Try.pinned (OpenSpec.ofChange ledgerRefusedSpec)

/-- ITS FALSE NEIGHBOUR: 'it returns false'. Refute it at one input. -/
def ledgerRefusedWrong : ChangeSpec := { name := "ledgerRefused", fn := fun _ => fun
  | [d1, d2] => { results := [.lit (.bool false)], args := [d1, d2] }
  | _ => none }
def LedgerRefusedWrongFalsely : Prop := ledgerRefusedRow.holds Try.pinned (OpenSpec.ofChange ledgerRefusedWrong)

/-- 'gavellaw06.LedgerBackwards': WHATEVER THE INPUT: true; the input reads as it did. -/
def ledgerBackwardsSpec : ChangeSpec := { name := "ledgerBackwards", fn := fun _ => fun
  | [d1, d2, d3, d4] => { results := [.lit (.bool true)], args := [d1, d2, d3, d4] }
  | _ => none }
def ledgerBackwardsRow : OpenClaim := { program := "ytbidgpchoamdfaa", sum := "a3e970e72718ddfbcd6b981343eb5b1c3d3be98bd224a6e204d39b5c78787f93", func := "gavel/gavellaw06.LedgerBackwards", spec := "ledgerBackwards", apart := false }
def LedgerBackwardsSaid : Prop := ledgerBackwardsRow.holds Try.pinned (OpenSpec.ofChange ledgerBackwardsSpec)

/-- ITS FALSE NEIGHBOUR: 'it returns false'. Refute it at one input. -/
def ledgerBackwardsWrong : ChangeSpec := { name := "ledgerBackwards", fn := fun _ => fun
  | [d1, d2, d3, d4] => { results := [.lit (.bool false)], args := [d1, d2, d3, d4] }
  | _ => none }
def LedgerBackwardsWrongFalsely : Prop := ledgerBackwardsRow.holds Try.pinned (OpenSpec.ofChange ledgerBackwardsWrong)

/-- 'gavellaw06.LedgerNobody': WHATEVER THE INPUT: true; the input reads as it did. -/
def ledgerNobodySpec : ChangeSpec := { name := "ledgerNobody", fn := fun _ => fun
  | [d] => { results := [.lit (.bool true)], args := [d] }
  | _ => none }
def ledgerNobodyRow : OpenClaim := { program := "ytbidgpchoamdfaa", sum := "a3e970e72718ddfbcd6b981343eb5b1c3d3be98bd224a6e204d39b5c78787f93", func := "gavel/gavellaw06.LedgerNobody", spec := "ledgerNobody", apart := false }
def LedgerNobodySaid : Prop := ledgerNobodyRow.holds Try.pinned (OpenSpec.ofChange ledgerNobodySpec)

/-- ITS FALSE NEIGHBOUR: 'it returns false'. Refute it at one input. -/
def ledgerNobodyWrong : ChangeSpec := { name := "ledgerNobody", fn := fun _ => fun
  | [d] => { results := [.lit (.bool false)], args := [d] }
  | _ => none }
def LedgerNobodyWrongFalsely : Prop := ledgerNobodyRow.holds Try.pinned (OpenSpec.ofChange ledgerNobodyWrong)

/-- 'gavellaw06.LedgerSame': WHATEVER THE INPUT: true; the input reads as it did. -/
def ledgerSameSpec : ChangeSpec := { name := "ledgerSame", fn := fun _ => fun
  | [d1, d2] => { results := [.lit (.bool true)], args := [d1, d2] }
  | _ => none }
def ledgerSameRow : OpenClaim := { program := "ytbidgpchoamdfaa", sum := "a3e970e72718ddfbcd6b981343eb5b1c3d3be98bd224a6e204d39b5c78787f93", func := "gavel/gavellaw06.LedgerSame", spec := "ledgerSame", apart := false }
def LedgerSameSaid : Prop := ledgerSameRow.holds Try.pinned (OpenSpec.ofChange ledgerSameSpec)

/-- ITS FALSE NEIGHBOUR: 'it returns false'. Refute it at one input. -/
def ledgerSameWrong : ChangeSpec := { name := "ledgerSame", fn := fun _ => fun
  | [d1, d2] => { results := [.lit (.bool false)], args := [d1, d2] }
  | _ => none }
def LedgerSameWrongFalsely : Prop := ledgerSameRow.holds Try.pinned (OpenSpec.ofChange ledgerSameWrong)

/-- 'gavellaw06.LedgerReads': WHATEVER THE INPUT: true; the input reads as it did. -/
def ledgerReadsSpec : ChangeSpec := { name := "ledgerReads", fn := fun _ => fun
  | [d1, d2, d3] => { results := [.lit (.bool true)], args := [d1, d2, d3] }
  | _ => none }
def ledgerReadsRow : OpenClaim := { program := "ytbidgpchoamdfaa", sum := "a3e970e72718ddfbcd6b981343eb5b1c3d3be98bd224a6e204d39b5c78787f93", func := "gavel/gavellaw06.LedgerReads", spec := "ledgerReads", unfollowed := true, recurses := true, apart := false }
def LedgerReadsSaid : Prop := ledgerReadsRow.holds Try.pinned (OpenSpec.ofChange ledgerReadsSpec)

/-- ITS FALSE NEIGHBOUR: 'it returns false'. Refute it at one input. -/
def ledgerReadsWrong : ChangeSpec := { name := "ledgerReads", fn := fun _ => fun
  | [d1, d2, d3] => { results := [.lit (.bool false)], args := [d1, d2, d3] }
  | _ => none }
def LedgerReadsWrongFalsely : Prop := ledgerReadsRow.holds Try.pinned (OpenSpec.ofChange ledgerReadsWrong)

/-- 'gavellaw06.LedgerRecords': WHATEVER THE INPUT: true; the input reads as it did. -/
def ledgerRecordsSpec : ChangeSpec := { name := "ledgerRecords", fn := fun _ => fun
  | [d1, d2] => { results := [.lit (.bool true)], args := [d1, d2] }
  | _ => none }
def ledgerRecordsRow : OpenClaim := { program := "ytbidgpchoamdfaa", sum := "a3e970e72718ddfbcd6b981343eb5b1c3d3be98bd224a6e204d39b5c78787f93", func := "gavel/gavellaw06.LedgerRecords", spec := "ledgerRecords", unfollowed := true, recurses := true, apart := false }
def LedgerRecordsSaid : Prop := ledgerRecordsRow.holds Try.pinned (OpenSpec.ofChange ledgerRecordsSpec)

/-- ITS FALSE NEIGHBOUR: 'it returns false'. Refute it at one input. -/
def ledgerRecordsWrong : ChangeSpec := { name := "ledgerRecords", fn := fun _ => fun
  | [d1, d2] => { results := [.lit (.bool false)], args := [d1, d2] }
  | _ => none }
def LedgerRecordsWrongFalsely : Prop := ledgerRecordsRow.holds Try.pinned (OpenSpec.ofChange ledgerRecordsWrong)

/- THE SECOND FORM. 'bulk': how many values and letters a reading holds, each counted each time it is reached (what is shared counts as often as it is met; a slice's spare places count too). A statement '..UptoSaid' is the law's where the arguments, and the package variables that the reading takes, are together of bulk at most 1048576: NARROWER than '..Said'. Prove '..Said' where nothing that the law and all that it calls make is longer than what came in: it says more and counts as full. Else prove '..UptoSaid'. A law counts once. -/
mutual
def uptoBulk {H : Type} : DataW H → Nat
  | .lit (.string bytes) => bytes.length + 1
  | .lit _ => 1
  | .nil => 1
  | .ptr d => uptoBulk d + 1
  | .slice elems spare => uptoBulkAll elems + uptoBulkAll spare + 1
  | .agg parts => uptoBulkAll parts + 1
  | .iface _ d => uptoBulk d + 1
  | .map entries => uptoBulkEntries entries + 1
  | .held _ => 1
def uptoBulkAll {H : Type} : List (DataW H) → Nat
  | [] => 0
  | d :: r => uptoBulk d + uptoBulkAll r
def uptoBulkEntries {H : Type} : List (Lit × DataW H) → Nat
  | [] => 0
  | x :: r => uptoBulkEntry x + uptoBulkEntries r
def uptoBulkEntry {H : Type} : Lit × DataW H → Nat
  | (.string bytes, d) => bytes.length + uptoBulk d + 1
  | (_, d) => uptoBulk d + 1
 end
def uptoSmall : (H : Type) → List (DataW H) → Bool := fun _ ds => decide (uptoBulkAll ds ≤ 1048576)
def OpenSpec.upto (s : _root_.Go.ChangeSpec) : _root_.Go.OpenSpec := { _root_.Go.OpenSpec.ofChange s with cond := some uptoSmall }

/-- 'gavellaw06.LedgerRefused', WHERE WHAT IT READS IS OF BULK AT MOST 1048576: true; the input reads as it did. -/
def ledgerRefusedUptoRow : OpenClaim := { program := "ytbidgpchoamdfaa", sum := "a3e970e72718ddfbcd6b981343eb5b1c3d3be98bd224a6e204d39b5c78787f93", func := "gavel/gavellaw06.LedgerRefused", spec := "ledgerRefused", apart := false, narrowed := true }
def LedgerRefusedUptoSaid : Prop := ledgerRefusedUptoRow.holds Try.pinned (OpenSpec.upto ledgerRefusedSpec)

/-- 'gavellaw06.LedgerBackwards', WHERE WHAT IT READS IS OF BULK AT MOST 1048576: true; the input reads as it did. -/
def ledgerBackwardsUptoRow : OpenClaim := { program := "ytbidgpchoamdfaa", sum := "a3e970e72718ddfbcd6b981343eb5b1c3d3be98bd224a6e204d39b5c78787f93", func := "gavel/gavellaw06.LedgerBackwards", spec := "ledgerBackwards", apart := false, narrowed := true }
def LedgerBackwardsUptoSaid : Prop := ledgerBackwardsUptoRow.holds Try.pinned (OpenSpec.upto ledgerBackwardsSpec)

/-- 'gavellaw06.LedgerNobody', WHERE WHAT IT READS IS OF BULK AT MOST 1048576: true; the input reads as it did. -/
def ledgerNobodyUptoRow : OpenClaim := { program := "ytbidgpchoamdfaa", sum := "a3e970e72718ddfbcd6b981343eb5b1c3d3be98bd224a6e204d39b5c78787f93", func := "gavel/gavellaw06.LedgerNobody", spec := "ledgerNobody", apart := false, narrowed := true }
def LedgerNobodyUptoSaid : Prop := ledgerNobodyUptoRow.holds Try.pinned (OpenSpec.upto ledgerNobodySpec)

/-- 'gavellaw06.LedgerSame', WHERE WHAT IT READS IS OF BULK AT MOST 1048576: true; the input reads as it did. -/
def ledgerSameUptoRow : OpenClaim := { program := "ytbidgpchoamdfaa", sum := "a3e970e72718ddfbcd6b981343eb5b1c3d3be98bd224a6e204d39b5c78787f93", func := "gavel/gavellaw06.LedgerSame", spec := "ledgerSame", apart := false, narrowed := true }
def LedgerSameUptoSaid : Prop := ledgerSameUptoRow.holds Try.pinned (OpenSpec.upto ledgerSameSpec)

/-- 'gavellaw06.LedgerReads', WHERE WHAT IT READS IS OF BULK AT MOST 1048576: true; the input reads as it did. -/
def ledgerReadsUptoRow : OpenClaim := { program := "ytbidgpchoamdfaa", sum := "a3e970e72718ddfbcd6b981343eb5b1c3d3be98bd224a6e204d39b5c78787f93", func := "gavel/gavellaw06.LedgerReads", spec := "ledgerReads", unfollowed := true, recurses := true, apart := false, narrowed := true }
def LedgerReadsUptoSaid : Prop := ledgerReadsUptoRow.holds Try.pinned (OpenSpec.upto ledgerReadsSpec)

/-- 'gavellaw06.LedgerRecords', WHERE WHAT IT READS IS OF BULK AT MOST 1048576: true; the input reads as it did. -/
def ledgerRecordsUptoRow : OpenClaim := { program := "ytbidgpchoamdfaa", sum := "a3e970e72718ddfbcd6b981343eb5b1c3d3be98bd224a6e204d39b5c78787f93", func := "gavel/gavellaw06.LedgerRecords", spec := "ledgerRecords", unfollowed := true, recurses := true, apart := false, narrowed := true }
def LedgerRecordsUptoSaid : Prop := ledgerRecordsUptoRow.holds Try.pinned (OpenSpec.upto ledgerRecordsSpec)

end Rows
end Go.Proofs.Ytbidgpchoamdfaa

/-
  No cell of these rows narrows 'for every input' (looked for: loops, veiled, ifaces, maps, wideKeys, modest, calm, conditions, laid).
  DERIVED. THE GIVEN ROWS OF THIS SEAT. 5 by the template 'for every input the law returns true; each argument reads behind the call as it read before'; 0 by the template 'total and deterministic' (their statements: YthlmopndmaemnaaTotals.lean).
  GIVEN WITH THE SEED: the statements are not yours to turn. If you find one false, say at which input.
  Laid BY PROGRAM, IN A SANDBOX (cutbox-rows.mjs): the forced cells as the released guide's own fill.sh prints them over the translation 0c251b3e7144992b… (all of the seat's roots in one cut). By AI agents, Wed Nov 11 2026. No macro, syntax, notation, axiom, sorry.
-/
import Derived.Test.YthlmopndmaemnaaChecked
import GoSem.Claim
import GoSem.ClaimJoined
import GoSem.ClaimMapViews
import Derived.JoinedTies
import Derived.KernelRfl
namespace Go.Proofs.Ythlmopndmaemnaa
/- THE CELL 'sum', in the pinned program and in every row, IS THE sha256 OF THE DUMP (.gsa) THAT YthlmopndmaemnaaProg.lean LOADS. Nothing in Lean hashes anything: it is a label: what it is worth is what the hold of that sum in a sandbox is worth. -/
noncomputable def Try.pinned : Pinned := { name := "ythlmopndmaemnaa", sum := "0c251b3e7144992b58f61b734a9d953f1414e9a5018c236abce24b8b0cc88a2e", checked := Try.checked }
namespace Rows
def none {H : Type} : Left H := { results := [], args := [] }

/-- 'laws.FnExactBucketsOf': WHATEVER THE INPUT: true; the input reads as it did. -/
def fnExactBucketsOfSpec : ChangeSpec := { name := "fnExactBucketsOf", fn := fun _ => fun
  | [d1, d2] => { results := [.lit (.bool true)], args := [d1, d2] }
  | _ => none }
def fnExactBucketsOfRow : OpenClaim := { program := "ythlmopndmaemnaa", sum := "0c251b3e7144992b58f61b734a9d953f1414e9a5018c236abce24b8b0cc88a2e", func := "loop.example/g03207/laws.FnExactBucketsOf", spec := "fnExactBucketsOf", unfollowed := true, recurses := true, apart := false }
def FnExactBucketsOfSaid : Prop := fnExactBucketsOfRow.holds Try.pinned (OpenSpec.ofChange fnExactBucketsOfSpec)

/-- ITS FALSE NEIGHBOUR: 'it returns false'. Refute it at one input. -/
def fnExactBucketsOfWrong : ChangeSpec := { name := "fnExactBucketsOf", fn := fun _ => fun
  | [d1, d2] => { results := [.lit (.bool false)], args := [d1, d2] }
  | _ => none }
def FnExactBucketsOfWrongFalsely : Prop := fnExactBucketsOfRow.holds Try.pinned (OpenSpec.ofChange fnExactBucketsOfWrong)

/-- 'laws.FnExactMergeRuns': WHATEVER THE INPUT: true; the input reads as it did. -/
def fnExactMergeRunsSpec : ChangeSpec := { name := "fnExactMergeRuns", fn := fun _ => fun
  | [d] => { results := [.lit (.bool true)], args := [d] }
  | _ => none }
def fnExactMergeRunsRow : OpenClaim := { program := "ythlmopndmaemnaa", sum := "0c251b3e7144992b58f61b734a9d953f1414e9a5018c236abce24b8b0cc88a2e", func := "loop.example/g03207/laws.FnExactMergeRuns", spec := "fnExactMergeRuns", recurses := true, apart := false }
def FnExactMergeRunsSaid : Prop := fnExactMergeRunsRow.holds Try.pinned (OpenSpec.ofChange fnExactMergeRunsSpec)

/-- ITS FALSE NEIGHBOUR: 'it returns false'. Refute it at one input. -/
def fnExactMergeRunsWrong : ChangeSpec := { name := "fnExactMergeRuns", fn := fun _ => fun
  | [d] => { results := [.lit (.bool false)], args := [d] }
  | _ => none }
def FnExactMergeRunsWrongFalsely : Prop := fnExactMergeRunsRow.holds Try.pinned (OpenSpec.ofChange fnExactMergeRunsWrong)

/-- 'laws.FnExactReplacementRuns': WHATEVER THE INPUT: true; the input reads as it did. -/
def fnExactReplacementRunsSpec : ChangeSpec := { name := "fnExactReplacementRuns", fn := fun _ => fun
  | [d1, d2] => { results := [.lit (.bool true)], args := [d1, d2] }
  | _ => none }
def fnExactReplacementRunsRow : OpenClaim := { program := "ythlmopndmaemnaa", sum := "0c251b3e7144992b58f61b734a9d953f1414e9a5018c236abce24b8b0cc88a2e", func := "loop.example/g03207/laws.FnExactReplacementRuns", spec := "fnExactReplacementRuns", unfollowed := true, recurses := true, apart := false }
def FnExactReplacementRunsSaid : Prop := fnExactReplacementRunsRow.holds Try.pinned (OpenSpec.ofChange fnExactReplacementRunsSpec)

/-- ITS FALSE NEIGHBOUR: 'it returns false'. Refute it at one input. -/
def fnExactReplacementRunsWrong : ChangeSpec := { name := "fnExactReplacementRuns", fn := fun _ => fun
  | [d1, d2] => { results := [.lit (.bool false)], args := [d1, d2] }
  | _ => none }
def FnExactReplacementRunsWrongFalsely : Prop := fnExactReplacementRunsRow.holds Try.pinned (OpenSpec.ofChange fnExactReplacementRunsWrong)

/-- 'laws.FnExactCheapestMerge': WHATEVER THE INPUT: true; the input reads as it did. -/
def fnExactCheapestMergeSpec : ChangeSpec := { name := "fnExactCheapestMerge", fn := fun _ => fun
  | [d] => { results := [.lit (.bool true)], args := [d] }
  | _ => none }
def fnExactCheapestMergeRow : OpenClaim := { program := "ythlmopndmaemnaa", sum := "0c251b3e7144992b58f61b734a9d953f1414e9a5018c236abce24b8b0cc88a2e", func := "loop.example/g03207/laws.FnExactCheapestMerge", spec := "fnExactCheapestMerge", unfollowed := true, recurses := true, apart := false }
def FnExactCheapestMergeSaid : Prop := fnExactCheapestMergeRow.holds Try.pinned (OpenSpec.ofChange fnExactCheapestMergeSpec)

/-- ITS FALSE NEIGHBOUR: 'it returns false'. Refute it at one input. -/
def fnExactCheapestMergeWrong : ChangeSpec := { name := "fnExactCheapestMerge", fn := fun _ => fun
  | [d] => { results := [.lit (.bool false)], args := [d] }
  | _ => none }
def FnExactCheapestMergeWrongFalsely : Prop := fnExactCheapestMergeRow.holds Try.pinned (OpenSpec.ofChange fnExactCheapestMergeWrong)

/-- 'laws.FnExactMergeDepths': WHATEVER THE INPUT: true; the input reads as it did. -/
def fnExactMergeDepthsSpec : ChangeSpec := { name := "fnExactMergeDepths", fn := fun _ => fun
  | [d] => { results := [.lit (.bool true)], args := [d] }
  | _ => none }
def fnExactMergeDepthsRow : OpenClaim := { program := "ythlmopndmaemnaa", sum := "0c251b3e7144992b58f61b734a9d953f1414e9a5018c236abce24b8b0cc88a2e", func := "loop.example/g03207/laws.FnExactMergeDepths", spec := "fnExactMergeDepths", unfollowed := true, recurses := true, apart := false }
def FnExactMergeDepthsSaid : Prop := fnExactMergeDepthsRow.holds Try.pinned (OpenSpec.ofChange fnExactMergeDepthsSpec)

/-- ITS FALSE NEIGHBOUR: 'it returns false'. Refute it at one input. -/
def fnExactMergeDepthsWrong : ChangeSpec := { name := "fnExactMergeDepths", fn := fun _ => fun
  | [d] => { results := [.lit (.bool false)], args := [d] }
  | _ => none }
def FnExactMergeDepthsWrongFalsely : Prop := fnExactMergeDepthsRow.holds Try.pinned (OpenSpec.ofChange fnExactMergeDepthsWrong)

/- THE SECOND FORM. 'bulk': how many values and letters a reading holds, each counted each time it is reached (what is shared counts as often as it is met; a slice's spare places count too). A statement '..UptoSaid' is the law's where the arguments, and the package variables that the reading takes, are together of bulk at most 1048576: NARROWER than '..Said'. Prove '..Said' where nothing that the law and all that it calls make is longer than what came in: it says more and counts as full. Else prove '..UptoSaid'. A law counts once. -/
mutual
def uptoBulk {H : Type} : DataW H → Nat
  | .lit (.string bytes) => bytes.length + 1
  | .lit _ => 1
  | .nil => 1
  | .ptr d => uptoBulk d + 1
  | .slice elems spare => uptoBulkAll elems + uptoBulkAll spare + 1
  | .agg parts => uptoBulkAll parts + 1
  | .iface _ d => uptoBulk d + 1
  | .map entries => uptoBulkEntries entries + 1
  | .held _ => 1
def uptoBulkAll {H : Type} : List (DataW H) → Nat
  | [] => 0
  | d :: r => uptoBulk d + uptoBulkAll r
def uptoBulkEntries {H : Type} : List (Lit × DataW H) → Nat
  | [] => 0
  | x :: r => uptoBulkEntry x + uptoBulkEntries r
def uptoBulkEntry {H : Type} : Lit × DataW H → Nat
  | (.string bytes, d) => bytes.length + uptoBulk d + 1
  | (_, d) => uptoBulk d + 1
 end
def uptoSmall : (H : Type) → List (DataW H) → Bool := fun _ ds => decide (uptoBulkAll ds ≤ 1048576)
def OpenSpec.upto (s : _root_.Go.ChangeSpec) : _root_.Go.OpenSpec := { _root_.Go.OpenSpec.ofChange s with cond := some uptoSmall }

/-- 'laws.FnExactBucketsOf', WHERE WHAT IT READS IS OF BULK AT MOST 1048576: true; the input reads as it did. -/
def fnExactBucketsOfUptoRow : OpenClaim := { program := "ythlmopndmaemnaa", sum := "0c251b3e7144992b58f61b734a9d953f1414e9a5018c236abce24b8b0cc88a2e", func := "loop.example/g03207/laws.FnExactBucketsOf", spec := "fnExactBucketsOf", unfollowed := true, recurses := true, apart := false, narrowed := true }
def FnExactBucketsOfUptoSaid : Prop := fnExactBucketsOfUptoRow.holds Try.pinned (OpenSpec.upto fnExactBucketsOfSpec)

/-- 'laws.FnExactMergeRuns', WHERE WHAT IT READS IS OF BULK AT MOST 1048576: true; the input reads as it did. -/
def fnExactMergeRunsUptoRow : OpenClaim := { program := "ythlmopndmaemnaa", sum := "0c251b3e7144992b58f61b734a9d953f1414e9a5018c236abce24b8b0cc88a2e", func := "loop.example/g03207/laws.FnExactMergeRuns", spec := "fnExactMergeRuns", recurses := true, apart := false, narrowed := true }
def FnExactMergeRunsUptoSaid : Prop := fnExactMergeRunsUptoRow.holds Try.pinned (OpenSpec.upto fnExactMergeRunsSpec)

/-- 'laws.FnExactReplacementRuns', WHERE WHAT IT READS IS OF BULK AT MOST 1048576: true; the input reads as it did. -/
def fnExactReplacementRunsUptoRow : OpenClaim := { program := "ythlmopndmaemnaa", sum := "0c251b3e7144992b58f61b734a9d953f1414e9a5018c236abce24b8b0cc88a2e", func := "loop.example/g03207/laws.FnExactReplacementRuns", spec := "fnExactReplacementRuns", unfollowed := true, recurses := true, apart := false, narrowed := true }
def FnExactReplacementRunsUptoSaid : Prop := fnExactReplacementRunsUptoRow.holds Try.pinned (OpenSpec.upto fnExactReplacementRunsSpec)

/-- 'laws.FnExactCheapestMerge', WHERE WHAT IT READS IS OF BULK AT MOST 1048576: true; the input reads as it did. -/
def fnExactCheapestMergeUptoRow : OpenClaim := { program := "ythlmopndmaemnaa", sum := "0c251b3e7144992b58f61b734a9d953f1414e9a5018c236abce24b8b0cc88a2e", func := "loop.example/g03207/laws.FnExactCheapestMerge", spec := "fnExactCheapestMerge", unfollowed := true, recurses := true, apart := false, narrowed := true }
def FnExactCheapestMergeUptoSaid : Prop := fnExactCheapestMergeUptoRow.holds Try.pinned (OpenSpec.upto fnExactCheapestMergeSpec)

/-- 'laws.FnExactMergeDepths', WHERE WHAT IT READS IS OF BULK AT MOST 1048576: true; the input reads as it did. -/
def fnExactMergeDepthsUptoRow : OpenClaim := { program := "ythlmopndmaemnaa", sum := "0c251b3e7144992b58f61b734a9d953f1414e9a5018c236abce24b8b0cc88a2e", func := "loop.example/g03207/laws.FnExactMergeDepths", spec := "fnExactMergeDepths", unfollowed := true, recurses := true, apart := false, narrowed := true }
def FnExactMergeDepthsUptoSaid : Prop := fnExactMergeDepthsUptoRow.holds Try.pinned (OpenSpec.upto fnExactMergeDepthsSpec)

end Rows
end Go.Proofs.Ythlmopndmaemnaa

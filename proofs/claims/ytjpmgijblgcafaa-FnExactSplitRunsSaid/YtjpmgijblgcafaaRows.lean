/-
  No cell of these rows narrows 'for every input' (looked for: loops, veiled, ifaces, maps, wideKeys, modest, calm, conditions, laid).
  DERIVED. THE GIVEN ROWS OF THIS SEAT. 12 by the template 'for every input the law returns true; each argument reads behind the call as it read before'; 0 by the template 'total and deterministic' (their statements: YtjpmgijblgcafaaTotals.lean).
  GIVEN WITH THE SEED: the statements are not yours to turn. If you find one false, say at which input.
  Laid BY PROGRAM, IN A SANDBOX (cutbox-rows.mjs): the forced cells as the released guide's own fill.sh prints them over the translation ce1fbb873652dc8b… (all of the seat's roots in one cut). By AI agents, Wed Nov 11 2026. No macro, syntax, notation, axiom, sorry.
-/
import Derived.Test.YtjpmgijblgcafaaChecked
import GoSem.Claim
import GoSem.ClaimJoined
import GoSem.ClaimMapViews
import Derived.JoinedTies
import Derived.KernelRfl
namespace Go.Proofs.Ytjpmgijblgcafaa
/- THE CELL 'sum', in the pinned program and in every row, IS THE sha256 OF THE DUMP (.gsa) THAT YtjpmgijblgcafaaProg.lean LOADS. Nothing in Lean hashes anything: it is a label: what it is worth is what the hold of that sum in a sandbox is worth. -/
noncomputable def Try.pinned : Pinned := { name := "ytjpmgijblgcafaa", sum := "ce1fbb873652dc8b215d9ae8f1b2b847d79420e6934df12a93344bc960321c39", checked := Try.checked }
namespace Rows
def none {H : Type} : Left H := { results := [], args := [] }

/-- 'laws.FnExactLengthsOk': WHATEVER THE INPUT: true; the input reads as it did. -/
def fnExactLengthsOkSpec : ChangeSpec := { name := "fnExactLengthsOk", fn := fun _ => fun
  | [d] => { results := [.lit (.bool true)], args := [d] }
  | _ => none }
def fnExactLengthsOkRow : OpenClaim := { program := "ytjpmgijblgcafaa", sum := "ce1fbb873652dc8b215d9ae8f1b2b847d79420e6934df12a93344bc960321c39", func := "loop.example/g03207/laws.FnExactLengthsOk", spec := "fnExactLengthsOk", unfollowed := true, recurses := true, apart := false }
def FnExactLengthsOkSaid : Prop := fnExactLengthsOkRow.holds Try.pinned (OpenSpec.ofChange fnExactLengthsOkSpec)

/-- ITS FALSE NEIGHBOUR: 'it returns false'. Refute it at one input. -/
def fnExactLengthsOkWrong : ChangeSpec := { name := "fnExactLengthsOk", fn := fun _ => fun
  | [d] => { results := [.lit (.bool false)], args := [d] }
  | _ => none }
def FnExactLengthsOkWrongFalsely : Prop := fnExactLengthsOkRow.holds Try.pinned (OpenSpec.ofChange fnExactLengthsOkWrong)

/-- 'laws.FnExactCheapestNeighbors': WHATEVER THE INPUT: true; the input reads as it did. -/
def fnExactCheapestNeighborsSpec : ChangeSpec := { name := "fnExactCheapestNeighbors", fn := fun _ => fun
  | [d] => { results := [.lit (.bool true)], args := [d] }
  | _ => none }
def fnExactCheapestNeighborsRow : OpenClaim := { program := "ytjpmgijblgcafaa", sum := "ce1fbb873652dc8b215d9ae8f1b2b847d79420e6934df12a93344bc960321c39", func := "loop.example/g03207/laws.FnExactCheapestNeighbors", spec := "fnExactCheapestNeighbors", unfollowed := true, recurses := true, apart := false }
def FnExactCheapestNeighborsSaid : Prop := fnExactCheapestNeighborsRow.holds Try.pinned (OpenSpec.ofChange fnExactCheapestNeighborsSpec)

/-- ITS FALSE NEIGHBOUR: 'it returns false'. Refute it at one input. -/
def fnExactCheapestNeighborsWrong : ChangeSpec := { name := "fnExactCheapestNeighbors", fn := fun _ => fun
  | [d] => { results := [.lit (.bool false)], args := [d] }
  | _ => none }
def FnExactCheapestNeighborsWrongFalsely : Prop := fnExactCheapestNeighborsRow.holds Try.pinned (OpenSpec.ofChange fnExactCheapestNeighborsWrong)

/-- 'laws.FnExactSplitRuns': WHATEVER THE INPUT: true; the input reads as it did. -/
def fnExactSplitRunsSpec : ChangeSpec := { name := "fnExactSplitRuns", fn := fun _ => fun
  | [d] => { results := [.lit (.bool true)], args := [d] }
  | _ => none }
def fnExactSplitRunsRow : OpenClaim := { program := "ytjpmgijblgcafaa", sum := "ce1fbb873652dc8b215d9ae8f1b2b847d79420e6934df12a93344bc960321c39", func := "loop.example/g03207/laws.FnExactSplitRuns", spec := "fnExactSplitRuns", apart := false }
def FnExactSplitRunsSaid : Prop := fnExactSplitRunsRow.holds Try.pinned (OpenSpec.ofChange fnExactSplitRunsSpec)

/-- ITS FALSE NEIGHBOUR: 'it returns false'. Refute it at one input. -/
def fnExactSplitRunsWrong : ChangeSpec := { name := "fnExactSplitRuns", fn := fun _ => fun
  | [d] => { results := [.lit (.bool false)], args := [d] }
  | _ => none }
def FnExactSplitRunsWrongFalsely : Prop := fnExactSplitRunsRow.holds Try.pinned (OpenSpec.ofChange fnExactSplitRunsWrong)

/-- 'laws.FnExactCheapestMerge': WHATEVER THE INPUT: true; the input reads as it did. -/
def fnExactCheapestMergeSpec : ChangeSpec := { name := "fnExactCheapestMerge", fn := fun _ => fun
  | [d] => { results := [.lit (.bool true)], args := [d] }
  | _ => none }
def fnExactCheapestMergeRow : OpenClaim := { program := "ytjpmgijblgcafaa", sum := "ce1fbb873652dc8b215d9ae8f1b2b847d79420e6934df12a93344bc960321c39", func := "loop.example/g03207/laws.FnExactCheapestMerge", spec := "fnExactCheapestMerge", unfollowed := true, recurses := true, apart := false }
def FnExactCheapestMergeSaid : Prop := fnExactCheapestMergeRow.holds Try.pinned (OpenSpec.ofChange fnExactCheapestMergeSpec)

/-- ITS FALSE NEIGHBOUR: 'it returns false'. Refute it at one input. -/
def fnExactCheapestMergeWrong : ChangeSpec := { name := "fnExactCheapestMerge", fn := fun _ => fun
  | [d] => { results := [.lit (.bool false)], args := [d] }
  | _ => none }
def FnExactCheapestMergeWrongFalsely : Prop := fnExactCheapestMergeRow.holds Try.pinned (OpenSpec.ofChange fnExactCheapestMergeWrong)

/-- 'laws.FnExactMergeDepths': WHATEVER THE INPUT: true; the input reads as it did. -/
def fnExactMergeDepthsSpec : ChangeSpec := { name := "fnExactMergeDepths", fn := fun _ => fun
  | [d] => { results := [.lit (.bool true)], args := [d] }
  | _ => none }
def fnExactMergeDepthsRow : OpenClaim := { program := "ytjpmgijblgcafaa", sum := "ce1fbb873652dc8b215d9ae8f1b2b847d79420e6934df12a93344bc960321c39", func := "loop.example/g03207/laws.FnExactMergeDepths", spec := "fnExactMergeDepths", unfollowed := true, recurses := true, apart := false }
def FnExactMergeDepthsSaid : Prop := fnExactMergeDepthsRow.holds Try.pinned (OpenSpec.ofChange fnExactMergeDepthsSpec)

/-- ITS FALSE NEIGHBOUR: 'it returns false'. Refute it at one input. -/
def fnExactMergeDepthsWrong : ChangeSpec := { name := "fnExactMergeDepths", fn := fun _ => fun
  | [d] => { results := [.lit (.bool false)], args := [d] }
  | _ => none }
def FnExactMergeDepthsWrongFalsely : Prop := fnExactMergeDepthsRow.holds Try.pinned (OpenSpec.ofChange fnExactMergeDepthsWrong)

/-- 'laws.FnExactReplacementRuns': WHATEVER THE INPUT: true; the input reads as it did. -/
def fnExactReplacementRunsSpec : ChangeSpec := { name := "fnExactReplacementRuns", fn := fun _ => fun
  | [d1, d2] => { results := [.lit (.bool true)], args := [d1, d2] }
  | _ => none }
def fnExactReplacementRunsRow : OpenClaim := { program := "ytjpmgijblgcafaa", sum := "ce1fbb873652dc8b215d9ae8f1b2b847d79420e6934df12a93344bc960321c39", func := "loop.example/g03207/laws.FnExactReplacementRuns", spec := "fnExactReplacementRuns", unfollowed := true, recurses := true, apart := false }
def FnExactReplacementRunsSaid : Prop := fnExactReplacementRunsRow.holds Try.pinned (OpenSpec.ofChange fnExactReplacementRunsSpec)

/-- ITS FALSE NEIGHBOUR: 'it returns false'. Refute it at one input. -/
def fnExactReplacementRunsWrong : ChangeSpec := { name := "fnExactReplacementRuns", fn := fun _ => fun
  | [d1, d2] => { results := [.lit (.bool false)], args := [d1, d2] }
  | _ => none }
def FnExactReplacementRunsWrongFalsely : Prop := fnExactReplacementRunsRow.holds Try.pinned (OpenSpec.ofChange fnExactReplacementRunsWrong)

/-- 'laws.FnExactMergeRuns': WHATEVER THE INPUT: true; the input reads as it did. -/
def fnExactMergeRunsSpec : ChangeSpec := { name := "fnExactMergeRuns", fn := fun _ => fun
  | [d] => { results := [.lit (.bool true)], args := [d] }
  | _ => none }
def fnExactMergeRunsRow : OpenClaim := { program := "ytjpmgijblgcafaa", sum := "ce1fbb873652dc8b215d9ae8f1b2b847d79420e6934df12a93344bc960321c39", func := "loop.example/g03207/laws.FnExactMergeRuns", spec := "fnExactMergeRuns", recurses := true, apart := false }
def FnExactMergeRunsSaid : Prop := fnExactMergeRunsRow.holds Try.pinned (OpenSpec.ofChange fnExactMergeRunsSpec)

/-- ITS FALSE NEIGHBOUR: 'it returns false'. Refute it at one input. -/
def fnExactMergeRunsWrong : ChangeSpec := { name := "fnExactMergeRuns", fn := fun _ => fun
  | [d] => { results := [.lit (.bool false)], args := [d] }
  | _ => none }
def FnExactMergeRunsWrongFalsely : Prop := fnExactMergeRunsRow.holds Try.pinned (OpenSpec.ofChange fnExactMergeRunsWrong)

/-- 'laws.FnRuns': WHATEVER THE INPUT: true; the input reads as it did. -/
def fnRunsSpec : ChangeSpec := { name := "fnRuns", fn := fun _ => fun
  | [d] => { results := [.lit (.bool true)], args := [d] }
  | _ => none }
def fnRunsRow : OpenClaim := { program := "ytjpmgijblgcafaa", sum := "ce1fbb873652dc8b215d9ae8f1b2b847d79420e6934df12a93344bc960321c39", func := "loop.example/g03207/laws.FnRuns", spec := "fnRuns", unfollowed := true, recurses := true, apart := false }
def FnRunsSaid : Prop := fnRunsRow.holds Try.pinned (OpenSpec.ofChange fnRunsSpec)

/-- ITS FALSE NEIGHBOUR: 'it returns false'. Refute it at one input. -/
def fnRunsWrong : ChangeSpec := { name := "fnRuns", fn := fun _ => fun
  | [d] => { results := [.lit (.bool false)], args := [d] }
  | _ => none }
def FnRunsWrongFalsely : Prop := fnRunsRow.holds Try.pinned (OpenSpec.ofChange fnRunsWrong)

/-- 'laws.FnExactTimesOk': WHATEVER THE INPUT: true; the input reads as it did. -/
def fnExactTimesOkSpec : ChangeSpec := { name := "fnExactTimesOk", fn := fun _ => fun
  | [d] => { results := [.lit (.bool true)], args := [d] }
  | _ => none }
def fnExactTimesOkRow : OpenClaim := { program := "ytjpmgijblgcafaa", sum := "ce1fbb873652dc8b215d9ae8f1b2b847d79420e6934df12a93344bc960321c39", func := "loop.example/g03207/laws.FnExactTimesOk", spec := "fnExactTimesOk", unfollowed := true, recurses := true, apart := false }
def FnExactTimesOkSaid : Prop := fnExactTimesOkRow.holds Try.pinned (OpenSpec.ofChange fnExactTimesOkSpec)

/-- ITS FALSE NEIGHBOUR: 'it returns false'. Refute it at one input. -/
def fnExactTimesOkWrong : ChangeSpec := { name := "fnExactTimesOk", fn := fun _ => fun
  | [d] => { results := [.lit (.bool false)], args := [d] }
  | _ => none }
def FnExactTimesOkWrongFalsely : Prop := fnExactTimesOkRow.holds Try.pinned (OpenSpec.ofChange fnExactTimesOkWrong)

/-- 'laws.FnExactSlackNeeded': WHATEVER THE INPUT: true; the input reads as it did. -/
def fnExactSlackNeededSpec : ChangeSpec := { name := "fnExactSlackNeeded", fn := fun _ => fun
  | [d] => { results := [.lit (.bool true)], args := [d] }
  | _ => none }
def fnExactSlackNeededRow : OpenClaim := { program := "ytjpmgijblgcafaa", sum := "ce1fbb873652dc8b215d9ae8f1b2b847d79420e6934df12a93344bc960321c39", func := "loop.example/g03207/laws.FnExactSlackNeeded", spec := "fnExactSlackNeeded", unfollowed := true, recurses := true, apart := false }
def FnExactSlackNeededSaid : Prop := fnExactSlackNeededRow.holds Try.pinned (OpenSpec.ofChange fnExactSlackNeededSpec)

/-- ITS FALSE NEIGHBOUR: 'it returns false'. Refute it at one input. -/
def fnExactSlackNeededWrong : ChangeSpec := { name := "fnExactSlackNeeded", fn := fun _ => fun
  | [d] => { results := [.lit (.bool false)], args := [d] }
  | _ => none }
def FnExactSlackNeededWrongFalsely : Prop := fnExactSlackNeededRow.holds Try.pinned (OpenSpec.ofChange fnExactSlackNeededWrong)

/-- 'laws.FnExactBucketsOf': WHATEVER THE INPUT: true; the input reads as it did. -/
def fnExactBucketsOfSpec : ChangeSpec := { name := "fnExactBucketsOf", fn := fun _ => fun
  | [d1, d2] => { results := [.lit (.bool true)], args := [d1, d2] }
  | _ => none }
def fnExactBucketsOfRow : OpenClaim := { program := "ytjpmgijblgcafaa", sum := "ce1fbb873652dc8b215d9ae8f1b2b847d79420e6934df12a93344bc960321c39", func := "loop.example/g03207/laws.FnExactBucketsOf", spec := "fnExactBucketsOf", unfollowed := true, recurses := true, apart := false }
def FnExactBucketsOfSaid : Prop := fnExactBucketsOfRow.holds Try.pinned (OpenSpec.ofChange fnExactBucketsOfSpec)

/-- ITS FALSE NEIGHBOUR: 'it returns false'. Refute it at one input. -/
def fnExactBucketsOfWrong : ChangeSpec := { name := "fnExactBucketsOf", fn := fun _ => fun
  | [d1, d2] => { results := [.lit (.bool false)], args := [d1, d2] }
  | _ => none }
def FnExactBucketsOfWrongFalsely : Prop := fnExactBucketsOfRow.holds Try.pinned (OpenSpec.ofChange fnExactBucketsOfWrong)

/-- 'laws.FnExactMarksOf': WHATEVER THE INPUT: true; the input reads as it did. -/
def fnExactMarksOfSpec : ChangeSpec := { name := "fnExactMarksOf", fn := fun _ => fun
  | [d1, d2] => { results := [.lit (.bool true)], args := [d1, d2] }
  | _ => none }
def fnExactMarksOfRow : OpenClaim := { program := "ytjpmgijblgcafaa", sum := "ce1fbb873652dc8b215d9ae8f1b2b847d79420e6934df12a93344bc960321c39", func := "loop.example/g03207/laws.FnExactMarksOf", spec := "fnExactMarksOf", unfollowed := true, recurses := true, apart := false }
def FnExactMarksOfSaid : Prop := fnExactMarksOfRow.holds Try.pinned (OpenSpec.ofChange fnExactMarksOfSpec)

/-- ITS FALSE NEIGHBOUR: 'it returns false'. Refute it at one input. -/
def fnExactMarksOfWrong : ChangeSpec := { name := "fnExactMarksOf", fn := fun _ => fun
  | [d1, d2] => { results := [.lit (.bool false)], args := [d1, d2] }
  | _ => none }
def FnExactMarksOfWrongFalsely : Prop := fnExactMarksOfRow.holds Try.pinned (OpenSpec.ofChange fnExactMarksOfWrong)

/- THE SECOND FORM. 'bulk': how many values and letters a reading holds, each counted each time it is reached (what is shared counts as often as it is met; a slice's spare places count too). A statement '..UptoSaid' is the law's where the arguments, and the package variables that the reading takes, are together of bulk at most 1048576: NARROWER than '..Said'. Prove '..Said' where nothing that the law and all that it calls make is longer than what came in: it says more and counts as full. Else prove '..UptoSaid'. A law counts once. -/
mutual
def uptoBulk {H : Type} : DataW H → Nat
  | .lit (.string bytes) => bytes.length + 1
  | .lit _ => 1
  | .nil => 1
  | .ptr d => uptoBulk d + 1
  | .slice elems spare => uptoBulkAll elems + uptoBulkAll spare + 1
  | .agg parts => uptoBulkAll parts + 1
  | .iface _ d => uptoBulk d + 1
  | .map entries => uptoBulkEntries entries + 1
  | .held _ => 1
def uptoBulkAll {H : Type} : List (DataW H) → Nat
  | [] => 0
  | d :: r => uptoBulk d + uptoBulkAll r
def uptoBulkEntries {H : Type} : List (Lit × DataW H) → Nat
  | [] => 0
  | x :: r => uptoBulkEntry x + uptoBulkEntries r
def uptoBulkEntry {H : Type} : Lit × DataW H → Nat
  | (.string bytes, d) => bytes.length + uptoBulk d + 1
  | (_, d) => uptoBulk d + 1
 end
def uptoSmall : (H : Type) → List (DataW H) → Bool := fun _ ds => decide (uptoBulkAll ds ≤ 1048576)
def OpenSpec.upto (s : _root_.Go.ChangeSpec) : _root_.Go.OpenSpec := { _root_.Go.OpenSpec.ofChange s with cond := some uptoSmall }

/-- 'laws.FnExactLengthsOk', WHERE WHAT IT READS IS OF BULK AT MOST 1048576: true; the input reads as it did. -/
def fnExactLengthsOkUptoRow : OpenClaim := { program := "ytjpmgijblgcafaa", sum := "ce1fbb873652dc8b215d9ae8f1b2b847d79420e6934df12a93344bc960321c39", func := "loop.example/g03207/laws.FnExactLengthsOk", spec := "fnExactLengthsOk", unfollowed := true, recurses := true, apart := false, narrowed := true }
def FnExactLengthsOkUptoSaid : Prop := fnExactLengthsOkUptoRow.holds Try.pinned (OpenSpec.upto fnExactLengthsOkSpec)

/-- 'laws.FnExactCheapestNeighbors', WHERE WHAT IT READS IS OF BULK AT MOST 1048576: true; the input reads as it did. -/
def fnExactCheapestNeighborsUptoRow : OpenClaim := { program := "ytjpmgijblgcafaa", sum := "ce1fbb873652dc8b215d9ae8f1b2b847d79420e6934df12a93344bc960321c39", func := "loop.example/g03207/laws.FnExactCheapestNeighbors", spec := "fnExactCheapestNeighbors", unfollowed := true, recurses := true, apart := false, narrowed := true }
def FnExactCheapestNeighborsUptoSaid : Prop := fnExactCheapestNeighborsUptoRow.holds Try.pinned (OpenSpec.upto fnExactCheapestNeighborsSpec)

/-- 'laws.FnExactSplitRuns', WHERE WHAT IT READS IS OF BULK AT MOST 1048576: true; the input reads as it did. -/
def fnExactSplitRunsUptoRow : OpenClaim := { program := "ytjpmgijblgcafaa", sum := "ce1fbb873652dc8b215d9ae8f1b2b847d79420e6934df12a93344bc960321c39", func := "loop.example/g03207/laws.FnExactSplitRuns", spec := "fnExactSplitRuns", apart := false, narrowed := true }
def FnExactSplitRunsUptoSaid : Prop := fnExactSplitRunsUptoRow.holds Try.pinned (OpenSpec.upto fnExactSplitRunsSpec)

/-- 'laws.FnExactCheapestMerge', WHERE WHAT IT READS IS OF BULK AT MOST 1048576: true; the input reads as it did. -/
def fnExactCheapestMergeUptoRow : OpenClaim := { program := "ytjpmgijblgcafaa", sum := "ce1fbb873652dc8b215d9ae8f1b2b847d79420e6934df12a93344bc960321c39", func := "loop.example/g03207/laws.FnExactCheapestMerge", spec := "fnExactCheapestMerge", unfollowed := true, recurses := true, apart := false, narrowed := true }
def FnExactCheapestMergeUptoSaid : Prop := fnExactCheapestMergeUptoRow.holds Try.pinned (OpenSpec.upto fnExactCheapestMergeSpec)

/-- 'laws.FnExactMergeDepths', WHERE WHAT IT READS IS OF BULK AT MOST 1048576: true; the input reads as it did. -/
def fnExactMergeDepthsUptoRow : OpenClaim := { program := "ytjpmgijblgcafaa", sum := "ce1fbb873652dc8b215d9ae8f1b2b847d79420e6934df12a93344bc960321c39", func := "loop.example/g03207/laws.FnExactMergeDepths", spec := "fnExactMergeDepths", unfollowed := true, recurses := true, apart := false, narrowed := true }
def FnExactMergeDepthsUptoSaid : Prop := fnExactMergeDepthsUptoRow.holds Try.pinned (OpenSpec.upto fnExactMergeDepthsSpec)

/-- 'laws.FnExactReplacementRuns', WHERE WHAT IT READS IS OF BULK AT MOST 1048576: true; the input reads as it did. -/
def fnExactReplacementRunsUptoRow : OpenClaim := { program := "ytjpmgijblgcafaa", sum := "ce1fbb873652dc8b215d9ae8f1b2b847d79420e6934df12a93344bc960321c39", func := "loop.example/g03207/laws.FnExactReplacementRuns", spec := "fnExactReplacementRuns", unfollowed := true, recurses := true, apart := false, narrowed := true }
def FnExactReplacementRunsUptoSaid : Prop := fnExactReplacementRunsUptoRow.holds Try.pinned (OpenSpec.upto fnExactReplacementRunsSpec)

/-- 'laws.FnExactMergeRuns', WHERE WHAT IT READS IS OF BULK AT MOST 1048576: true; the input reads as it did. -/
def fnExactMergeRunsUptoRow : OpenClaim := { program := "ytjpmgijblgcafaa", sum := "ce1fbb873652dc8b215d9ae8f1b2b847d79420e6934df12a93344bc960321c39", func := "loop.example/g03207/laws.FnExactMergeRuns", spec := "fnExactMergeRuns", recurses := true, apart := false, narrowed := true }
def FnExactMergeRunsUptoSaid : Prop := fnExactMergeRunsUptoRow.holds Try.pinned (OpenSpec.upto fnExactMergeRunsSpec)

/-- 'laws.FnRuns', WHERE WHAT IT READS IS OF BULK AT MOST 1048576: true; the input reads as it did. -/
def fnRunsUptoRow : OpenClaim := { program := "ytjpmgijblgcafaa", sum := "ce1fbb873652dc8b215d9ae8f1b2b847d79420e6934df12a93344bc960321c39", func := "loop.example/g03207/laws.FnRuns", spec := "fnRuns", unfollowed := true, recurses := true, apart := false, narrowed := true }
def FnRunsUptoSaid : Prop := fnRunsUptoRow.holds Try.pinned (OpenSpec.upto fnRunsSpec)

/-- 'laws.FnExactTimesOk', WHERE WHAT IT READS IS OF BULK AT MOST 1048576: true; the input reads as it did. -/
def fnExactTimesOkUptoRow : OpenClaim := { program := "ytjpmgijblgcafaa", sum := "ce1fbb873652dc8b215d9ae8f1b2b847d79420e6934df12a93344bc960321c39", func := "loop.example/g03207/laws.FnExactTimesOk", spec := "fnExactTimesOk", unfollowed := true, recurses := true, apart := false, narrowed := true }
def FnExactTimesOkUptoSaid : Prop := fnExactTimesOkUptoRow.holds Try.pinned (OpenSpec.upto fnExactTimesOkSpec)

/-- 'laws.FnExactSlackNeeded', WHERE WHAT IT READS IS OF BULK AT MOST 1048576: true; the input reads as it did. -/
def fnExactSlackNeededUptoRow : OpenClaim := { program := "ytjpmgijblgcafaa", sum := "ce1fbb873652dc8b215d9ae8f1b2b847d79420e6934df12a93344bc960321c39", func := "loop.example/g03207/laws.FnExactSlackNeeded", spec := "fnExactSlackNeeded", unfollowed := true, recurses := true, apart := false, narrowed := true }
def FnExactSlackNeededUptoSaid : Prop := fnExactSlackNeededUptoRow.holds Try.pinned (OpenSpec.upto fnExactSlackNeededSpec)

/-- 'laws.FnExactBucketsOf', WHERE WHAT IT READS IS OF BULK AT MOST 1048576: true; the input reads as it did. -/
def fnExactBucketsOfUptoRow : OpenClaim := { program := "ytjpmgijblgcafaa", sum := "ce1fbb873652dc8b215d9ae8f1b2b847d79420e6934df12a93344bc960321c39", func := "loop.example/g03207/laws.FnExactBucketsOf", spec := "fnExactBucketsOf", unfollowed := true, recurses := true, apart := false, narrowed := true }
def FnExactBucketsOfUptoSaid : Prop := fnExactBucketsOfUptoRow.holds Try.pinned (OpenSpec.upto fnExactBucketsOfSpec)

/-- 'laws.FnExactMarksOf', WHERE WHAT IT READS IS OF BULK AT MOST 1048576: true; the input reads as it did. -/
def fnExactMarksOfUptoRow : OpenClaim := { program := "ytjpmgijblgcafaa", sum := "ce1fbb873652dc8b215d9ae8f1b2b847d79420e6934df12a93344bc960321c39", func := "loop.example/g03207/laws.FnExactMarksOf", spec := "fnExactMarksOf", unfollowed := true, recurses := true, apart := false, narrowed := true }
def FnExactMarksOfUptoSaid : Prop := fnExactMarksOfUptoRow.holds Try.pinned (OpenSpec.upto fnExactMarksOfSpec)

end Rows
end Go.Proofs.Ytjpmgijblgcafaa

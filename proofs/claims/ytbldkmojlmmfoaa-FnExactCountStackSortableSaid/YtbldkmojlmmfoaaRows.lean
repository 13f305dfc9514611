/-
  No cell of these rows narrows 'for every input' (looked for: loops, veiled, ifaces, maps, wideKeys, modest, calm, conditions, laid).
  DERIVED. THE GIVEN ROWS OF THIS SEAT. 12 by the template 'for every input the law returns true; each argument reads behind the call as it read before'; 0 by the template 'total and deterministic' (their statements: YtbldkmojlmmfoaaTotals.lean).
  GIVEN WITH THE SEED: the statements are not yours to turn. If you find one false, say at which input.
  Laid BY PROGRAM, IN A SANDBOX (cutbox-rows.mjs): the forced cells as the released guide's own fill.sh prints them over the translation 90b0c2d254d117c1… (all of the seat's roots in one cut). By AI agents, Wed Nov 11 2026. No macro, syntax, notation, axiom, sorry.
-/
import Derived.Test.YtbldkmojlmmfoaaChecked
import GoSem.Claim
import GoSem.ClaimJoined
import GoSem.ClaimMapViews
import Derived.JoinedTies
import Derived.KernelRfl
namespace Go.Proofs.Ytbldkmojlmmfoaa
/- THE CELL 'sum', in the pinned program and in every row, IS THE sha256 OF THE DUMP (.gsa) THAT YtbldkmojlmmfoaaProg.lean LOADS. Nothing in Lean hashes anything: it is a label: what it is worth is what the hold of that sum in a sandbox is worth. -/
noncomputable def Try.pinned : Pinned := { name := "ytbldkmojlmmfoaa", sum := "90b0c2d254d117c18ad6bd7598dfd7cb67086ff46914a1a0e377f50b22a9b677", checked := Try.checked }
namespace Rows
def none {H : Type} : Left H := { results := [], args := [] }

/-- 'laws.FnExactCountStackSortable': WHATEVER THE INPUT: true; the input reads as it did. -/
def fnExactCountStackSortableSpec : ChangeSpec := { name := "fnExactCountStackSortable", fn := fun _ => fun
  | [d] => { results := [.lit (.bool true)], args := [d] }
  | _ => none }
def fnExactCountStackSortableRow : OpenClaim := { program := "ytbldkmojlmmfoaa", sum := "90b0c2d254d117c18ad6bd7598dfd7cb67086ff46914a1a0e377f50b22a9b677", func := "loop.example/g03207/laws.FnExactCountStackSortable", spec := "fnExactCountStackSortable", apart := false }
def FnExactCountStackSortableSaid : Prop := fnExactCountStackSortableRow.holds Try.pinned (OpenSpec.ofChange fnExactCountStackSortableSpec)

/-- ITS FALSE NEIGHBOUR: 'it returns false'. Refute it at one input. -/
def fnExactCountStackSortableWrong : ChangeSpec := { name := "fnExactCountStackSortable", fn := fun _ => fun
  | [d] => { results := [.lit (.bool false)], args := [d] }
  | _ => none }
def FnExactCountStackSortableWrongFalsely : Prop := fnExactCountStackSortableRow.holds Try.pinned (OpenSpec.ofChange fnExactCountStackSortableWrong)

/-- 'laws.FnExactCanStackSort': WHATEVER THE INPUT: true; the input reads as it did. -/
def fnExactCanStackSortSpec : ChangeSpec := { name := "fnExactCanStackSort", fn := fun _ => fun
  | [d] => { results := [.lit (.bool true)], args := [d] }
  | _ => none }
def fnExactCanStackSortRow : OpenClaim := { program := "ytbldkmojlmmfoaa", sum := "90b0c2d254d117c18ad6bd7598dfd7cb67086ff46914a1a0e377f50b22a9b677", func := "loop.example/g03207/laws.FnExactCanStackSort", spec := "fnExactCanStackSort", apart := false }
def FnExactCanStackSortSaid : Prop := fnExactCanStackSortRow.holds Try.pinned (OpenSpec.ofChange fnExactCanStackSortSpec)

/-- ITS FALSE NEIGHBOUR: 'it returns false'. Refute it at one input. -/
def fnExactCanStackSortWrong : ChangeSpec := { name := "fnExactCanStackSort", fn := fun _ => fun
  | [d] => { results := [.lit (.bool false)], args := [d] }
  | _ => none }
def FnExactCanStackSortWrongFalsely : Prop := fnExactCanStackSortRow.holds Try.pinned (OpenSpec.ofChange fnExactCanStackSortWrong)

/-- 'laws.FnExactQueuesNeeded': WHATEVER THE INPUT: true; the input reads as it did. -/
def fnExactQueuesNeededSpec : ChangeSpec := { name := "fnExactQueuesNeeded", fn := fun _ => fun
  | [d] => { results := [.lit (.bool true)], args := [d] }
  | _ => none }
def fnExactQueuesNeededRow : OpenClaim := { program := "ytbldkmojlmmfoaa", sum := "90b0c2d254d117c18ad6bd7598dfd7cb67086ff46914a1a0e377f50b22a9b677", func := "loop.example/g03207/laws.FnExactQueuesNeeded", spec := "fnExactQueuesNeeded", unfollowed := true, recurses := true, apart := false }
def FnExactQueuesNeededSaid : Prop := fnExactQueuesNeededRow.holds Try.pinned (OpenSpec.ofChange fnExactQueuesNeededSpec)

/-- ITS FALSE NEIGHBOUR: 'it returns false'. Refute it at one input. -/
def fnExactQueuesNeededWrong : ChangeSpec := { name := "fnExactQueuesNeeded", fn := fun _ => fun
  | [d] => { results := [.lit (.bool false)], args := [d] }
  | _ => none }
def FnExactQueuesNeededWrongFalsely : Prop := fnExactQueuesNeededRow.holds Try.pinned (OpenSpec.ofChange fnExactQueuesNeededWrong)

/-- 'laws.FnExactRunWord': WHATEVER THE INPUT: true; the input reads as it did. -/
def fnExactRunWordSpec : ChangeSpec := { name := "fnExactRunWord", fn := fun _ => fun
  | [d1, d2] => { results := [.lit (.bool true)], args := [d1, d2] }
  | _ => none }
def fnExactRunWordRow : OpenClaim := { program := "ytbldkmojlmmfoaa", sum := "90b0c2d254d117c18ad6bd7598dfd7cb67086ff46914a1a0e377f50b22a9b677", func := "loop.example/g03207/laws.FnExactRunWord", spec := "fnExactRunWord", apart := false }
def FnExactRunWordSaid : Prop := fnExactRunWordRow.holds Try.pinned (OpenSpec.ofChange fnExactRunWordSpec)

/-- ITS FALSE NEIGHBOUR: 'it returns false'. Refute it at one input. -/
def fnExactRunWordWrong : ChangeSpec := { name := "fnExactRunWord", fn := fun _ => fun
  | [d1, d2] => { results := [.lit (.bool false)], args := [d1, d2] }
  | _ => none }
def FnExactRunWordWrongFalsely : Prop := fnExactRunWordRow.holds Try.pinned (OpenSpec.ofChange fnExactRunWordWrong)

/-- 'laws.FnExactStackSort': WHATEVER THE INPUT: true; the input reads as it did. -/
def fnExactStackSortSpec : ChangeSpec := { name := "fnExactStackSort", fn := fun _ => fun
  | [d] => { results := [.lit (.bool true)], args := [d] }
  | _ => none }
def fnExactStackSortRow : OpenClaim := { program := "ytbldkmojlmmfoaa", sum := "90b0c2d254d117c18ad6bd7598dfd7cb67086ff46914a1a0e377f50b22a9b677", func := "loop.example/g03207/laws.FnExactStackSort", spec := "fnExactStackSort", unfollowed := true, recurses := true, apart := false }
def FnExactStackSortSaid : Prop := fnExactStackSortRow.holds Try.pinned (OpenSpec.ofChange fnExactStackSortSpec)

/-- ITS FALSE NEIGHBOUR: 'it returns false'. Refute it at one input. -/
def fnExactStackSortWrong : ChangeSpec := { name := "fnExactStackSort", fn := fun _ => fun
  | [d] => { results := [.lit (.bool false)], args := [d] }
  | _ => none }
def FnExactStackSortWrongFalsely : Prop := fnExactStackSortRow.holds Try.pinned (OpenSpec.ofChange fnExactStackSortWrong)

/-- 'laws.FnExactPopStackSort': WHATEVER THE INPUT: true; the input reads as it did. -/
def fnExactPopStackSortSpec : ChangeSpec := { name := "fnExactPopStackSort", fn := fun _ => fun
  | [d] => { results := [.lit (.bool true)], args := [d] }
  | _ => none }
def fnExactPopStackSortRow : OpenClaim := { program := "ytbldkmojlmmfoaa", sum := "90b0c2d254d117c18ad6bd7598dfd7cb67086ff46914a1a0e377f50b22a9b677", func := "loop.example/g03207/laws.FnExactPopStackSort", spec := "fnExactPopStackSort", apart := false }
def FnExactPopStackSortSaid : Prop := fnExactPopStackSortRow.holds Try.pinned (OpenSpec.ofChange fnExactPopStackSortSpec)

/-- ITS FALSE NEIGHBOUR: 'it returns false'. Refute it at one input. -/
def fnExactPopStackSortWrong : ChangeSpec := { name := "fnExactPopStackSort", fn := fun _ => fun
  | [d] => { results := [.lit (.bool false)], args := [d] }
  | _ => none }
def FnExactPopStackSortWrongFalsely : Prop := fnExactPopStackSortRow.holds Try.pinned (OpenSpec.ofChange fnExactPopStackSortWrong)

/-- 'laws.FnExactStackWord': WHATEVER THE INPUT: true; the input reads as it did. -/
def fnExactStackWordSpec : ChangeSpec := { name := "fnExactStackWord", fn := fun _ => fun
  | [d] => { results := [.lit (.bool true)], args := [d] }
  | _ => none }
def fnExactStackWordRow : OpenClaim := { program := "ytbldkmojlmmfoaa", sum := "90b0c2d254d117c18ad6bd7598dfd7cb67086ff46914a1a0e377f50b22a9b677", func := "loop.example/g03207/laws.FnExactStackWord", spec := "fnExactStackWord", unfollowed := true, recurses := true, apart := false }
def FnExactStackWordSaid : Prop := fnExactStackWordRow.holds Try.pinned (OpenSpec.ofChange fnExactStackWordSpec)

/-- ITS FALSE NEIGHBOUR: 'it returns false'. Refute it at one input. -/
def fnExactStackWordWrong : ChangeSpec := { name := "fnExactStackWord", fn := fun _ => fun
  | [d] => { results := [.lit (.bool false)], args := [d] }
  | _ => none }
def FnExactStackWordWrongFalsely : Prop := fnExactStackWordRow.holds Try.pinned (OpenSpec.ofChange fnExactStackWordWrong)

/-- 'laws.FnExactStackRounds': WHATEVER THE INPUT: true; the input reads as it did. -/
def fnExactStackRoundsSpec : ChangeSpec := { name := "fnExactStackRounds", fn := fun _ => fun
  | [d] => { results := [.lit (.bool true)], args := [d] }
  | _ => none }
def fnExactStackRoundsRow : OpenClaim := { program := "ytbldkmojlmmfoaa", sum := "90b0c2d254d117c18ad6bd7598dfd7cb67086ff46914a1a0e377f50b22a9b677", func := "loop.example/g03207/laws.FnExactStackRounds", spec := "fnExactStackRounds", unfollowed := true, recurses := true, apart := false }
def FnExactStackRoundsSaid : Prop := fnExactStackRoundsRow.holds Try.pinned (OpenSpec.ofChange fnExactStackRoundsSpec)

/-- ITS FALSE NEIGHBOUR: 'it returns false'. Refute it at one input. -/
def fnExactStackRoundsWrong : ChangeSpec := { name := "fnExactStackRounds", fn := fun _ => fun
  | [d] => { results := [.lit (.bool false)], args := [d] }
  | _ => none }
def FnExactStackRoundsWrongFalsely : Prop := fnExactStackRoundsRow.holds Try.pinned (OpenSpec.ofChange fnExactStackRoundsWrong)

/-- 'laws.FnStacks': WHATEVER THE INPUT: true; the input reads as it did. -/
def fnStacksSpec : ChangeSpec := { name := "fnStacks", fn := fun _ => fun
  | [d] => { results := [.lit (.bool true)], args := [d] }
  | _ => none }
def fnStacksRow : OpenClaim := { program := "ytbldkmojlmmfoaa", sum := "90b0c2d254d117c18ad6bd7598dfd7cb67086ff46914a1a0e377f50b22a9b677", func := "loop.example/g03207/laws.FnStacks", spec := "fnStacks", unfollowed := true, recurses := true, apart := false }
def FnStacksSaid : Prop := fnStacksRow.holds Try.pinned (OpenSpec.ofChange fnStacksSpec)

/-- ITS FALSE NEIGHBOUR: 'it returns false'. Refute it at one input. -/
def fnStacksWrong : ChangeSpec := { name := "fnStacks", fn := fun _ => fun
  | [d] => { results := [.lit (.bool false)], args := [d] }
  | _ => none }
def FnStacksWrongFalsely : Prop := fnStacksRow.holds Try.pinned (OpenSpec.ofChange fnStacksWrong)

/-- 'laws.FnFabric': WHATEVER THE INPUT: true; the input reads as it did. -/
def fnFabricSpec : ChangeSpec := { name := "fnFabric", fn := fun _ => fun
  | [d] => { results := [.lit (.bool true)], args := [d] }
  | _ => none }
def fnFabricRow : OpenClaim := { program := "ytbldkmojlmmfoaa", sum := "90b0c2d254d117c18ad6bd7598dfd7cb67086ff46914a1a0e377f50b22a9b677", func := "loop.example/g03207/laws.FnFabric", spec := "fnFabric", unfollowed := true, recurses := true, apart := false }
def FnFabricSaid : Prop := fnFabricRow.holds Try.pinned (OpenSpec.ofChange fnFabricSpec)

/-- ITS FALSE NEIGHBOUR: 'it returns false'. Refute it at one input. -/
def fnFabricWrong : ChangeSpec := { name := "fnFabric", fn := fun _ => fun
  | [d] => { results := [.lit (.bool false)], args := [d] }
  | _ => none }
def FnFabricWrongFalsely : Prop := fnFabricRow.holds Try.pinned (OpenSpec.ofChange fnFabricWrong)

/-- 'laws.FnExactShellSort': WHATEVER THE INPUT: true; the input reads as it did. -/
def fnExactShellSortSpec : ChangeSpec := { name := "fnExactShellSort", fn := fun _ => fun
  | [d1, d2] => { results := [.lit (.bool true)], args := [d1, d2] }
  | _ => none }
def fnExactShellSortRow : OpenClaim := { program := "ytbldkmojlmmfoaa", sum := "90b0c2d254d117c18ad6bd7598dfd7cb67086ff46914a1a0e377f50b22a9b677", func := "loop.example/g03207/laws.FnExactShellSort", spec := "fnExactShellSort", unfollowed := true, recurses := true, apart := false }
def FnExactShellSortSaid : Prop := fnExactShellSortRow.holds Try.pinned (OpenSpec.ofChange fnExactShellSortSpec)

/-- ITS FALSE NEIGHBOUR: 'it returns false'. Refute it at one input. -/
def fnExactShellSortWrong : ChangeSpec := { name := "fnExactShellSort", fn := fun _ => fun
  | [d1, d2] => { results := [.lit (.bool false)], args := [d1, d2] }
  | _ => none }
def FnExactShellSortWrongFalsely : Prop := fnExactShellSortRow.holds Try.pinned (OpenSpec.ofChange fnExactShellSortWrong)

/-- 'laws.FnGaps': WHATEVER THE INPUT: true; the input reads as it did. -/
def fnGapsSpec : ChangeSpec := { name := "fnGaps", fn := fun _ => fun
  | [d] => { results := [.lit (.bool true)], args := [d] }
  | _ => none }
def fnGapsRow : OpenClaim := { program := "ytbldkmojlmmfoaa", sum := "90b0c2d254d117c18ad6bd7598dfd7cb67086ff46914a1a0e377f50b22a9b677", func := "loop.example/g03207/laws.FnGaps", spec := "fnGaps", unfollowed := true, recurses := true, apart := false }
def FnGapsSaid : Prop := fnGapsRow.holds Try.pinned (OpenSpec.ofChange fnGapsSpec)

/-- ITS FALSE NEIGHBOUR: 'it returns false'. Refute it at one input. -/
def fnGapsWrong : ChangeSpec := { name := "fnGaps", fn := fun _ => fun
  | [d] => { results := [.lit (.bool false)], args := [d] }
  | _ => none }
def FnGapsWrongFalsely : Prop := fnGapsRow.holds Try.pinned (OpenSpec.ofChange fnGapsWrong)

/- THE SECOND FORM. 'bulk': how many values and letters a reading holds, each counted each time it is reached (what is shared counts as often as it is met; a slice's spare places count too). A statement '..UptoSaid' is the law's where the arguments, and the package variables that the reading takes, are together of bulk at most 1048576: NARROWER than '..Said'. Prove '..Said' where nothing that the law and all that it calls make is longer than what came in: it says more and counts as full. Else prove '..UptoSaid'. A law counts once. -/
mutual
def uptoBulk {H : Type} : DataW H → Nat
  | .lit (.string bytes) => bytes.length + 1
  | .lit _ => 1
  | .nil => 1
  | .ptr d => uptoBulk d + 1
  | .slice elems spare => uptoBulkAll elems + uptoBulkAll spare + 1
  | .agg parts => uptoBulkAll parts + 1
  | .iface _ d => uptoBulk d + 1
  | .map entries => uptoBulkEntries entries + 1
  | .held _ => 1
def uptoBulkAll {H : Type} : List (DataW H) → Nat
  | [] => 0
  | d :: r => uptoBulk d + uptoBulkAll r
def uptoBulkEntries {H : Type} : List (Lit × DataW H) → Nat
  | [] => 0
  | x :: r => uptoBulkEntry x + uptoBulkEntries r
def uptoBulkEntry {H : Type} : Lit × DataW H → Nat
  | (.string bytes, d) => bytes.length + uptoBulk d + 1
  | (_, d) => uptoBulk d + 1
 end
def uptoSmall : (H : Type) → List (DataW H) → Bool := fun _ ds => decide (uptoBulkAll ds ≤ 1048576)
def OpenSpec.upto (s : _root_.Go.ChangeSpec) : _root_.Go.OpenSpec := { _root_.Go.OpenSpec.ofChange s with cond := some uptoSmall }

/-- 'laws.FnExactCountStackSortable', WHERE WHAT IT READS IS OF BULK AT MOST 1048576: true; the input reads as it did. -/
def fnExactCountStackSortableUptoRow : OpenClaim := { program := "ytbldkmojlmmfoaa", sum := "90b0c2d254d117c18ad6bd7598dfd7cb67086ff46914a1a0e377f50b22a9b677", func := "loop.example/g03207/laws.FnExactCountStackSortable", spec := "fnExactCountStackSortable", apart := false, narrowed := true }
def FnExactCountStackSortableUptoSaid : Prop := fnExactCountStackSortableUptoRow.holds Try.pinned (OpenSpec.upto fnExactCountStackSortableSpec)

/-- 'laws.FnExactCanStackSort', WHERE WHAT IT READS IS OF BULK AT MOST 1048576: true; the input reads as it did. -/
def fnExactCanStackSortUptoRow : OpenClaim := { program := "ytbldkmojlmmfoaa", sum := "90b0c2d254d117c18ad6bd7598dfd7cb67086ff46914a1a0e377f50b22a9b677", func := "loop.example/g03207/laws.FnExactCanStackSort", spec := "fnExactCanStackSort", apart := false, narrowed := true }
def FnExactCanStackSortUptoSaid : Prop := fnExactCanStackSortUptoRow.holds Try.pinned (OpenSpec.upto fnExactCanStackSortSpec)

/-- 'laws.FnExactQueuesNeeded', WHERE WHAT IT READS IS OF BULK AT MOST 1048576: true; the input reads as it did. -/
def fnExactQueuesNeededUptoRow : OpenClaim := { program := "ytbldkmojlmmfoaa", sum := "90b0c2d254d117c18ad6bd7598dfd7cb67086ff46914a1a0e377f50b22a9b677", func := "loop.example/g03207/laws.FnExactQueuesNeeded", spec := "fnExactQueuesNeeded", unfollowed := true, recurses := true, apart := false, narrowed := true }
def FnExactQueuesNeededUptoSaid : Prop := fnExactQueuesNeededUptoRow.holds Try.pinned (OpenSpec.upto fnExactQueuesNeededSpec)

/-- 'laws.FnExactRunWord', WHERE WHAT IT READS IS OF BULK AT MOST 1048576: true; the input reads as it did. -/
def fnExactRunWordUptoRow : OpenClaim := { program := "ytbldkmojlmmfoaa", sum := "90b0c2d254d117c18ad6bd7598dfd7cb67086ff46914a1a0e377f50b22a9b677", func := "loop.example/g03207/laws.FnExactRunWord", spec := "fnExactRunWord", apart := false, narrowed := true }
def FnExactRunWordUptoSaid : Prop := fnExactRunWordUptoRow.holds Try.pinned (OpenSpec.upto fnExactRunWordSpec)

/-- 'laws.FnExactStackSort', WHERE WHAT IT READS IS OF BULK AT MOST 1048576: true; the input reads as it did. -/
def fnExactStackSortUptoRow : OpenClaim := { program := "ytbldkmojlmmfoaa", sum := "90b0c2d254d117c18ad6bd7598dfd7cb67086ff46914a1a0e377f50b22a9b677", func := "loop.example/g03207/laws.FnExactStackSort", spec := "fnExactStackSort", unfollowed := true, recurses := true, apart := false, narrowed := true }
def FnExactStackSortUptoSaid : Prop := fnExactStackSortUptoRow.holds Try.pinned (OpenSpec.upto fnExactStackSortSpec)

/-- 'laws.FnExactPopStackSort', WHERE WHAT IT READS IS OF BULK AT MOST 1048576: true; the input reads as it did. -/
def fnExactPopStackSortUptoRow : OpenClaim := { program := "ytbldkmojlmmfoaa", sum := "90b0c2d254d117c18ad6bd7598dfd7cb67086ff46914a1a0e377f50b22a9b677", func := "loop.example/g03207/laws.FnExactPopStackSort", spec := "fnExactPopStackSort", apart := false, narrowed := true }
def FnExactPopStackSortUptoSaid : Prop := fnExactPopStackSortUptoRow.holds Try.pinned (OpenSpec.upto fnExactPopStackSortSpec)

/-- 'laws.FnExactStackWord', WHERE WHAT IT READS IS OF BULK AT MOST 1048576: true; the input reads as it did. -/
def fnExactStackWordUptoRow : OpenClaim := { program := "ytbldkmojlmmfoaa", sum := "90b0c2d254d117c18ad6bd7598dfd7cb67086ff46914a1a0e377f50b22a9b677", func := "loop.example/g03207/laws.FnExactStackWord", spec := "fnExactStackWord", unfollowed := true, recurses := true, apart := false, narrowed := true }
def FnExactStackWordUptoSaid : Prop := fnExactStackWordUptoRow.holds Try.pinned (OpenSpec.upto fnExactStackWordSpec)

/-- 'laws.FnExactStackRounds', WHERE WHAT IT READS IS OF BULK AT MOST 1048576: true; the input reads as it did. -/
def fnExactStackRoundsUptoRow : OpenClaim := { program := "ytbldkmojlmmfoaa", sum := "90b0c2d254d117c18ad6bd7598dfd7cb67086ff46914a1a0e377f50b22a9b677", func := "loop.example/g03207/laws.FnExactStackRounds", spec := "fnExactStackRounds", unfollowed := true, recurses := true, apart := false, narrowed := true }
def FnExactStackRoundsUptoSaid : Prop := fnExactStackRoundsUptoRow.holds Try.pinned (OpenSpec.upto fnExactStackRoundsSpec)

/-- 'laws.FnStacks', WHERE WHAT IT READS IS OF BULK AT MOST 1048576: true; the input reads as it did. -/
def fnStacksUptoRow : OpenClaim := { program := "ytbldkmojlmmfoaa", sum := "90b0c2d254d117c18ad6bd7598dfd7cb67086ff46914a1a0e377f50b22a9b677", func := "loop.example/g03207/laws.FnStacks", spec := "fnStacks", unfollowed := true, recurses := true, apart := false, narrowed := true }
def FnStacksUptoSaid : Prop := fnStacksUptoRow.holds Try.pinned (OpenSpec.upto fnStacksSpec)

/-- 'laws.FnFabric', WHERE WHAT IT READS IS OF BULK AT MOST 1048576: true; the input reads as it did. -/
def fnFabricUptoRow : OpenClaim := { program := "ytbldkmojlmmfoaa", sum := "90b0c2d254d117c18ad6bd7598dfd7cb67086ff46914a1a0e377f50b22a9b677", func := "loop.example/g03207/laws.FnFabric", spec := "fnFabric", unfollowed := true, recurses := true, apart := false, narrowed := true }
def FnFabricUptoSaid : Prop := fnFabricUptoRow.holds Try.pinned (OpenSpec.upto fnFabricSpec)

/-- 'laws.FnExactShellSort', WHERE WHAT IT READS IS OF BULK AT MOST 1048576: true; the input reads as it did. -/
def fnExactShellSortUptoRow : OpenClaim := { program := "ytbldkmojlmmfoaa", sum := "90b0c2d254d117c18ad6bd7598dfd7cb67086ff46914a1a0e377f50b22a9b677", func := "loop.example/g03207/laws.FnExactShellSort", spec := "fnExactShellSort", unfollowed := true, recurses := true, apart := false, narrowed := true }
def FnExactShellSortUptoSaid : Prop := fnExactShellSortUptoRow.holds Try.pinned (OpenSpec.upto fnExactShellSortSpec)

/-- 'laws.FnGaps', WHERE WHAT IT READS IS OF BULK AT MOST 1048576: true; the input reads as it did. -/
def fnGapsUptoRow : OpenClaim := { program := "ytbldkmojlmmfoaa", sum := "90b0c2d254d117c18ad6bd7598dfd7cb67086ff46914a1a0e377f50b22a9b677", func := "loop.example/g03207/laws.FnGaps", spec := "fnGaps", unfollowed := true, recurses := true, apart := false, narrowed := true }
def FnGapsUptoSaid : Prop := fnGapsUptoRow.holds Try.pinned (OpenSpec.upto fnGapsSpec)

end Rows
end Go.Proofs.Ytbldkmojlmmfoaa

/-
  No cell of these rows narrows 'for every input' (looked for: loops, veiled, ifaces, maps, wideKeys, modest, calm, conditions, laid).
  DERIVED. THE GIVEN ROWS OF THIS SEAT. 12 by the template 'for every input the law returns true; each argument reads behind the call as it read before'; 0 by the template 'total and deterministic' (their statements: YtnbnmhbilnaihaaTotals.lean).
  GIVEN WITH THE SEED: the statements are not yours to turn. If you find one false, say at which input.
  Laid BY PROGRAM, IN A SANDBOX (cutbox-rows.mjs): the forced cells as the released guide's own fill.sh prints them over the translation b6e48b6f5a1f79b0… (all of the seat's roots in one cut). By AI agents, Wed Nov 11 2026. No macro, syntax, notation, axiom, sorry.
-/
import Derived.Test.YtnbnmhbilnaihaaChecked
import GoSem.Claim
import GoSem.ClaimJoined
import GoSem.ClaimMapViews
import Derived.JoinedTies
import Derived.KernelRfl
namespace Go.Proofs.Ytnbnmhbilnaihaa
/- THE CELL 'sum', in the pinned program and in every row, IS THE sha256 OF THE DUMP (.gsa) THAT YtnbnmhbilnaihaaProg.lean LOADS. Nothing in Lean hashes anything: it is a label: what it is worth is what the hold of that sum in a sandbox is worth. -/
noncomputable def Try.pinned : Pinned := { name := "ytnbnmhbilnaihaa", sum := "b6e48b6f5a1f79b01d458bcdc53e75ee27aa556469a7d7692f7ca710d530fb4b", checked := Try.checked }
namespace Rows
def none {H : Type} : Left H := { results := [], args := [] }

/-- 'laws.FnExactInversionsOf': WHATEVER THE INPUT: true; the input reads as it did. -/
def fnExactInversionsOfSpec : ChangeSpec := { name := "fnExactInversionsOf", fn := fun _ => fun
  | [d] => { results := [.lit (.bool true)], args := [d] }
  | _ => none }
def fnExactInversionsOfRow : OpenClaim := { program := "ytnbnmhbilnaihaa", sum := "b6e48b6f5a1f79b01d458bcdc53e75ee27aa556469a7d7692f7ca710d530fb4b", func := "loop.example/g03207/laws.FnExactInversionsOf", spec := "fnExactInversionsOf", apart := false }
def FnExactInversionsOfSaid : Prop := fnExactInversionsOfRow.holds Try.pinned (OpenSpec.ofChange fnExactInversionsOfSpec)

/-- ITS FALSE NEIGHBOUR: 'it returns false'. Refute it at one input. -/
def fnExactInversionsOfWrong : ChangeSpec := { name := "fnExactInversionsOf", fn := fun _ => fun
  | [d] => { results := [.lit (.bool false)], args := [d] }
  | _ => none }
def FnExactInversionsOfWrongFalsely : Prop := fnExactInversionsOfRow.holds Try.pinned (OpenSpec.ofChange fnExactInversionsOfWrong)

/-- 'laws.FnExactRunsOf': WHATEVER THE INPUT: true; the input reads as it did. -/
def fnExactRunsOfSpec : ChangeSpec := { name := "fnExactRunsOf", fn := fun _ => fun
  | [d] => { results := [.lit (.bool true)], args := [d] }
  | _ => none }
def fnExactRunsOfRow : OpenClaim := { program := "ytnbnmhbilnaihaa", sum := "b6e48b6f5a1f79b01d458bcdc53e75ee27aa556469a7d7692f7ca710d530fb4b", func := "loop.example/g03207/laws.FnExactRunsOf", spec := "fnExactRunsOf", apart := false }
def FnExactRunsOfSaid : Prop := fnExactRunsOfRow.holds Try.pinned (OpenSpec.ofChange fnExactRunsOfSpec)

/-- ITS FALSE NEIGHBOUR: 'it returns false'. Refute it at one input. -/
def fnExactRunsOfWrong : ChangeSpec := { name := "fnExactRunsOf", fn := fun _ => fun
  | [d] => { results := [.lit (.bool false)], args := [d] }
  | _ => none }
def FnExactRunsOfWrongFalsely : Prop := fnExactRunsOfRow.holds Try.pinned (OpenSpec.ofChange fnExactRunsOfWrong)

/-- 'laws.FnExactLongestRising': WHATEVER THE INPUT: true; the input reads as it did. -/
def fnExactLongestRisingSpec : ChangeSpec := { name := "fnExactLongestRising", fn := fun _ => fun
  | [d] => { results := [.lit (.bool true)], args := [d] }
  | _ => none }
def fnExactLongestRisingRow : OpenClaim := { program := "ytnbnmhbilnaihaa", sum := "b6e48b6f5a1f79b01d458bcdc53e75ee27aa556469a7d7692f7ca710d530fb4b", func := "loop.example/g03207/laws.FnExactLongestRising", spec := "fnExactLongestRising", unfollowed := true, recurses := true, apart := false }
def FnExactLongestRisingSaid : Prop := fnExactLongestRisingRow.holds Try.pinned (OpenSpec.ofChange fnExactLongestRisingSpec)

/-- ITS FALSE NEIGHBOUR: 'it returns false'. Refute it at one input. -/
def fnExactLongestRisingWrong : ChangeSpec := { name := "fnExactLongestRising", fn := fun _ => fun
  | [d] => { results := [.lit (.bool false)], args := [d] }
  | _ => none }
def FnExactLongestRisingWrongFalsely : Prop := fnExactLongestRisingRow.holds Try.pinned (OpenSpec.ofChange fnExactLongestRisingWrong)

/-- 'laws.FnExactRemoveLeast': WHATEVER THE INPUT: true; the input reads as it did. -/
def fnExactRemoveLeastSpec : ChangeSpec := { name := "fnExactRemoveLeast", fn := fun _ => fun
  | [d] => { results := [.lit (.bool true)], args := [d] }
  | _ => none }
def fnExactRemoveLeastRow : OpenClaim := { program := "ytnbnmhbilnaihaa", sum := "b6e48b6f5a1f79b01d458bcdc53e75ee27aa556469a7d7692f7ca710d530fb4b", func := "loop.example/g03207/laws.FnExactRemoveLeast", spec := "fnExactRemoveLeast", unfollowed := true, recurses := true, apart := false }
def FnExactRemoveLeastSaid : Prop := fnExactRemoveLeastRow.holds Try.pinned (OpenSpec.ofChange fnExactRemoveLeastSpec)

/-- ITS FALSE NEIGHBOUR: 'it returns false'. Refute it at one input. -/
def fnExactRemoveLeastWrong : ChangeSpec := { name := "fnExactRemoveLeast", fn := fun _ => fun
  | [d] => { results := [.lit (.bool false)], args := [d] }
  | _ => none }
def FnExactRemoveLeastWrongFalsely : Prop := fnExactRemoveLeastRow.holds Try.pinned (OpenSpec.ofChange fnExactRemoveLeastWrong)

/-- 'laws.FnExactLeftCounts': WHATEVER THE INPUT: true; the input reads as it did. -/
def fnExactLeftCountsSpec : ChangeSpec := { name := "fnExactLeftCounts", fn := fun _ => fun
  | [d] => { results := [.lit (.bool true)], args := [d] }
  | _ => none }
def fnExactLeftCountsRow : OpenClaim := { program := "ytnbnmhbilnaihaa", sum := "b6e48b6f5a1f79b01d458bcdc53e75ee27aa556469a7d7692f7ca710d530fb4b", func := "loop.example/g03207/laws.FnExactLeftCounts", spec := "fnExactLeftCounts", apart := false }
def FnExactLeftCountsSaid : Prop := fnExactLeftCountsRow.holds Try.pinned (OpenSpec.ofChange fnExactLeftCountsSpec)

/-- ITS FALSE NEIGHBOUR: 'it returns false'. Refute it at one input. -/
def fnExactLeftCountsWrong : ChangeSpec := { name := "fnExactLeftCounts", fn := fun _ => fun
  | [d] => { results := [.lit (.bool false)], args := [d] }
  | _ => none }
def FnExactLeftCountsWrongFalsely : Prop := fnExactLeftCountsRow.holds Try.pinned (OpenSpec.ofChange fnExactLeftCountsWrong)

/-- 'laws.FnExactFromCounts': WHATEVER THE INPUT: true; the input reads as it did. -/
def fnExactFromCountsSpec : ChangeSpec := { name := "fnExactFromCounts", fn := fun _ => fun
  | [d] => { results := [.lit (.bool true)], args := [d] }
  | _ => none }
def fnExactFromCountsRow : OpenClaim := { program := "ytnbnmhbilnaihaa", sum := "b6e48b6f5a1f79b01d458bcdc53e75ee27aa556469a7d7692f7ca710d530fb4b", func := "loop.example/g03207/laws.FnExactFromCounts", spec := "fnExactFromCounts", apart := false }
def FnExactFromCountsSaid : Prop := fnExactFromCountsRow.holds Try.pinned (OpenSpec.ofChange fnExactFromCountsSpec)

/-- ITS FALSE NEIGHBOUR: 'it returns false'. Refute it at one input. -/
def fnExactFromCountsWrong : ChangeSpec := { name := "fnExactFromCounts", fn := fun _ => fun
  | [d] => { results := [.lit (.bool false)], args := [d] }
  | _ => none }
def FnExactFromCountsWrongFalsely : Prop := fnExactFromCountsRow.holds Try.pinned (OpenSpec.ofChange fnExactFromCountsWrong)

/-- 'laws.FnExactFarthestMove': WHATEVER THE INPUT: true; the input reads as it did. -/
def fnExactFarthestMoveSpec : ChangeSpec := { name := "fnExactFarthestMove", fn := fun _ => fun
  | [d] => { results := [.lit (.bool true)], args := [d] }
  | _ => none }
def fnExactFarthestMoveRow : OpenClaim := { program := "ytnbnmhbilnaihaa", sum := "b6e48b6f5a1f79b01d458bcdc53e75ee27aa556469a7d7692f7ca710d530fb4b", func := "loop.example/g03207/laws.FnExactFarthestMove", spec := "fnExactFarthestMove", unfollowed := true, recurses := true, apart := false }
def FnExactFarthestMoveSaid : Prop := fnExactFarthestMoveRow.holds Try.pinned (OpenSpec.ofChange fnExactFarthestMoveSpec)

/-- ITS FALSE NEIGHBOUR: 'it returns false'. Refute it at one input. -/
def fnExactFarthestMoveWrong : ChangeSpec := { name := "fnExactFarthestMove", fn := fun _ => fun
  | [d] => { results := [.lit (.bool false)], args := [d] }
  | _ => none }
def FnExactFarthestMoveWrongFalsely : Prop := fnExactFarthestMoveRow.holds Try.pinned (OpenSpec.ofChange fnExactFarthestMoveWrong)

/-- 'laws.FnExactIsStable': WHATEVER THE INPUT: true; the input reads as it did. -/
def fnExactIsStableSpec : ChangeSpec := { name := "fnExactIsStable", fn := fun _ => fun
  | [d1, d2] => { results := [.lit (.bool true)], args := [d1, d2] }
  | _ => none }
def fnExactIsStableRow : OpenClaim := { program := "ytnbnmhbilnaihaa", sum := "b6e48b6f5a1f79b01d458bcdc53e75ee27aa556469a7d7692f7ca710d530fb4b", func := "loop.example/g03207/laws.FnExactIsStable", spec := "fnExactIsStable", unfollowed := true, recurses := true, apart := false }
def FnExactIsStableSaid : Prop := fnExactIsStableRow.holds Try.pinned (OpenSpec.ofChange fnExactIsStableSpec)

/-- ITS FALSE NEIGHBOUR: 'it returns false'. Refute it at one input. -/
def fnExactIsStableWrong : ChangeSpec := { name := "fnExactIsStable", fn := fun _ => fun
  | [d1, d2] => { results := [.lit (.bool false)], args := [d1, d2] }
  | _ => none }
def FnExactIsStableWrongFalsely : Prop := fnExactIsStableRow.holds Try.pinned (OpenSpec.ofChange fnExactIsStableWrong)

/-- 'laws.FnExactStableOrder': WHATEVER THE INPUT: true; the input reads as it did. -/
def fnExactStableOrderSpec : ChangeSpec := { name := "fnExactStableOrder", fn := fun _ => fun
  | [d] => { results := [.lit (.bool true)], args := [d] }
  | _ => none }
def fnExactStableOrderRow : OpenClaim := { program := "ytnbnmhbilnaihaa", sum := "b6e48b6f5a1f79b01d458bcdc53e75ee27aa556469a7d7692f7ca710d530fb4b", func := "loop.example/g03207/laws.FnExactStableOrder", spec := "fnExactStableOrder", unfollowed := true, recurses := true, apart := false }
def FnExactStableOrderSaid : Prop := fnExactStableOrderRow.holds Try.pinned (OpenSpec.ofChange fnExactStableOrderSpec)

/-- ITS FALSE NEIGHBOUR: 'it returns false'. Refute it at one input. -/
def fnExactStableOrderWrong : ChangeSpec := { name := "fnExactStableOrder", fn := fun _ => fun
  | [d] => { results := [.lit (.bool false)], args := [d] }
  | _ => none }
def FnExactStableOrderWrongFalsely : Prop := fnExactStableOrderRow.holds Try.pinned (OpenSpec.ofChange fnExactStableOrderWrong)

/-- 'laws.FnExactExchangesNeeded': WHATEVER THE INPUT: true; the input reads as it did. -/
def fnExactExchangesNeededSpec : ChangeSpec := { name := "fnExactExchangesNeeded", fn := fun _ => fun
  | [d] => { results := [.lit (.bool true)], args := [d] }
  | _ => none }
def fnExactExchangesNeededRow : OpenClaim := { program := "ytnbnmhbilnaihaa", sum := "b6e48b6f5a1f79b01d458bcdc53e75ee27aa556469a7d7692f7ca710d530fb4b", func := "loop.example/g03207/laws.FnExactExchangesNeeded", spec := "fnExactExchangesNeeded", unfollowed := true, recurses := true, apart := false }
def FnExactExchangesNeededSaid : Prop := fnExactExchangesNeededRow.holds Try.pinned (OpenSpec.ofChange fnExactExchangesNeededSpec)

/-- ITS FALSE NEIGHBOUR: 'it returns false'. Refute it at one input. -/
def fnExactExchangesNeededWrong : ChangeSpec := { name := "fnExactExchangesNeeded", fn := fun _ => fun
  | [d] => { results := [.lit (.bool false)], args := [d] }
  | _ => none }
def FnExactExchangesNeededWrongFalsely : Prop := fnExactExchangesNeededRow.holds Try.pinned (OpenSpec.ofChange fnExactExchangesNeededWrong)

/-- 'laws.FnExactDisorderOf': WHATEVER THE INPUT: true; the input reads as it did. -/
def fnExactDisorderOfSpec : ChangeSpec := { name := "fnExactDisorderOf", fn := fun _ => fun
  | [d] => { results := [.lit (.bool true)], args := [d] }
  | _ => none }
def fnExactDisorderOfRow : OpenClaim := { program := "ytnbnmhbilnaihaa", sum := "b6e48b6f5a1f79b01d458bcdc53e75ee27aa556469a7d7692f7ca710d530fb4b", func := "loop.example/g03207/laws.FnExactDisorderOf", spec := "fnExactDisorderOf", unfollowed := true, recurses := true, apart := false }
def FnExactDisorderOfSaid : Prop := fnExactDisorderOfRow.holds Try.pinned (OpenSpec.ofChange fnExactDisorderOfSpec)

/-- ITS FALSE NEIGHBOUR: 'it returns false'. Refute it at one input. -/
def fnExactDisorderOfWrong : ChangeSpec := { name := "fnExactDisorderOf", fn := fun _ => fun
  | [d] => { results := [.lit (.bool false)], args := [d] }
  | _ => none }
def FnExactDisorderOfWrongFalsely : Prop := fnExactDisorderOfRow.holds Try.pinned (OpenSpec.ofChange fnExactDisorderOfWrong)

/-- 'laws.FnDisorder': WHATEVER THE INPUT: true; the input reads as it did. -/
def fnDisorderSpec : ChangeSpec := { name := "fnDisorder", fn := fun _ => fun
  | [d] => { results := [.lit (.bool true)], args := [d] }
  | _ => none }
def fnDisorderRow : OpenClaim := { program := "ytnbnmhbilnaihaa", sum := "b6e48b6f5a1f79b01d458bcdc53e75ee27aa556469a7d7692f7ca710d530fb4b", func := "loop.example/g03207/laws.FnDisorder", spec := "fnDisorder", unfollowed := true, recurses := true, apart := false }
def FnDisorderSaid : Prop := fnDisorderRow.holds Try.pinned (OpenSpec.ofChange fnDisorderSpec)

/-- ITS FALSE NEIGHBOUR: 'it returns false'. Refute it at one input. -/
def fnDisorderWrong : ChangeSpec := { name := "fnDisorder", fn := fun _ => fun
  | [d] => { results := [.lit (.bool false)], args := [d] }
  | _ => none }
def FnDisorderWrongFalsely : Prop := fnDisorderRow.holds Try.pinned (OpenSpec.ofChange fnDisorderWrong)

/- THE SECOND FORM. 'bulk': how many values and letters a reading holds, each counted each time it is reached (what is shared counts as often as it is met; a slice's spare places count too). A statement '..UptoSaid' is the law's where the arguments, and the package variables that the reading takes, are together of bulk at most 1048576: NARROWER than '..Said'. Prove '..Said' where nothing that the law and all that it calls make is longer than what came in: it says more and counts as full. Else prove '..UptoSaid'. A law counts once. -/
mutual
def uptoBulk {H : Type} : DataW H → Nat
  | .lit (.string bytes) => bytes.length + 1
  | .lit _ => 1
  | .nil => 1
  | .ptr d => uptoBulk d + 1
  | .slice elems spare => uptoBulkAll elems + uptoBulkAll spare + 1
  | .agg parts => uptoBulkAll parts + 1
  | .iface _ d => uptoBulk d + 1
  | .map entries => uptoBulkEntries entries + 1
  | .held _ => 1
def uptoBulkAll {H : Type} : List (DataW H) → Nat
  | [] => 0
  | d :: r => uptoBulk d + uptoBulkAll r
def uptoBulkEntries {H : Type} : List (Lit × DataW H) → Nat
  | [] => 0
  | x :: r => uptoBulkEntry x + uptoBulkEntries r
def uptoBulkEntry {H : Type} : Lit × DataW H → Nat
  | (.string bytes, d) => bytes.length + uptoBulk d + 1
  | (_, d) => uptoBulk d + 1
 end
def uptoSmall : (H : Type) → List (DataW H) → Bool := fun _ ds => decide (uptoBulkAll ds ≤ 1048576)
def OpenSpec.upto (s : _root_.Go.ChangeSpec) : _root_.Go.OpenSpec := { _root_.Go.OpenSpec.ofChange s with cond := some uptoSmall }

/-- 'laws.FnExactInversionsOf', WHERE WHAT IT READS IS OF BULK AT MOST 1048576: true; the input reads as it did. -/
def fnExactInversionsOfUptoRow : OpenClaim := { program := "ytnbnmhbilnaihaa", sum := "b6e48b6f5a1f79b01d458bcdc53e75ee27aa556469a7d7692f7ca710d530fb4b", func := "loop.example/g03207/laws.FnExactInversionsOf", spec := "fnExactInversionsOf", apart := false, narrowed := true }
def FnExactInversionsOfUptoSaid : Prop := fnExactInversionsOfUptoRow.holds Try.pinned (OpenSpec.upto fnExactInversionsOfSpec)

/-- 'laws.FnExactRunsOf', WHERE WHAT IT READS IS OF BULK AT MOST 1048576: true; the input reads as it did. -/
def fnExactRunsOfUptoRow : OpenClaim := { program := "ytnbnmhbilnaihaa", sum := "b6e48b6f5a1f79b01d458bcdc53e75ee27aa556469a7d7692f7ca710d530fb4b", func := "loop.example/g03207/laws.FnExactRunsOf", spec := "fnExactRunsOf", apart := false, narrowed := true }
def FnExactRunsOfUptoSaid : Prop := fnExactRunsOfUptoRow.holds Try.pinned (OpenSpec.upto fnExactRunsOfSpec)

/-- 'laws.FnExactLongestRising', WHERE WHAT IT READS IS OF BULK AT MOST 1048576: true; the input reads as it did. -/
def fnExactLongestRisingUptoRow : OpenClaim := { program := "ytnbnmhbilnaihaa", sum := "b6e48b6f5a1f79b01d458bcdc53e75ee27aa556469a7d7692f7ca710d530fb4b", func := "loop.example/g03207/laws.FnExactLongestRising", spec := "fnExactLongestRising", unfollowed := true, recurses := true, apart := false, narrowed := true }
def FnExactLongestRisingUptoSaid : Prop := fnExactLongestRisingUptoRow.holds Try.pinned (OpenSpec.upto fnExactLongestRisingSpec)

/-- 'laws.FnExactRemoveLeast', WHERE WHAT IT READS IS OF BULK AT MOST 1048576: true; the input reads as it did. -/
def fnExactRemoveLeastUptoRow : OpenClaim := { program := "ytnbnmhbilnaihaa", sum := "b6e48b6f5a1f79b01d458bcdc53e75ee27aa556469a7d7692f7ca710d530fb4b", func := "loop.example/g03207/laws.FnExactRemoveLeast", spec := "fnExactRemoveLeast", unfollowed := true, recurses := true, apart := false, narrowed := true }
def FnExactRemoveLeastUptoSaid : Prop := fnExactRemoveLeastUptoRow.holds Try.pinned (OpenSpec.upto fnExactRemoveLeastSpec)

/-- 'laws.FnExactLeftCounts', WHERE WHAT IT READS IS OF BULK AT MOST 1048576: true; the input reads as it did. -/
def fnExactLeftCountsUptoRow : OpenClaim := { program := "ytnbnmhbilnaihaa", sum := "b6e48b6f5a1f79b01d458bcdc53e75ee27aa556469a7d7692f7ca710d530fb4b", func := "loop.example/g03207/laws.FnExactLeftCounts", spec := "fnExactLeftCounts", apart := false, narrowed := true }
def FnExactLeftCountsUptoSaid : Prop := fnExactLeftCountsUptoRow.holds Try.pinned (OpenSpec.upto fnExactLeftCountsSpec)

/-- 'laws.FnExactFromCounts', WHERE WHAT IT READS IS OF BULK AT MOST 1048576: true; the input reads as it did. -/
def fnExactFromCountsUptoRow : OpenClaim := { program := "ytnbnmhbilnaihaa", sum := "b6e48b6f5a1f79b01d458bcdc53e75ee27aa556469a7d7692f7ca710d530fb4b", func := "loop.example/g03207/laws.FnExactFromCounts", spec := "fnExactFromCounts", apart := false, narrowed := true }
def FnExactFromCountsUptoSaid : Prop := fnExactFromCountsUptoRow.holds Try.pinned (OpenSpec.upto fnExactFromCountsSpec)

/-- 'laws.FnExactFarthestMove', WHERE WHAT IT READS IS OF BULK AT MOST 1048576: true; the input reads as it did. -/
def fnExactFarthestMoveUptoRow : OpenClaim := { program := "ytnbnmhbilnaihaa", sum := "b6e48b6f5a1f79b01d458bcdc53e75ee27aa556469a7d7692f7ca710d530fb4b", func := "loop.example/g03207/laws.FnExactFarthestMove", spec := "fnExactFarthestMove", unfollowed := true, recurses := true, apart := false, narrowed := true }
def FnExactFarthestMoveUptoSaid : Prop := fnExactFarthestMoveUptoRow.holds Try.pinned (OpenSpec.upto fnExactFarthestMoveSpec)

/-- 'laws.FnExactIsStable', WHERE WHAT IT READS IS OF BULK AT MOST 1048576: true; the input reads as it did. -/
def fnExactIsStableUptoRow : OpenClaim := { program := "ytnbnmhbilnaihaa", sum := "b6e48b6f5a1f79b01d458bcdc53e75ee27aa556469a7d7692f7ca710d530fb4b", func := "loop.example/g03207/laws.FnExactIsStable", spec := "fnExactIsStable", unfollowed := true, recurses := true, apart := false, narrowed := true }
def FnExactIsStableUptoSaid : Prop := fnExactIsStableUptoRow.holds Try.pinned (OpenSpec.upto fnExactIsStableSpec)

/-- 'laws.FnExactStableOrder', WHERE WHAT IT READS IS OF BULK AT MOST 1048576: true; the input reads as it did. -/
def fnExactStableOrderUptoRow : OpenClaim := { program := "ytnbnmhbilnaihaa", sum := "b6e48b6f5a1f79b01d458bcdc53e75ee27aa556469a7d7692f7ca710d530fb4b", func := "loop.example/g03207/laws.FnExactStableOrder", spec := "fnExactStableOrder", unfollowed := true, recurses := true, apart := false, narrowed := true }
def FnExactStableOrderUptoSaid : Prop := fnExactStableOrderUptoRow.holds Try.pinned (OpenSpec.upto fnExactStableOrderSpec)

/-- 'laws.FnExactExchangesNeeded', WHERE WHAT IT READS IS OF BULK AT MOST 1048576: true; the input reads as it did. -/
def fnExactExchangesNeededUptoRow : OpenClaim := { program := "ytnbnmhbilnaihaa", sum := "b6e48b6f5a1f79b01d458bcdc53e75ee27aa556469a7d7692f7ca710d530fb4b", func := "loop.example/g03207/laws.FnExactExchangesNeeded", spec := "fnExactExchangesNeeded", unfollowed := true, recurses := true, apart := false, narrowed := true }
def FnExactExchangesNeededUptoSaid : Prop := fnExactExchangesNeededUptoRow.holds Try.pinned (OpenSpec.upto fnExactExchangesNeededSpec)

/-- 'laws.FnExactDisorderOf', WHERE WHAT IT READS IS OF BULK AT MOST 1048576: true; the input reads as it did. -/
def fnExactDisorderOfUptoRow : OpenClaim := { program := "ytnbnmhbilnaihaa", sum := "b6e48b6f5a1f79b01d458bcdc53e75ee27aa556469a7d7692f7ca710d530fb4b", func := "loop.example/g03207/laws.FnExactDisorderOf", spec := "fnExactDisorderOf", unfollowed := true, recurses := true, apart := false, narrowed := true }
def FnExactDisorderOfUptoSaid : Prop := fnExactDisorderOfUptoRow.holds Try.pinned (OpenSpec.upto fnExactDisorderOfSpec)

/-- 'laws.FnDisorder', WHERE WHAT IT READS IS OF BULK AT MOST 1048576: true; the input reads as it did. -/
def fnDisorderUptoRow : OpenClaim := { program := "ytnbnmhbilnaihaa", sum := "b6e48b6f5a1f79b01d458bcdc53e75ee27aa556469a7d7692f7ca710d530fb4b", func := "loop.example/g03207/laws.FnDisorder", spec := "fnDisorder", unfollowed := true, recurses := true, apart := false, narrowed := true }
def FnDisorderUptoSaid : Prop := fnDisorderUptoRow.holds Try.pinned (OpenSpec.upto fnDisorderSpec)

end Rows
end Go.Proofs.Ytnbnmhbilnaihaa

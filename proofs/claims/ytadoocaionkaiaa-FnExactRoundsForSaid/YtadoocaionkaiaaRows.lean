/-
  No cell of these rows narrows 'for every input' (looked for: loops, veiled, ifaces, maps, wideKeys, modest, calm, conditions, laid).
  DERIVED. THE GIVEN ROWS OF THIS SEAT. 6 by the template 'for every input the law returns true; each argument reads behind the call as it read before'; 0 by the template 'total and deterministic' (their statements: YtadoocaionkaiaaTotals.lean).
  GIVEN WITH THE SEED: the statements are not yours to turn. If you find one false, say at which input.
  Laid BY PROGRAM, IN A SANDBOX (cutbox-rows.mjs): the forced cells as the released guide's own fill.sh prints them over the translation dbeafb146b4cce01… (all of the seat's roots in one cut). By AI agents, Wed Nov 11 2026. No macro, syntax, notation, axiom, sorry.
-/
import Derived.Test.YtadoocaionkaiaaChecked
import GoSem.Claim
import GoSem.ClaimJoined
import GoSem.ClaimMapViews
import Derived.JoinedTies
import Derived.KernelRfl
namespace Go.Proofs.Ytadoocaionkaiaa
/- THE CELL 'sum', in the pinned program and in every row, IS THE sha256 OF THE DUMP (.gsa) THAT YtadoocaionkaiaaProg.lean LOADS. Nothing in Lean hashes anything: it is a label: what it is worth is what the hold of that sum in a sandbox is worth. -/
noncomputable def Try.pinned : Pinned := { name := "ytadoocaionkaiaa", sum := "dbeafb146b4cce0166a1b1c1114e0927d095cfffaa335f858b971472879c5531", checked := Try.checked }
namespace Rows
def none {H : Type} : Left H := { results := [], args := [] }

/-- 'laws.FnExactRoundsFor': WHATEVER THE INPUT: true; the input reads as it did. -/
def fnExactRoundsForSpec : ChangeSpec := { name := "fnExactRoundsFor", fn := fun _ => fun
  | [d1, d2] => { results := [.lit (.bool true)], args := [d1, d2] }
  | _ => none }
def fnExactRoundsForRow : OpenClaim := { program := "ytadoocaionkaiaa", sum := "dbeafb146b4cce0166a1b1c1114e0927d095cfffaa335f858b971472879c5531", func := "loop.example/g03207/laws.FnExactRoundsFor", spec := "fnExactRoundsFor", apart := false }
def FnExactRoundsForSaid : Prop := fnExactRoundsForRow.holds Try.pinned (OpenSpec.ofChange fnExactRoundsForSpec)

/-- ITS FALSE NEIGHBOUR: 'it returns false'. Refute it at one input. -/
def fnExactRoundsForWrong : ChangeSpec := { name := "fnExactRoundsFor", fn := fun _ => fun
  | [d1, d2] => { results := [.lit (.bool false)], args := [d1, d2] }
  | _ => none }
def FnExactRoundsForWrongFalsely : Prop := fnExactRoundsForRow.holds Try.pinned (OpenSpec.ofChange fnExactRoundsForWrong)

/-- 'laws.FnExactLengthsOk': WHATEVER THE INPUT: true; the input reads as it did. -/
def fnExactLengthsOkSpec : ChangeSpec := { name := "fnExactLengthsOk", fn := fun _ => fun
  | [d] => { results := [.lit (.bool true)], args := [d] }
  | _ => none }
def fnExactLengthsOkRow : OpenClaim := { program := "ytadoocaionkaiaa", sum := "dbeafb146b4cce0166a1b1c1114e0927d095cfffaa335f858b971472879c5531", func := "loop.example/g03207/laws.FnExactLengthsOk", spec := "fnExactLengthsOk", unfollowed := true, recurses := true, apart := false }
def FnExactLengthsOkSaid : Prop := fnExactLengthsOkRow.holds Try.pinned (OpenSpec.ofChange fnExactLengthsOkSpec)

/-- ITS FALSE NEIGHBOUR: 'it returns false'. Refute it at one input. -/
def fnExactLengthsOkWrong : ChangeSpec := { name := "fnExactLengthsOk", fn := fun _ => fun
  | [d] => { results := [.lit (.bool false)], args := [d] }
  | _ => none }
def FnExactLengthsOkWrongFalsely : Prop := fnExactLengthsOkRow.holds Try.pinned (OpenSpec.ofChange fnExactLengthsOkWrong)

/-- 'laws.FnExactTimesOk': WHATEVER THE INPUT: true; the input reads as it did. -/
def fnExactTimesOkSpec : ChangeSpec := { name := "fnExactTimesOk", fn := fun _ => fun
  | [d] => { results := [.lit (.bool true)], args := [d] }
  | _ => none }
def fnExactTimesOkRow : OpenClaim := { program := "ytadoocaionkaiaa", sum := "dbeafb146b4cce0166a1b1c1114e0927d095cfffaa335f858b971472879c5531", func := "loop.example/g03207/laws.FnExactTimesOk", spec := "fnExactTimesOk", unfollowed := true, recurses := true, apart := false }
def FnExactTimesOkSaid : Prop := fnExactTimesOkRow.holds Try.pinned (OpenSpec.ofChange fnExactTimesOkSpec)

/-- ITS FALSE NEIGHBOUR: 'it returns false'. Refute it at one input. -/
def fnExactTimesOkWrong : ChangeSpec := { name := "fnExactTimesOk", fn := fun _ => fun
  | [d] => { results := [.lit (.bool false)], args := [d] }
  | _ => none }
def FnExactTimesOkWrongFalsely : Prop := fnExactTimesOkRow.holds Try.pinned (OpenSpec.ofChange fnExactTimesOkWrong)

/-- 'laws.FnExactRunsOf': WHATEVER THE INPUT: true; the input reads as it did. -/
def fnExactRunsOfSpec : ChangeSpec := { name := "fnExactRunsOf", fn := fun _ => fun
  | [d] => { results := [.lit (.bool true)], args := [d] }
  | _ => none }
def fnExactRunsOfRow : OpenClaim := { program := "ytadoocaionkaiaa", sum := "dbeafb146b4cce0166a1b1c1114e0927d095cfffaa335f858b971472879c5531", func := "loop.example/g03207/laws.FnExactRunsOf", spec := "fnExactRunsOf", apart := false }
def FnExactRunsOfSaid : Prop := fnExactRunsOfRow.holds Try.pinned (OpenSpec.ofChange fnExactRunsOfSpec)

/-- ITS FALSE NEIGHBOUR: 'it returns false'. Refute it at one input. -/
def fnExactRunsOfWrong : ChangeSpec := { name := "fnExactRunsOf", fn := fun _ => fun
  | [d] => { results := [.lit (.bool false)], args := [d] }
  | _ => none }
def FnExactRunsOfWrongFalsely : Prop := fnExactRunsOfRow.holds Try.pinned (OpenSpec.ofChange fnExactRunsOfWrong)

/-- 'laws.FnExactLongestRising': WHATEVER THE INPUT: true; the input reads as it did. -/
def fnExactLongestRisingSpec : ChangeSpec := { name := "fnExactLongestRising", fn := fun _ => fun
  | [d] => { results := [.lit (.bool true)], args := [d] }
  | _ => none }
def fnExactLongestRisingRow : OpenClaim := { program := "ytadoocaionkaiaa", sum := "dbeafb146b4cce0166a1b1c1114e0927d095cfffaa335f858b971472879c5531", func := "loop.example/g03207/laws.FnExactLongestRising", spec := "fnExactLongestRising", unfollowed := true, recurses := true, apart := false }
def FnExactLongestRisingSaid : Prop := fnExactLongestRisingRow.holds Try.pinned (OpenSpec.ofChange fnExactLongestRisingSpec)

/-- ITS FALSE NEIGHBOUR: 'it returns false'. Refute it at one input. -/
def fnExactLongestRisingWrong : ChangeSpec := { name := "fnExactLongestRising", fn := fun _ => fun
  | [d] => { results := [.lit (.bool false)], args := [d] }
  | _ => none }
def FnExactLongestRisingWrongFalsely : Prop := fnExactLongestRisingRow.holds Try.pinned (OpenSpec.ofChange fnExactLongestRisingWrong)

/-- 'laws.FnExactInversionsOf': WHATEVER THE INPUT: true; the input reads as it did. -/
def fnExactInversionsOfSpec : ChangeSpec := { name := "fnExactInversionsOf", fn := fun _ => fun
  | [d] => { results := [.lit (.bool true)], args := [d] }
  | _ => none }
def fnExactInversionsOfRow : OpenClaim := { program := "ytadoocaionkaiaa", sum := "dbeafb146b4cce0166a1b1c1114e0927d095cfffaa335f858b971472879c5531", func := "loop.example/g03207/laws.FnExactInversionsOf", spec := "fnExactInversionsOf", apart := false }
def FnExactInversionsOfSaid : Prop := fnExactInversionsOfRow.holds Try.pinned (OpenSpec.ofChange fnExactInversionsOfSpec)

/-- ITS FALSE NEIGHBOUR: 'it returns false'. Refute it at one input. -/
def fnExactInversionsOfWrong : ChangeSpec := { name := "fnExactInversionsOf", fn := fun _ => fun
  | [d] => { results := [.lit (.bool false)], args := [d] }
  | _ => none }
def FnExactInversionsOfWrongFalsely : Prop := fnExactInversionsOfRow.holds Try.pinned (OpenSpec.ofChange fnExactInversionsOfWrong)

/- THE SECOND FORM. 'bulk': how many values and letters a reading holds, each counted each time it is reached (what is shared counts as often as it is met; a slice's spare places count too). A statement '..UptoSaid' is the law's where the arguments, and the package variables that the reading takes, are together of bulk at most 1048576: NARROWER than '..Said'. Prove '..Said' where nothing that the law and all that it calls make is longer than what came in: it says more and counts as full. Else prove '..UptoSaid'. A law counts once. -/
mutual
def uptoBulk {H : Type} : DataW H → Nat
  | .lit (.string bytes) => bytes.length + 1
  | .lit _ => 1
  | .nil => 1
  | .ptr d => uptoBulk d + 1
  | .slice elems spare => uptoBulkAll elems + uptoBulkAll spare + 1
  | .agg parts => uptoBulkAll parts + 1
  | .iface _ d => uptoBulk d + 1
  | .map entries => uptoBulkEntries entries + 1
  | .held _ => 1
def uptoBulkAll {H : Type} : List (DataW H) → Nat
  | [] => 0
  | d :: r => uptoBulk d + uptoBulkAll r
def uptoBulkEntries {H : Type} : List (Lit × DataW H) → Nat
  | [] => 0
  | x :: r => uptoBulkEntry x + uptoBulkEntries r
def uptoBulkEntry {H : Type} : Lit × DataW H → Nat
  | (.string bytes, d) => bytes.length + uptoBulk d + 1
  | (_, d) => uptoBulk d + 1
 end
def uptoSmall : (H : Type) → List (DataW H) → Bool := fun _ ds => decide (uptoBulkAll ds ≤ 1048576)
def OpenSpec.upto (s : _root_.Go.ChangeSpec) : _root_.Go.OpenSpec := { _root_.Go.OpenSpec.ofChange s with cond := some uptoSmall }

/-- 'laws.FnExactRoundsFor', WHERE WHAT IT READS IS OF BULK AT MOST 1048576: true; the input reads as it did. -/
def fnExactRoundsForUptoRow : OpenClaim := { program := "ytadoocaionkaiaa", sum := "dbeafb146b4cce0166a1b1c1114e0927d095cfffaa335f858b971472879c5531", func := "loop.example/g03207/laws.FnExactRoundsFor", spec := "fnExactRoundsFor", apart := false, narrowed := true }
def FnExactRoundsForUptoSaid : Prop := fnExactRoundsForUptoRow.holds Try.pinned (OpenSpec.upto fnExactRoundsForSpec)

/-- 'laws.FnExactLengthsOk', WHERE WHAT IT READS IS OF BULK AT MOST 1048576: true; the input reads as it did. -/
def fnExactLengthsOkUptoRow : OpenClaim := { program := "ytadoocaionkaiaa", sum := "dbeafb146b4cce0166a1b1c1114e0927d095cfffaa335f858b971472879c5531", func := "loop.example/g03207/laws.FnExactLengthsOk", spec := "fnExactLengthsOk", unfollowed := true, recurses := true, apart := false, narrowed := true }
def FnExactLengthsOkUptoSaid : Prop := fnExactLengthsOkUptoRow.holds Try.pinned (OpenSpec.upto fnExactLengthsOkSpec)

/-- 'laws.FnExactTimesOk', WHERE WHAT IT READS IS OF BULK AT MOST 1048576: true; the input reads as it did. -/
def fnExactTimesOkUptoRow : OpenClaim := { program := "ytadoocaionkaiaa", sum := "dbeafb146b4cce0166a1b1c1114e0927d095cfffaa335f858b971472879c5531", func := "loop.example/g03207/laws.FnExactTimesOk", spec := "fnExactTimesOk", unfollowed := true, recurses := true, apart := false, narrowed := true }
def FnExactTimesOkUptoSaid : Prop := fnExactTimesOkUptoRow.holds Try.pinned (OpenSpec.upto fnExactTimesOkSpec)

/-- 'laws.FnExactRunsOf', WHERE WHAT IT READS IS OF BULK AT MOST 1048576: true; the input reads as it did. -/
def fnExactRunsOfUptoRow : OpenClaim := { program := "ytadoocaionkaiaa", sum := "dbeafb146b4cce0166a1b1c1114e0927d095cfffaa335f858b971472879c5531", func := "loop.example/g03207/laws.FnExactRunsOf", spec := "fnExactRunsOf", apart := false, narrowed := true }
def FnExactRunsOfUptoSaid : Prop := fnExactRunsOfUptoRow.holds Try.pinned (OpenSpec.upto fnExactRunsOfSpec)

/-- 'laws.FnExactLongestRising', WHERE WHAT IT READS IS OF BULK AT MOST 1048576: true; the input reads as it did. -/
def fnExactLongestRisingUptoRow : OpenClaim := { program := "ytadoocaionkaiaa", sum := "dbeafb146b4cce0166a1b1c1114e0927d095cfffaa335f858b971472879c5531", func := "loop.example/g03207/laws.FnExactLongestRising", spec := "fnExactLongestRising", unfollowed := true, recurses := true, apart := false, narrowed := true }
def FnExactLongestRisingUptoSaid : Prop := fnExactLongestRisingUptoRow.holds Try.pinned (OpenSpec.upto fnExactLongestRisingSpec)

/-- 'laws.FnExactInversionsOf', WHERE WHAT IT READS IS OF BULK AT MOST 1048576: true; the input reads as it did. -/
def fnExactInversionsOfUptoRow : OpenClaim := { program := "ytadoocaionkaiaa", sum := "dbeafb146b4cce0166a1b1c1114e0927d095cfffaa335f858b971472879c5531", func := "loop.example/g03207/laws.FnExactInversionsOf", spec := "fnExactInversionsOf", apart := false, narrowed := true }
def FnExactInversionsOfUptoSaid : Prop := fnExactInversionsOfUptoRow.holds Try.pinned (OpenSpec.upto fnExactInversionsOfSpec)

end Rows
end Go.Proofs.Ytadoocaionkaiaa

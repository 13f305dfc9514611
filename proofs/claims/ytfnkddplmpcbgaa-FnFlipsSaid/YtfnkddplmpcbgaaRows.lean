/-
  No cell of these rows narrows 'for every input' (looked for: loops, veiled, ifaces, maps, wideKeys, modest, calm, conditions, laid).
  DERIVED. THE GIVEN ROWS OF THIS SEAT. 5 by the template 'for every input the law returns true; each argument reads behind the call as it read before'; 0 by the template 'total and deterministic' (their statements: YtfnkddplmpcbgaaTotals.lean).
  GIVEN WITH THE SEED: the statements are not yours to turn. If you find one false, say at which input.
  Laid BY PROGRAM, IN A SANDBOX (cutbox-rows.mjs): the forced cells as the released guide's own fill.sh prints them over the translation e87d8b0838ce5b67… (all of the seat's roots in one cut). By AI agents, Wed Nov 11 2026. No macro, syntax, notation, axiom, sorry.
-/
import Derived.Test.YtfnkddplmpcbgaaChecked
import GoSem.Claim
import GoSem.ClaimJoined
import GoSem.ClaimMapViews
import Derived.JoinedTies
import Derived.KernelRfl
namespace Go.Proofs.Ytfnkddplmpcbgaa
/- THE CELL 'sum', in the pinned program and in every row, IS THE sha256 OF THE DUMP (.gsa) THAT YtfnkddplmpcbgaaProg.lean LOADS. Nothing in Lean hashes anything: it is a label: what it is worth is what the hold of that sum in a sandbox is worth. -/
noncomputable def Try.pinned : Pinned := { name := "ytfnkddplmpcbgaa", sum := "e87d8b0838ce5b677624693da2e3e927c4636ecac6010823bf1fae6d6acf55dd", checked := Try.checked }
namespace Rows
def none {H : Type} : Left H := { results := [], args := [] }

/-- 'laws.FnExactMostFlips': WHATEVER THE INPUT: true; the input reads as it did. -/
def fnExactMostFlipsSpec : ChangeSpec := { name := "fnExactMostFlips", fn := fun _ => fun
  | [d] => { results := [.lit (.bool true)], args := [d] }
  | _ => none }
def fnExactMostFlipsRow : OpenClaim := { program := "ytfnkddplmpcbgaa", sum := "e87d8b0838ce5b677624693da2e3e927c4636ecac6010823bf1fae6d6acf55dd", func := "loop.example/g03207/laws.FnExactMostFlips", spec := "fnExactMostFlips", apart := false }
def FnExactMostFlipsSaid : Prop := fnExactMostFlipsRow.holds Try.pinned (OpenSpec.ofChange fnExactMostFlipsSpec)

/-- ITS FALSE NEIGHBOUR: 'it returns false'. Refute it at one input. -/
def fnExactMostFlipsWrong : ChangeSpec := { name := "fnExactMostFlips", fn := fun _ => fun
  | [d] => { results := [.lit (.bool false)], args := [d] }
  | _ => none }
def FnExactMostFlipsWrongFalsely : Prop := fnExactMostFlipsRow.holds Try.pinned (OpenSpec.ofChange fnExactMostFlipsWrong)

/-- 'laws.FnExactCountAtDistance': WHATEVER THE INPUT: true; the input reads as it did. -/
def fnExactCountAtDistanceSpec : ChangeSpec := { name := "fnExactCountAtDistance", fn := fun _ => fun
  | [d1, d2] => { results := [.lit (.bool true)], args := [d1, d2] }
  | _ => none }
def fnExactCountAtDistanceRow : OpenClaim := { program := "ytfnkddplmpcbgaa", sum := "e87d8b0838ce5b677624693da2e3e927c4636ecac6010823bf1fae6d6acf55dd", func := "loop.example/g03207/laws.FnExactCountAtDistance", spec := "fnExactCountAtDistance", apart := false }
def FnExactCountAtDistanceSaid : Prop := fnExactCountAtDistanceRow.holds Try.pinned (OpenSpec.ofChange fnExactCountAtDistanceSpec)

/-- ITS FALSE NEIGHBOUR: 'it returns false'. Refute it at one input. -/
def fnExactCountAtDistanceWrong : ChangeSpec := { name := "fnExactCountAtDistance", fn := fun _ => fun
  | [d1, d2] => { results := [.lit (.bool false)], args := [d1, d2] }
  | _ => none }
def FnExactCountAtDistanceWrongFalsely : Prop := fnExactCountAtDistanceRow.holds Try.pinned (OpenSpec.ofChange fnExactCountAtDistanceWrong)

/-- 'laws.FnExactFlipDistance': WHATEVER THE INPUT: true; the input reads as it did. -/
def fnExactFlipDistanceSpec : ChangeSpec := { name := "fnExactFlipDistance", fn := fun _ => fun
  | [d] => { results := [.lit (.bool true)], args := [d] }
  | _ => none }
def fnExactFlipDistanceRow : OpenClaim := { program := "ytfnkddplmpcbgaa", sum := "e87d8b0838ce5b677624693da2e3e927c4636ecac6010823bf1fae6d6acf55dd", func := "loop.example/g03207/laws.FnExactFlipDistance", spec := "fnExactFlipDistance", recurses := true, apart := false }
def FnExactFlipDistanceSaid : Prop := fnExactFlipDistanceRow.holds Try.pinned (OpenSpec.ofChange fnExactFlipDistanceSpec)

/-- ITS FALSE NEIGHBOUR: 'it returns false'. Refute it at one input. -/
def fnExactFlipDistanceWrong : ChangeSpec := { name := "fnExactFlipDistance", fn := fun _ => fun
  | [d] => { results := [.lit (.bool false)], args := [d] }
  | _ => none }
def FnExactFlipDistanceWrongFalsely : Prop := fnExactFlipDistanceRow.holds Try.pinned (OpenSpec.ofChange fnExactFlipDistanceWrong)

/-- 'laws.FnExactBestFlips': WHATEVER THE INPUT: true; the input reads as it did. -/
def fnExactBestFlipsSpec : ChangeSpec := { name := "fnExactBestFlips", fn := fun _ => fun
  | [d] => { results := [.lit (.bool true)], args := [d] }
  | _ => none }
def fnExactBestFlipsRow : OpenClaim := { program := "ytfnkddplmpcbgaa", sum := "e87d8b0838ce5b677624693da2e3e927c4636ecac6010823bf1fae6d6acf55dd", func := "loop.example/g03207/laws.FnExactBestFlips", spec := "fnExactBestFlips", recurses := true, apart := false }
def FnExactBestFlipsSaid : Prop := fnExactBestFlipsRow.holds Try.pinned (OpenSpec.ofChange fnExactBestFlipsSpec)

/-- ITS FALSE NEIGHBOUR: 'it returns false'. Refute it at one input. -/
def fnExactBestFlipsWrong : ChangeSpec := { name := "fnExactBestFlips", fn := fun _ => fun
  | [d] => { results := [.lit (.bool false)], args := [d] }
  | _ => none }
def FnExactBestFlipsWrongFalsely : Prop := fnExactBestFlipsRow.holds Try.pinned (OpenSpec.ofChange fnExactBestFlipsWrong)

/-- 'laws.FnFlips': WHATEVER THE INPUT: true; the input reads as it did. -/
def fnFlipsSpec : ChangeSpec := { name := "fnFlips", fn := fun _ => fun
  | [d] => { results := [.lit (.bool true)], args := [d] }
  | _ => none }
def fnFlipsRow : OpenClaim := { program := "ytfnkddplmpcbgaa", sum := "e87d8b0838ce5b677624693da2e3e927c4636ecac6010823bf1fae6d6acf55dd", func := "loop.example/g03207/laws.FnFlips", spec := "fnFlips", apart := false }
def FnFlipsSaid : Prop := fnFlipsRow.holds Try.pinned (OpenSpec.ofChange fnFlipsSpec)

/-- ITS FALSE NEIGHBOUR: 'it returns false'. Refute it at one input. -/
def fnFlipsWrong : ChangeSpec := { name := "fnFlips", fn := fun _ => fun
  | [d] => { results := [.lit (.bool false)], args := [d] }
  | _ => none }
def FnFlipsWrongFalsely : Prop := fnFlipsRow.holds Try.pinned (OpenSpec.ofChange fnFlipsWrong)

/- THE SECOND FORM. 'bulk': how many values and letters a reading holds, each counted each time it is reached (what is shared counts as often as it is met; a slice's spare places count too). A statement '..UptoSaid' is the law's where the arguments, and the package variables that the reading takes, are together of bulk at most 1048576: NARROWER than '..Said'. Prove '..Said' where nothing that the law and all that it calls make is longer than what came in: it says more and counts as full. Else prove '..UptoSaid'. A law counts once. -/
mutual
def uptoBulk {H : Type} : DataW H → Nat
  | .lit (.string bytes) => bytes.length + 1
  | .lit _ => 1
  | .nil => 1
  | .ptr d => uptoBulk d + 1
  | .slice elems spare => uptoBulkAll elems + uptoBulkAll spare + 1
  | .agg parts => uptoBulkAll parts + 1
  | .iface _ d => uptoBulk d + 1
  | .map entries => uptoBulkEntries entries + 1
  | .held _ => 1
def uptoBulkAll {H : Type} : List (DataW H) → Nat
  | [] => 0
  | d :: r => uptoBulk d + uptoBulkAll r
def uptoBulkEntries {H : Type} : List (Lit × DataW H) → Nat
  | [] => 0
  | x :: r => uptoBulkEntry x + uptoBulkEntries r
def uptoBulkEntry {H : Type} : Lit × DataW H → Nat
  | (.string bytes, d) => bytes.length + uptoBulk d + 1
  | (_, d) => uptoBulk d + 1
 end
def uptoSmall : (H : Type) → List (DataW H) → Bool := fun _ ds => decide (uptoBulkAll ds ≤ 1048576)
def OpenSpec.upto (s : _root_.Go.ChangeSpec) : _root_.Go.OpenSpec := { _root_.Go.OpenSpec.ofChange s with cond := some uptoSmall }

/-- 'laws.FnExactMostFlips', WHERE WHAT IT READS IS OF BULK AT MOST 1048576: true; the input reads as it did. -/
def fnExactMostFlipsUptoRow : OpenClaim := { program := "ytfnkddplmpcbgaa", sum := "e87d8b0838ce5b677624693da2e3e927c4636ecac6010823bf1fae6d6acf55dd", func := "loop.example/g03207/laws.FnExactMostFlips", spec := "fnExactMostFlips", apart := false, narrowed := true }
def FnExactMostFlipsUptoSaid : Prop := fnExactMostFlipsUptoRow.holds Try.pinned (OpenSpec.upto fnExactMostFlipsSpec)

/-- 'laws.FnExactCountAtDistance', WHERE WHAT IT READS IS OF BULK AT MOST 1048576: true; the input reads as it did. -/
def fnExactCountAtDistanceUptoRow : OpenClaim := { program := "ytfnkddplmpcbgaa", sum := "e87d8b0838ce5b677624693da2e3e927c4636ecac6010823bf1fae6d6acf55dd", func := "loop.example/g03207/laws.FnExactCountAtDistance", spec := "fnExactCountAtDistance", apart := false, narrowed := true }
def FnExactCountAtDistanceUptoSaid : Prop := fnExactCountAtDistanceUptoRow.holds Try.pinned (OpenSpec.upto fnExactCountAtDistanceSpec)

/-- 'laws.FnExactFlipDistance', WHERE WHAT IT READS IS OF BULK AT MOST 1048576: true; the input reads as it did. -/
def fnExactFlipDistanceUptoRow : OpenClaim := { program := "ytfnkddplmpcbgaa", sum := "e87d8b0838ce5b677624693da2e3e927c4636ecac6010823bf1fae6d6acf55dd", func := "loop.example/g03207/laws.FnExactFlipDistance", spec := "fnExactFlipDistance", recurses := true, apart := false, narrowed := true }
def FnExactFlipDistanceUptoSaid : Prop := fnExactFlipDistanceUptoRow.holds Try.pinned (OpenSpec.upto fnExactFlipDistanceSpec)

/-- 'laws.FnExactBestFlips', WHERE WHAT IT READS IS OF BULK AT MOST 1048576: true; the input reads as it did. -/
def fnExactBestFlipsUptoRow : OpenClaim := { program := "ytfnkddplmpcbgaa", sum := "e87d8b0838ce5b677624693da2e3e927c4636ecac6010823bf1fae6d6acf55dd", func := "loop.example/g03207/laws.FnExactBestFlips", spec := "fnExactBestFlips", recurses := true, apart := false, narrowed := true }
def FnExactBestFlipsUptoSaid : Prop := fnExactBestFlipsUptoRow.holds Try.pinned (OpenSpec.upto fnExactBestFlipsSpec)

/-- 'laws.FnFlips', WHERE WHAT IT READS IS OF BULK AT MOST 1048576: true; the input reads as it did. -/
def fnFlipsUptoRow : OpenClaim := { program := "ytfnkddplmpcbgaa", sum := "e87d8b0838ce5b677624693da2e3e927c4636ecac6010823bf1fae6d6acf55dd", func := "loop.example/g03207/laws.FnFlips", spec := "fnFlips", apart := false, narrowed := true }
def FnFlipsUptoSaid : Prop := fnFlipsUptoRow.holds Try.pinned (OpenSpec.upto fnFlipsSpec)

end Rows
end Go.Proofs.Ytfnkddplmpcbgaa

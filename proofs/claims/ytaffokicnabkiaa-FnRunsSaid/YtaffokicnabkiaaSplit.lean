/- Runs of a list: the reference's splitting, and the statement's two functions. No condition but a length. -/
import Derived.Test.YtaffokicnabkiaaRis
import Derived.Test.YtaffokicnabkiaaHelpG
namespace Go.Proofs.Ytaffokicnabkiaa
open Go.RowKit
set_option linter.unusedVariables false

def splV (xs : List Int) : List (List Int) := if xs.length ≤ 16 then risL xs xs.length else []
theorem splV_small (xs : List Int) : SmallG (splV xs).length (splV xs) := by
  unfold splV
  split
  · rename_i h
    refine ⟨by rw [risL_len]; have := runsTo_le xs xs.length; omega, fun ys hy => by have := risL_rows xs xs.length ys hy; omega⟩
  · exact ⟨by simp, fun _ h => by cases h⟩























































































































end Go.Proofs.Ytaffokicnabkiaa

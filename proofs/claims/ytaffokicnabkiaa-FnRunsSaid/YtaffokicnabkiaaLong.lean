/- The longest list of which each number follows the one before it. -/
import Derived.Test.YtaffokicnabkiaaHelp
import Derived.Test.YtaffokicnabkiaaDisL
namespace Go.Proofs.Ytaffokicnabkiaa
open Go.RowKit






























































def leB (x y : Int) : Bool := decide (x ≤ y)
def gtB (x y : Int) : Bool := decide (y < x)


end Go.Proofs.Ytaffokicnabkiaa

/- Measures of disorder, fourth part: the stable order, the farthest move. No condition but lengths. -/
import Derived.Test.YtcfpiblgddihmaaDis3
import Derived.Test.YtcfpiblgddihmaaStab
import Derived.WalkLawsBesides
namespace Go.Proofs.Ytcfpiblgddihmaa
open Go.RowKit

def ordL (xs : List Int) (n : Nat) : List Int := sortTo (ltK xs) (rangeI n) n
def ordV (xs : List Int) : List Int := if xs.length ≤ 12 then sortTo (ltK xs) (rangeI xs.length) xs.length else []
def farTo (o : List Int) : Nat → Int
  | 0 => 0
  | k + 1 => max (farTo o k) (max ((k : Int) - nth o k) (nth o k - k))
def farV (xs : List Int) : Int := if xs.length ≤ 12 then farTo (ordL xs xs.length) xs.length else -1











































































































end Go.Proofs.Ytcfpiblgddihmaa

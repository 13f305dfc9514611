/- The longest parts in order, as the program makes them: a slice of slices. No condition but a length. -/
import Derived.Test.YtcfpiblgddihmaaHelp
import Derived.Test.YtcfpiblgddihmaaGrid
import Derived.Test.YtcfpiblgddihmaaRisL
namespace Go.Proofs.Ytcfpiblgddihmaa
open Go.RowKit

theorem infoSl : (Try.prog.info? 23).map (fun i => (i.zero, i.size, i.bytes)) = some (some (.slice none 0 0), 1, 24) := by kernel_rfl

theorem map_addL {cs : List Cell} {l : List (List Int)} (h : cs.map (·.xs) = l) {j : Nat} (hj : j + 1 = l.length) {c c' : Cell} (hc : cs[j]? = some c) {x : Int} (hx : c'.xs = c.xs ++ [x]) : (cs.set j c').map (·.xs) = addL l x := by
  subst h
  unfold addL
  rw [← hj, Nat.add_sub_cancel, List.map_set, hx]
  simp [List.getD, List.getElem?_map, hc]



































































end Go.Proofs.Ytcfpiblgddihmaa

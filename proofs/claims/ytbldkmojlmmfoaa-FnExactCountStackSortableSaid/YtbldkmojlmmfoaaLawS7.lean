/- The walks of statements of one shape, by a program of mine (gen.py), out of the contracts. No condition. -/
import Derived.Test.YtbldkmojlmmfoaaCount
namespace Go.Proofs.Ytbldkmojlmmfoaa
open Go.RowKit
set_option linter.unusedVariables false

set_option maxHeartbeats 1600000 in
theorem w_CountStackSortable (x0 : Int) (w : World) :
    Calls Try.prog 3 #[.int .i64 x0] w fun e w' => e = .returned (.bool true) ∧ Below w.heap.size w w' := by
  go_enter Try.func3, Try.ntmps3
  go_wp2_with fail
  refine (cs_CountStackSortable x0 w).mono ?_
  rintro e w1 ⟨rfl, b1⟩
  have B1 := Below.nx (Below.refl _ _) b1
  go_wp2_with fail
  refine (ci_CountStackSortable x0 w1).mono ?_
  rintro e w2 ⟨rfl, b2⟩
  have B2 := Below.nx B1 b2
  go_wp2_with fail
  go_ret
  exact ⟨rfl, B2⟩

end Go.Proofs.Ytbldkmojlmmfoaa

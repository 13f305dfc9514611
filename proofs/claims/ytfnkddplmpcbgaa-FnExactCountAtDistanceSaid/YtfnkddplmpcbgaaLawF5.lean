/- The walks of statements of one shape, by a program of mine (gen.py), out of the contracts. No condition. -/
import Derived.Test.YtfnkddplmpcbgaaDistR
namespace Go.Proofs.Ytfnkddplmpcbgaa
open Go.RowKit
set_option linter.unusedVariables false

set_option maxHeartbeats 1600000 in
theorem w_MostFlips (x0 : Int) (w : World) :
    Calls Try.prog 3 #[.int .i64 x0] w fun e w' => e = .returned (.bool true) ∧ Below w.heap.size w w' := by
  go_enter Try.func3, Try.ntmps3
  go_wp2_with fail
  refine (cs_MostFlips x0 w).mono ?_
  rintro e w1 ⟨rfl, b1⟩
  have B1 := Below.nx (Below.refl _ _) b1
  go_wp2_with fail
  refine (ci_MostFlips x0 w1).mono ?_
  rintro e w2 ⟨rfl, b2⟩
  have B2 := Below.nx B1 b2
  go_wp2_with fail
  go_ret
  exact ⟨rfl, B2⟩

set_option maxHeartbeats 1600000 in
theorem w_CountAtDistance (x0 : Int) (x1 : Int) (w : World) :
    Calls Try.prog 4 #[.int .i64 x0, .int .i64 x1] w fun e w' => e = .returned (.bool true) ∧ Below w.heap.size w w' := by
  go_enter Try.func4, Try.ntmps4
  go_wp2_with fail
  refine (cs_CountAtDistance x0 x1 w).mono ?_
  rintro e w1 ⟨rfl, b1⟩
  have B1 := Below.nx (Below.refl _ _) b1
  go_wp2_with fail
  refine (ci_CountAtDistance x0 x1 w1).mono ?_
  rintro e w2 ⟨rfl, b2⟩
  have B2 := Below.nx B1 b2
  go_wp2_with fail
  go_ret
  exact ⟨rfl, B2⟩

end Go.Proofs.Ytfnkddplmpcbgaa

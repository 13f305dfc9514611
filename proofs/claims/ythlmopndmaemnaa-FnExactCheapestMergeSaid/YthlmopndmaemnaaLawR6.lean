/- The walks of statements of one shape, by a program of mine (gen.py), out of the contracts. No condition. -/
import Derived.Test.YthlmopndmaemnaaCheapV
namespace Go.Proofs.Ythlmopndmaemnaa
open Go.RowKit
set_option linter.unusedVariables false

set_option maxHeartbeats 1600000 in
theorem w_CheapestMerge (a0 : Option Addr) (n0 cap0 : Nat) (xs0 : List Int) (w : World) (hr0 : RdI w a0 n0 cap0 xs0) :
    Calls Try.prog 6 #[.slice a0 n0 cap0] w fun e w' => e = .returned (.bool true) ∧ Below w.heap.size w w' := by
  by_cases hn0 : n0 ≤ 1048576
  case neg =>
    go_enter Try.func6, Try.ntmps6
    go_wp2
    go_ret
    exact ⟨rfl, Below.refl _ _⟩
  go_enter Try.func6, Try.ntmps6
  go_wp2_with fail
  refine (c_toIntS a0 n0 cap0 xs0 w (hr0.below (Below.refl _ _)) hn0).mono ?_
  rintro e w1 ⟨p0, rfl, owp0, b1⟩
  have B1 := Below.nx (Below.refl _ _) b1
  go_wp2_with fail
  refine (cs_CheapestMerge p0 n0 n0 xs0 w1 owp0.rd).mono ?_
  rintro e w2 ⟨rfl, b2⟩
  have B2 := Below.nx B1 b2
  go_wp2_with fail
  refine (c_toIntS a0 n0 cap0 xs0 w2 (hr0.below B2) hn0).mono ?_
  rintro e w3 ⟨x0, rfl, owx0, b3⟩
  have B3 := Below.nx B2 b3
  go_wp2_with fail
  refine (ci_CheapestMerge x0 n0 n0 xs0 w3 owx0.rd).mono ?_
  rintro e w4 ⟨rfl, b4⟩
  have B4 := Below.nx B3 b4
  have owx0 := owx0.below b4
  go_wp2_with fail
  refine (c_toIntS a0 n0 cap0 xs0 w4 (hr0.below B4) hn0).mono ?_
  rintro e w5 ⟨y0, rfl, owy0, b5⟩
  have B5 := Below.nx B4 b5
  have owx0 := owx0.below b5
  go_wp2_with fail
  refine (c_eqIntS x0 y0 n0 n0 n0 n0 xs0 w5 owx0.rd owy0.rd hn0).mono ?_
  rintro e w6 ⟨rfl, b6⟩
  have B6 := Below.nx B5 b6
  have owx0 := owx0.below b6
  go_wp2_with fail
  go_ret
  exact ⟨rfl, B6⟩

end Go.Proofs.Ythlmopndmaemnaa

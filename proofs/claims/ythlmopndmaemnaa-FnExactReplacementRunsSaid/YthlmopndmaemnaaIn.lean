/- A number between two. No condition. -/
import Derived.Test.YthlmopndmaemnaaHelp
namespace Go.Proofs.Ythlmopndmaemnaa
open Go.RowKit

theorem c_in (b : Bool) (n lo hi : Int) (w : World) (hb : decide (lo ≤ n ∧ n ≤ hi) = b) : Calls Try.prog 26 #[.int .i64 n, .int .i64 lo, .int .i64 hi] w fun e w' => e = .returned (.bool b) ∧ w' = w := by
  subst hb
  by_cases h1 : lo ≤ n
  · by_cases h2 : n ≤ hi
    · go_enter Try.func26, Try.ntmps26
      go_wp2
      go_ret
      exact ⟨by rw [decide_eq_true (by omega)]; rfl, rfl⟩
    · go_enter Try.func26, Try.ntmps26
      go_wp2
      go_ret
      exact ⟨by rw [decide_eq_false (by omega)]; rfl, rfl⟩
  · go_enter Try.func26, Try.ntmps26
    go_wp2
    go_ret
    exact ⟨by rw [decide_eq_false (by omega)]; rfl, rfl⟩

end Go.Proofs.Ythlmopndmaemnaa

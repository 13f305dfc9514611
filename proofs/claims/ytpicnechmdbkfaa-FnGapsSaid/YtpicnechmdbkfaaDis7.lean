/- Measures of disorder, seventh part: the four measures together. No condition but lengths. -/
import Derived.Test.YtpicnechmdbkfaaDis4
namespace Go.Proofs.Ytpicnechmdbkfaa
open Go.RowKit

def disV (xs : List Int) : List Int := if xs.length ≤ 12 then [invV xs, runsV xs, remV xs, farV xs] else []






























theorem ci_DisorderOf (a : Option Addr) (n cap : Nat) (xs : List Int) (w : World) (hr : RdI w a n cap xs) :
    Calls Try.prog 6 #[.slice a n cap] w fun e w' => ∃ sa sn sc, e = .returned (.slice sa sn sc) ∧ OwI w' 3 w.heap.size sa sn sc (disV xs) ∧ sn ≤ 1048576 ∧ Below w.heap.size w w' := by
  have hl := Lib.hid hr.lens
  by_cases h12 : n ≤ 12
  · go_enter Try.func6, Try.ntmps6
    go_wp2_with (go_at_call 37; refine (c_isTwelve true _ _ _ _ (by simpa using h12)).mono ?_; rintro e w' ⟨rfl, rfl⟩)
    refine (ci_InversionsOf a n cap xs _ hr).mono ?_
    rintro e w1 ⟨rfl, b1⟩
    go_wp2_with fail
    refine (ci_RunsOf a n cap xs _ (hr.below b1)).mono ?_
    rintro e w2 ⟨rfl, b2⟩
    have B2 := Below.nx b1 b2
    go_wp2_with fail
    refine (ci_RemoveLeast a n cap xs _ (hr.below B2)).mono ?_
    rintro e w3 ⟨rfl, b3⟩
    have B3 := Below.nx B2 b3
    go_wp2_with fail
    refine (ci_FarthestMove a n cap xs _ (hr.below B3)).mono ?_
    rintro e w4 ⟨rfl, b4⟩
    have B4 := Below.nx B3 b4
    go_wp2_with fail
    go_ret
    have ow := Ow.new' w4 3 #[.int .i64 (invV xs), .int .i64 (runsV xs), .int .i64 (remV xs), .int .i64 (farV xs)] 4 (ints [invV xs, runsV xs, remV xs, farV xs]) rfl rfl (by unfold maxLen; omega)
    exact ⟨_, _, _, rfl, by unfold disV; rw [hl.out, if_pos h12]; exact ⟨_, ow, fun i hi => by simp at hi; have := B4.size; omega⟩, by omega, B4.alloc B4.size _⟩
  · go_enter Try.func6, Try.ntmps6
    go_wp2_with (go_at_call 37; refine (c_isTwelve false _ _ _ _ (by simpa using h12)).mono ?_; rintro e w' ⟨rfl, rfl⟩)
    go_ret
    exact ⟨_, _, _, rfl, by unfold disV; rw [hl.out, if_neg h12]; exact ⟨[], Ow.bare _ _ _, fun _ h => by cases h⟩, by omega, Below.refl _ _⟩

end Go.Proofs.Ytpicnechmdbkfaa

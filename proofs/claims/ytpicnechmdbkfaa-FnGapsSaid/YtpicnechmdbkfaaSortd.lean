/- The statements' own sorting. No condition but a length. -/
import Derived.Test.YtpicnechmdbkfaaSort2
import Derived.Test.YtpicnechmdbkfaaSrtL
import Derived.Test.YtpicnechmdbkfaaBestL
namespace Go.Proofs.Ytpicnechmdbkfaa
open Go.RowKit
set_option linter.unusedVariables false

theorem c_sorted (a : Option Addr) (n cap : Nat) (xs : List Int) (w : World) (hr : RdI w a n cap xs) (hn : n ≤ 1000) :
    Calls Try.prog 18 #[.slice a n cap] w fun e w' => ∃ ai ci, e = .returned (.slice ai n ci) ∧ OwI w' 3 w.heap.size ai n ci (sortTo ltI xs n) ∧ Below w.heap.size w w' := by
  have C1 : Calls Try.prog 44 #[.slice a n cap] w fun e w' => ∃ ai ci, e = .returned (.slice ai n ci) ∧ OwI w' 3 w.heap.size ai n ci (sortTo ltI xs n) ∧ Below w.heap.size w w' := by
    have C0 := Lib.hid (c_l08Sort a n cap xs w hr hn)
    go_enter Try.func44, Try.ntmps44
    go_wp2_with fail
    refine C0.out.mono ?_
    rintro e w1 ⟨ai, ci, rfl, ow, b1⟩
    go_wp2_with fail
    go_ret
    exact ⟨ai, ci, rfl, ow, b1⟩
  have C1 := Lib.hid C1
  go_enter Try.func18, Try.ntmps18
  go_wp2_with fail
  refine C1.out.mono ?_
  rintro e w1 ⟨ai, ci, rfl, ow, b1⟩
  go_wp2_with fail
  go_ret
  exact ⟨ai, ci, rfl, ow, b1⟩
/-- An order, sorted. -/
theorem sort_order {ys : List Int} {n : Nat} (hp : isPerm ys = true) (hl : ys.length = n) : sortTo ltD ys n = idn n := by
  have p1 := sortTo_perm ltD ys n (by omega)
  rw [List.take_of_length_le (by omega)] at p1
  have p2 := isPerm_perm hp p1
  have ho := isPerm_order p2
  have hl2 : (sortTo ltD ys n).length = n := sortTo_len _ _ _
  rw [hl2] at ho
  have hs := srt_sortTo ys n
  exact (rise_idn ho).1 (fun i hi => hs i (i + 1) (by omega) hi)

end Go.Proofs.Ytpicnechmdbkfaa

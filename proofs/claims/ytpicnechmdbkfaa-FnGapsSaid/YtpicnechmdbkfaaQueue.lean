/- Least numbers of queues. No condition. -/
import Derived.Test.YtpicnechmdbkfaaPerm
import Derived.Test.YtpicnechmdbkfaaLong
namespace Go.Proofs.Ytpicnechmdbkfaa
open Go.RowKit

def quV (xs : List Int) : Int := if isPerm xs = true then bestM gtB xs xs.length else -1











































































theorem c_Queues1 (x y : Int) (w : World) : Calls Try.prog 50 #[.int .i64 x, .int .i64 y] w fun e w' => e = .returned (.bool (gtB x y)) ∧ w = w' := by
  go_enter Try.func50, Try.ntmps50
  go_wp2
  go_ret
  exact ⟨rfl, rfl⟩

theorem ci_QueuesNeeded (a : Option Addr) (n cap : Nat) (xs : List Int) (w : World) (hr : RdI w a n cap xs) :
    Calls Try.prog 24 #[.slice a n cap] w fun e w' => e = .returned (.int .i64 (quV xs)) ∧ Below w.heap.size w w' := by
  have HL := Lib.hid hr.lens
  cases hp : isPerm xs
  · have HP := Lib.hid hp
    go_enter Try.func24, Try.ntmps24
    go_wp2_with (go_at_call 49; refine (c_isShortOrder _ _ _ _ _ hr).mono ?_; rw [hp]; rintro e w' ⟨rfl, hb⟩)
    go_ret
    exact ⟨ret_int (by unfold quV; rw [HP.out]; rfl), by assumption⟩
  have HP := Lib.hid hp
  have hn := isPerm_len hp
  rw [HL.out] at hn
  go_enter Try.func24, Try.ntmps24
  go_wp2_with fail
  refine (c_isShortOrder _ _ _ _ _ hr).mono ?_
  rw [hp]
  rintro e w1 ⟨rfl, hb⟩
  go_wp2_with fail
  refine (c_longest a n cap xs _ (hr.below hb) (by omega) 50 gtB (fun _ _ => by kernel_rfl) c_Queues1).mono ?_
  rintro e w2 ⟨rfl, hb2⟩
  go_wp2_with fail
  go_ret
  exact ⟨ret_int (by unfold quV; rw [HP.out, HL.out]; rfl), Below.nx hb hb2⟩

end Go.Proofs.Ytpicnechmdbkfaa

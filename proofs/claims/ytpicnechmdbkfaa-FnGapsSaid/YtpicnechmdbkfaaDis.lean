/- Measures of disorder: what the functions of the program and of the reference answer. No condition but lengths. -/
import Derived.Test.YtpicnechmdbkfaaHelp
import Derived.Test.YtpicnechmdbkfaaLong
namespace Go.Proofs.Ytpicnechmdbkfaa
open Go.RowKit


theorem c_isTwelve (b : Bool) (a : Option Addr) (n cap : Nat) (w : World) (hb : decide (n ≤ 12) = b) : Calls Try.prog 37 #[.slice a n cap] w fun e w' => e = .returned (.bool b) ∧ w = w' := by
  have e : (decide ((n : Int) ≤ 12)) = b := by rw [← hb]; congr 1; simp; omega
  have E := Lib.hid e
  clear e hb
  go_enter Try.func37, Try.ntmps37
  go_wp2
  go_ret
  exact ⟨by rw [← E.out]; rfl, rfl⟩

def longV (f : Int → Int → Bool) (xs : List Int) : Int := if xs.length ≤ 12 then bestM f xs xs.length else -1

theorem c_LongestRising1 (x y : Int) (w : World) : Calls Try.prog 43 #[.int .i64 x, .int .i64 y] w fun e w' => e = .returned (.bool (leB x y)) ∧ w = w' := by
  go_enter Try.func43, Try.ntmps43
  go_wp2
  go_ret
  exact ⟨rfl, rfl⟩

theorem ci_LongestRising (a : Option Addr) (n cap : Nat) (xs : List Int) (w : World) (hr : RdI w a n cap xs) :
    Calls Try.prog 16 #[.slice a n cap] w fun e w' => e = .returned (.int .i64 (longV leB xs)) ∧ Below w.heap.size w w' := by
  have hl := Lib.hid hr.lens
  by_cases h12 : n ≤ 12
  · go_enter Try.func16, Try.ntmps16
    go_wp2_with (go_at_call 37; refine (c_isTwelve true _ _ _ _ (by simpa using h12)).mono ?_; rintro e w' ⟨rfl, rfl⟩)
    refine (c_longest a n cap xs _ hr h12 43 leB (fun _ _ => by kernel_rfl) c_LongestRising1).mono ?_
    rintro e w' ⟨rfl, hb⟩
    go_wp2
    go_ret
    exact ⟨ret_int (by unfold longV; rw [hl.out, if_pos h12]), hb⟩
  · go_enter Try.func16, Try.ntmps16
    go_wp2_with (go_at_call 37; refine (c_isTwelve false _ _ _ _ (by simpa using h12)).mono ?_; rintro e w' ⟨rfl, rfl⟩)
    go_ret
    exact ⟨ret_int (by unfold longV; rw [hl.out, if_neg h12]), Below.refl _ _⟩








































































def remV (xs : List Int) : Int := if xs.length ≤ 12 then (xs.length : Int) - bestM leB xs xs.length else -1
















theorem ci_RemoveLeast (a : Option Addr) (n cap : Nat) (xs : List Int) (w : World) (hr : RdI w a n cap xs) :
    Calls Try.prog 12 #[.slice a n cap] w fun e w' => e = .returned (.int .i64 (remV xs)) ∧ Below w.heap.size w w' := by
  have hl := Lib.hid hr.lens
  have hbm := bestM_bd leB xs n
  by_cases h12 : n ≤ 12
  · have e1 : longV leB xs = bestM leB xs n := by unfold longV; rw [hl.out, if_pos h12]
    go_enter Try.func12, Try.ntmps12
    go_wp2_with (first | (go_at_call 37; refine (c_isTwelve true _ _ _ _ (by simpa using h12)).mono ?_; rintro e w' ⟨rfl, rfl⟩) | (go_at_call 16; refine (ci_LongestRising _ _ _ xs _ hr).mono ?_; rintro e w' ⟨rfl, hb⟩))
    go_ret
    exact ⟨ret_int (by unfold remV; rw [hl.out, if_pos h12]), by assumption⟩
  · go_enter Try.func12, Try.ntmps12
    go_wp2_with (go_at_call 37; refine (c_isTwelve false _ _ _ _ (by simpa using h12)).mono ?_; rintro e w' ⟨rfl, rfl⟩)
    go_ret
    exact ⟨ret_int (by unfold remV; rw [hl.out, if_neg h12]), Below.refl _ _⟩

end Go.Proofs.Ytpicnechmdbkfaa

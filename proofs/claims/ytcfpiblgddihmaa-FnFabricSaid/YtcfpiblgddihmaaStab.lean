/- Places ordered by their numbers, as the program does it by the library's stable sort; lists of fewer than 20 numbers. -/
import Derived.Test.YtcfpiblgddihmaaSort2
namespace Go.Proofs.Ytcfpiblgddihmaa
open Go.RowKit

theorem drewN2 (w : World) (a b : Nat) : ∃ m, (w.drewN a).drewN b = w.drewN m := ⟨a + b, by rw [World.drewN_drewN]⟩






































set_option maxHeartbeats 400000 in
theorem c_wires (n : Nat) (w : World) (hn : n ≤ 1048576) :
    Calls Try.prog 25 #[.int .i64 0, .int .i64 n] w fun e w' => ∃ ai ci, e = .returned (.slice ai n ci) ∧ OwI w' 3 w.heap.size ai n ci (rangeI n) ∧ Below w.heap.size w w' := by
  go_enter Try.func25, Try.ntmps25
  go_wp2
  go_loopw [5, 6] (fun l i wr => ∃ k : Nat, ∃ L la lc, k ≤ n ∧ i = .int .i64 k ∧ l = .slice la k lc ∧ Ow wr 3 L la k lc (ints (rangeI k)) ∧ New w.heap.size L ∧ Below w.heap.size w wr) (fun _ i _ => n - (intOf i).toNat)
  case atStart => exact ⟨0, [], _, _, by omega, rfl, rfl, Ow.bare _ _ _, fun _ h => (by cases h), (Below.refl _ _).alloc (Nat.le_refl _) _⟩
  case round =>
    obtain ⟨k, L, la, lc, hk, rfl, rfl, how, hnew, hb⟩ := hrel
    have hsz := hb.size
    by_cases hlt : k < n
    · go_wp2_with (at_builtin; refine wpList_app _ rfl _ _ 23 rfl 3 Try.underlying23 infoInt rfl rfl rfl (how.alloc _) (Rd.one _ _ _) (one_int _) (by omega) (by unfold maxLen; omega) ?_; intro a1 cap1 L1 w1 ow1 kp1 st1)
      go_roundw
      case rel => exact ⟨k + 1, L1, a1, cap1, by omega, by go_num, rfl, by rw [ints_snoc] at ow1; rw [show rangeI (k + 1) = rangeI k ++ [(k : Int)] by simp [rangeI, List.range_succ]]; exact ow1, st1.new hnew (by simp; omega), kp1.below (hb.alloc hsz _) hnew (by simp; omega)⟩
      case measure => simp [intOf]; omega
    · obtain rfl : k = n := by omega
      go_wp2
      go_ret
      exact ⟨_, _, rfl, ⟨L, how, hnew⟩, hb⟩






























































end Go.Proofs.Ytcfpiblgddihmaa

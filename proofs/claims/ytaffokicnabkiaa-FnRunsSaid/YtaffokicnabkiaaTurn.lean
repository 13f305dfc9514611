/- Lists the other way round: the reference's turning, the library's Clone and Reverse. No condition but lengths. -/
import Derived.Test.YtaffokicnabkiaaHelp
import Derived.Test.YtaffokicnabkiaaFlipL
import Derived.Deep.RegionLaw
import Derived.BigRegion
import Derived.Lib.SliceRun
namespace Go.Proofs.Ytaffokicnabkiaa
open Go.RowKit
set_option linter.unusedVariables false

theorem Ow.none0 {w : World} {T : TypeId} {L : List Nat} {a : Option Addr} {n cap : Nat} {vs : List Value} (h : Ow w T L a n cap vs) (ha : a = none) : cap = 0 := by
  rcases Nat.eq_zero_or_pos cap with h0 | h0
  · exact h0
  · obtain ⟨g, _, h2, _⟩ := h.at' h0
    rw [ha] at h2; cases h2


































set_option maxHeartbeats 400000 in
theorem c_Clone (a : Option Addr) (n cap : Nat) (xs : List Int) (w : World) (hr : RdI w a n cap xs) (hn : n ≤ 1048576) :
    Calls Try.prog 39 #[.slice a n cap] w fun e w' => ∃ a' cap', e = .returned (.slice a' n cap') ∧ OwI w' 3 w.heap.size a' n cap' xs ∧ Below w.heap.size w w' := by
  have hw : w.heap.size ≤ w.heap.size := Nat.le_refl _
  cases a with
  | none =>
    obtain rfl : n = 0 := by
      rcases Nat.eq_zero_or_pos n with h | h
      · exact h
      · obtain ⟨b, off, e, _⟩ := hr.int h
        cases e
    obtain rfl : xs = [] := List.eq_nil_of_length_eq_zero hr.lens
    have hnil := fun w' => Go.Lib.run_eql_slice_nil (P := Try.prog) w' 22 3 none 0 cap 0 0 Try.underlying22
    go_enter Try.func39, Try.ntmps39
    go_wp2
    go_ret
    exact ⟨none, 0, rfl, ⟨[], Ow.bare _ _ _, fun _ h => (by cases h)⟩, Below.refl _ _⟩
  | some x =>
    have hnil := fun w' => Go.Lib.run_eql_slice_nil (P := Try.prog) w' 22 3 (some x) n cap 0 0 Try.underlying22
    go_enter Try.func39, Try.ntmps39
    go_wp2_with ((with_reducible show wpList _ _ _ (⟨some 7, _, _, _, _, _⟩ :: _) _ _); refine wpList_app _ rfl _ _ 22 rfl 3 Try.underlying22 infoInt rfl rfl rfl (Ow.bare _ 3 _) (hr.keep (Keeps.alloc [] w _) (fun _ _ h => by cases h)) (one_ints xs) (by omega) (by unfold maxLen; omega) ?_; intro a1 cap1 L1 w1 ow1 kp1 st1)
    simp only [Nat.zero_add, List.nil_append] at ow1
    have n1 : New w.heap.size L1 := fun i hi => by
      rcases st1 i hi with h | h
      · cases h
      · simp at h; omega
    have b1 : Below w.heap.size w w1 := kp1.below ((Below.refl _ _).alloc (Nat.le_refl _) _) (fun _ h => by cases h) (by simp)
    go_ret
    exact ⟨a1, cap1, by simp, ⟨L1, ow1, n1⟩, b1⟩













































end Go.Proofs.Ytaffokicnabkiaa

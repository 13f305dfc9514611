/- Lists the other way round: the reference's turning, the library's Clone and Reverse. No condition but lengths. -/
import Derived.Test.YtiiijijbkacneaaHelp
import Derived.Test.YtiiijijbkacneaaFlipL
import Derived.Deep.RegionLaw
import Derived.BigRegion
import Derived.Lib.SliceRun
namespace Go.Proofs.Ytiiijijbkacneaa
open Go.RowKit
set_option linter.unusedVariables false

theorem Ow.none0 {w : World} {T : TypeId} {L : List Nat} {a : Option Addr} {n cap : Nat} {vs : List Value} (h : Ow w T L a n cap vs) (ha : a = none) : cap = 0 := by
  rcases Nat.eq_zero_or_pos cap with h0 | h0
  · exact h0
  · obtain ⟨g, _, h2, _⟩ := h.at' h0
    rw [ha] at h2; cases h2


































set_option maxHeartbeats 400000 in
theorem c_Clone (a : Option Addr) (n cap : Nat) (xs : List Int) (w : World) (hr : RdI w a n cap xs) (hn : n ≤ 1048576) :
    Calls Try.prog 36 #[.slice a n cap] w fun e w' => ∃ a' cap', e = .returned (.slice a' n cap') ∧ OwI w' 3 w.heap.size a' n cap' xs ∧ Below w.heap.size w w' := by
  have hw : w.heap.size ≤ w.heap.size := Nat.le_refl _
  cases a with
  | none =>
    obtain rfl : n = 0 := by
      rcases Nat.eq_zero_or_pos n with h | h
      · exact h
      · obtain ⟨b, off, e, _⟩ := hr.int h
        cases e
    obtain rfl : xs = [] := List.eq_nil_of_length_eq_zero hr.lens
    have hnil := fun w' => Go.Lib.run_eql_slice_nil (P := Try.prog) w' 24 3 none 0 cap 0 0 Try.underlying24
    go_enter Try.func36, Try.ntmps36
    go_wp2
    go_ret
    exact ⟨none, 0, rfl, ⟨[], Ow.bare _ _ _, fun _ h => (by cases h)⟩, Below.refl _ _⟩
  | some x =>
    have hnil := fun w' => Go.Lib.run_eql_slice_nil (P := Try.prog) w' 24 3 (some x) n cap 0 0 Try.underlying24
    go_enter Try.func36, Try.ntmps36
    go_wp2_with ((with_reducible show wpList _ _ _ (⟨some 7, _, _, _, _, _⟩ :: _) _ _); refine wpList_app _ rfl _ _ 24 rfl 3 Try.underlying24 infoInt rfl rfl rfl (Ow.bare _ 3 _) (hr.keep (Keeps.alloc [] w _) (fun _ _ h => by cases h)) (one_ints xs) (by omega) (by unfold maxLen; omega) ?_; intro a1 cap1 L1 w1 ow1 kp1 st1)
    simp only [Nat.zero_add, List.nil_append] at ow1
    have n1 : New w.heap.size L1 := fun i hi => by
      rcases st1 i hi with h | h
      · cases h
      · simp at h; omega
    have b1 : Below w.heap.size w w1 := kp1.below ((Below.refl _ _).alloc (Nat.le_refl _) _) (fun _ h => by cases h) (by simp)
    go_ret
    exact ⟨a1, cap1, by simp, ⟨L1, ow1, n1⟩, b1⟩



set_option maxHeartbeats 1000000 in
theorem c_Reverse (g n cap k : Nat) (xs : List Int) (w : World) (how : Ow w 3 [g] (some ⟨g, 0, none⟩) n cap (ints xs)) (hk : k ≤ n) (hn : n ≤ 1048576) :
    Calls Try.prog 37 #[.slice (some ⟨g, 0, none⟩) k cap] w fun e w' => e = .returned (.tuple #[]) ∧ Ow w' 3 [g] (some ⟨g, 0, none⟩) n cap (ints (flipL xs k)) ∧ Keeps [g] w w' := by
  have HL := Lib.hid how.lens
  have hle := how.le
  go_enter Try.func37, Try.ntmps37
  go_wp2
  go_loopw [2, 3] (fun i j wr => ∃ p : Nat, 2 * p ≤ k ∧ i = .int .i64 p ∧ j = .int .i64 ((k : Int) - 1 - p) ∧ Ow wr 3 [g] (some ⟨g, 0, none⟩) n cap (ints (revTo xs k p)) ∧ Keeps [g] w wr) (fun i _ _ => k - (intOf i).toNat)
  case atStart => exact ⟨0, by omega, rfl, int_eq (by omega), how, Keeps.refl _ _⟩
  case round =>
    obtain ⟨p, hp, rfl, rfl, ho, kp⟩ := hrel
    by_cases hlt : 2 * (p + 1) ≤ k
    · obtain ⟨g', e1, _, hg, hoc, hof⟩ := ho.int (by omega)
      obtain rfl : g = g' := by simpa using e1
      have c1 := hoc p (by omega)
      have c2 := hoc (k - 1 - p) (by omega)
      have f1 := hof p
      have f2 := hof (k - 1 - p)
      have e1 : ((k : Int) - 1 - p).toNat = k - 1 - p := by omega
      have e2 : ((k : Int) - 1 - p) = ((k - 1 - p : Nat) : Int) := by omega
      obtain ⟨q, hq⟩ : ∃ q, k - 1 - p = q := ⟨_, rfl⟩
      rw [hq] at c2 f2 e1 e2
      rw [e2]
      have hpq : p < q := by omega
      clear hoc hof e1 e2
      go_wp2
      go_region
      all_goals
        go_wp2
        go_roundw
        case rel =>
          refine ⟨p + 1, by omega, by go_num, int_eq (by omega), ?_, kp.trans ((Keeps.drew [g] wr).trans ((Keeps.setCell _ g p _).trans (Keeps.setCell _ g q _) (Step.refl _ _)) (Step.refl _ _)) (Step.refl _ _)⟩
          have h := (ho.drew.set p (.int .i64 (nth (revTo xs k p) q))).set q (.int .i64 (nth (revTo xs k p) p))
          rw [ints_set, ints_set] at h
          simp only [revTo, hq]
          exact h
        case measure => simp [intOf]; omega
    · go_wp2
      go_end0
      exact ⟨rfl, by rw [revTo_flip (by rw [HL.out]; omega) hp (by omega)] at ho; exact ho, kp⟩


end Go.Proofs.Ytiiijijbkacneaa

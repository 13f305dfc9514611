/- RoundsFor of the program returns what the reference's returns, for all arguments. -/
import Derived.Test.YtadoocaionkaiaaRows
import Derived.WalkKit
import Derived.Outline
import Derived.Lib.Hide
import Derived.Deep.QuietTactic
import Derived.BigQuiet
namespace Go.Proofs.Ytadoocaionkaiaa
open Go.RowKit

def RF (r m : Int) (k : Nat) : Prop := r ≤ m ^ k ∧ ∀ j, j < k → m ^ j < r

theorem pow_lt_bd (m : Int) (h : 2 ≤ m) (k : Nat) : (k : Int) < m ^ k := by
  induction k with
  | zero => simp
  | succ k ih =>
    rw [Int.pow_succ]
    have : m ^ k * 2 ≤ m ^ k * m := Int.mul_le_mul_of_nonneg_left h (by omega)
    omega

theorem RF_unique (r m : Int) (a b : Nat) (ha : RF r m a) (hb : RF r m b) : a = b := by
  obtain ⟨a1, a2⟩ := ha
  obtain ⟨b1, b2⟩ := hb
  rcases Nat.lt_trichotomy a b with h | h | h
  · have := b2 a h; omega
  · exact h
  · have := a2 b h; omega

theorem ret_int {k : IntKind} {a b : Int} (h : a = b) : Ending.returned (.int k a) = .returned (.int k b) := by rw [h]

/-- What RoundsFor answers. -/
def RFor (r m : Int) (v : Int) : Prop := if 1 ≤ r ∧ r ≤ 1000000 ∧ 2 ≤ m ∧ m ≤ 16 then ∃ k : Nat, RF r m k ∧ v = k else v = -1
theorem RFor_unique (r m a b : Int) (ha : RFor r m a) (hb : RFor r m b) : a = b := by
  unfold RFor at ha hb
  split at ha
  · rw [if_pos ‹_›] at hb
    obtain ⟨i, hi, rfl⟩ := ha
    obtain ⟨j, hj, rfl⟩ := hb
    rw [RF_unique r m i j hi hj]
  · rw [if_neg ‹_›] at hb
    omega

set_option maxHeartbeats 400000 in
theorem rounds_spec (r m : Int) (w : World) :
    Calls Try.prog 9 #[.int .i64 r, .int .i64 m] w fun e w' => (∃ v, RFor r m v ∧ e = .returned (.int .i64 v)) ∧ w = w' := by
  by_cases h1 : 1 ≤ r
  rotate_left
  · go_enter Try.func9, Try.ntmps9
    go_wp2
    go_ret
    exact ⟨⟨-1, by unfold RFor; rw [if_neg (by omega)], rfl⟩, rfl⟩
  by_cases h2 : r ≤ 1000000
  rotate_left
  · go_enter Try.func9, Try.ntmps9
    go_wp2
    go_ret
    exact ⟨⟨-1, by unfold RFor; rw [if_neg (by omega)], rfl⟩, rfl⟩
  by_cases h3 : 2 ≤ m
  rotate_left
  · go_enter Try.func9, Try.ntmps9
    go_wp2
    go_ret
    exact ⟨⟨-1, by unfold RFor; rw [if_neg (by omega)], rfl⟩, rfl⟩
  by_cases h4 : m ≤ 16
  rotate_left
  · go_enter Try.func9, Try.ntmps9
    go_wp2
    go_ret
    exact ⟨⟨-1, by unfold RFor; rw [if_neg (by omega)], rfl⟩, rfl⟩
  go_enter Try.func9, Try.ntmps9
  go_wp2
  go_loop [5, 6] (fun k n => ∃ j : Nat, j ≤ 1000000 ∧ k = .int .i64 j ∧ n = .int .i64 (m ^ j) ∧ 1 ≤ m ^ j ∧ m ^ j ≤ 16000000 ∧ ∀ i, i < j → m ^ i < r) (fun k _ => 1000000 - (intOf k).toNat)
  case atStart => exact ⟨0, by omega, rfl, by simp, by simp, by simp, by omega⟩
  case round =>
    obtain ⟨j, hj, rfl, rfl, hp1, hp2, hlt⟩ := hrel
    have hb := pow_lt_bd m h3 j
    have hm1 : m ^ j * m ≤ m ^ j * 16 := Int.mul_le_mul_of_nonneg_left h4 (by omega)
    have hm2 : m ^ j * 2 ≤ m ^ j * m := Int.mul_le_mul_of_nonneg_left h3 (by omega)
    have HL := Lib.hid hlt
    clear hlt
    by_cases hc : m ^ j < r
    · go_wp2
      go_round
      case rel => exact ⟨j + 1, by omega, by go_num, by rw [Int.pow_succ], by rw [Int.pow_succ]; omega, by rw [Int.pow_succ]; omega, fun i hi => by
        rcases Nat.lt_or_ge i j with h | h
        · exact HL.out i h
        · obtain rfl : i = j := by omega
          exact hc⟩
      case measure => simp [intOf]; omega
    · go_wp2
      go_ret
      exact ⟨⟨_, by unfold RFor; rw [if_pos ⟨h1, h2, h3, h4⟩]; exact ⟨j, ⟨by omega, HL.out⟩, rfl⟩, rfl⟩, rfl⟩

set_option maxHeartbeats 400000 in
theorem rounds_impl (r m : Int) (w : World) :
    Calls Try.prog 10 #[.int .i64 r, .int .i64 m] w fun e w' => (∃ v, RFor r m v ∧ e = .returned (.int .i64 v)) ∧ w = w' := by
  by_cases h1 : 1 ≤ r
  rotate_left
  · go_enter Try.func10, Try.ntmps10
    go_wp2
    go_ret
    exact ⟨⟨-1, by unfold RFor; rw [if_neg (by omega)], rfl⟩, rfl⟩
  by_cases h2 : r ≤ 1000000
  rotate_left
  · go_enter Try.func10, Try.ntmps10
    go_wp2
    go_ret
    exact ⟨⟨-1, by unfold RFor; rw [if_neg (by omega)], rfl⟩, rfl⟩
  by_cases h3 : 2 ≤ m
  rotate_left
  · go_enter Try.func10, Try.ntmps10
    go_wp2
    go_ret
    exact ⟨⟨-1, by unfold RFor; rw [if_neg (by omega)], rfl⟩, rfl⟩
  by_cases h4 : m ≤ 16
  rotate_left
  · go_enter Try.func10, Try.ntmps10
    go_wp2
    go_ret
    exact ⟨⟨-1, by unfold RFor; rw [if_neg (by omega)], rfl⟩, rfl⟩
  go_enter Try.func10, Try.ntmps10
  go_wp2
  go_loop [5, 6] (fun k n => ∃ j : Nat, j ≤ 1000000 ∧ k = .int .i64 j ∧ n = .int .i64 (m ^ j) ∧ 1 ≤ m ^ j ∧ m ^ j ≤ 16000000 ∧ ∀ i, i < j → m ^ i < r) (fun k _ => 1000000 - (intOf k).toNat)
  case atStart => exact ⟨0, by omega, rfl, by simp, by simp, by simp, by omega⟩
  case round =>
    obtain ⟨j, hj, rfl, rfl, hp1, hp2, hlt⟩ := hrel
    have hb := pow_lt_bd m h3 j
    have hm1 : m ^ j * m ≤ m ^ j * 16 := Int.mul_le_mul_of_nonneg_left h4 (by omega)
    have hm2 : m ^ j * 2 ≤ m ^ j * m := Int.mul_le_mul_of_nonneg_left h3 (by omega)
    have HL := Lib.hid hlt
    clear hlt
    by_cases hc : m ^ j < r
    · go_wp2
      go_round
      case rel => exact ⟨j + 1, by omega, by go_num, by rw [Int.pow_succ], by rw [Int.pow_succ]; omega, by rw [Int.pow_succ]; omega, fun i hi => by
        rcases Nat.lt_or_ge i j with h | h
        · exact HL.out i h
        · obtain rfl : i = j := by omega
          exact hc⟩
      case measure => simp [intOf]; omega
    · go_wp2
      go_ret
      exact ⟨⟨_, by unfold RFor; rw [if_pos ⟨h1, h2, h3, h4⟩]; exact ⟨j, ⟨by omega, HL.out⟩, rfl⟩, rfl⟩, rfl⟩

theorem fnRounds (a0 : Int) (a1 : Int) (w : World) :
    Calls Try.prog 3 #[.int .i64 a0, .int .i64 a1] w fun e w' => e = .returned (.bool true) ∧ w = w' := by
  go_enter Try.func3, Try.ntmps3
  go_wp2_with fail
  refine (rounds_spec _ _ _).mono ?_
  rintro e w' ⟨⟨v, hv, rfl⟩, rfl⟩
  go_wp2_with fail
  refine (rounds_impl _ _ _).mono ?_
  rintro e w' ⟨⟨u, hu, rfl⟩, rfl⟩
  obtain rfl := RFor_unique _ _ _ _ hu hv
  go_wp2_with fail
  go_ret
  exact ⟨rfl, rfl⟩
end Go.Proofs.Ytadoocaionkaiaa

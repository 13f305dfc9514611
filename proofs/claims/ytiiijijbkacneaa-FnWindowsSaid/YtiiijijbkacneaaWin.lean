/- Windows of a list: the program's slice of slices, the two tests, counts. No condition but lengths. -/
import Derived.Test.YtiiijijbkacneaaHelp
import Derived.Test.YtiiijijbkacneaaIn
import Derived.Test.YtiiijijbkacneaaFlipL
import Derived.WalkLawsBesides
namespace Go.Proofs.Ytiiijijbkacneaa
open Go.RowKit
set_option linter.unusedVariables false

theorem infoSlW : (Try.prog.info? 24).map (fun i => (i.zero, i.size, i.bytes)) = some (some (.slice none 0 0), 1, 24) := by kernel_rfl
/-- The window at place i. -/
def winL (xs : List Int) (i wd : Nat) : List Int := (xs.take (i + wd)).drop i
theorem winL_len {xs : List Int} {i wd : Nat} (h : i + wd ≤ xs.length) : (winL xs i wd).length = wd := by simp [winL]; omega
theorem nth_winL {xs : List Int} {i wd j : Nat} (h : j < wd) : nth (winL xs i wd) j = nth xs (i + j) := by
  unfold winL; rw [nth_dropL, nth_takeL _ _ _ (by omega)]
def winV (a : Option Addr) (cap wd i : Nat) : Value := .slice (cutAt cap i a) wd (cap - i)
/-- How many windows. -/
def winN (n wd : Nat) : Nat := n + 1 - wd
def okWin (n : Nat) (k : Int) : Bool := decide (n ≤ 24) && decide (1 ≤ k ∧ k ≤ 24)
theorem okWin_yes {n : Nat} {k : Int} (h : okWin n k = true) : n ≤ 24 ∧ 1 ≤ k ∧ k ≤ 24 := by simp [okWin] at h; omega
theorem Rd.win {w : World} {a : Option Addr} {n cap : Nat} {xs : List Int} (h : RdI w a n cap xs) {i wd : Nat} (h1 : i + wd ≤ n) : RdI w (cutAt cap i a) wd (cap - i) (winL xs i wd) := by
  have h2 := h.cut i (i + wd) (by omega) h1
  rw [ints_take, ints_drop, Nat.add_sub_cancel_left] at h2
  exact h2





















theorem c_windows_no (a : Option Addr) (n cap : Nat) (k : Int) (w : World) (h : okWin n k = false) :
    Calls Try.prog 51 #[.slice a n cap, .int .i64 k] w fun e w' => e = .returned (.tuple #[.slice none 0 0, .bool false]) ∧ w' = w := by
  by_cases h1 : n ≤ 24
  · by_cases h2 : k < 1
    · go_enter Try.func51, Try.ntmps51
      go_wp2
      go_ret2
      exact ⟨rfl, rfl⟩
    · have h3 : ¬ k ≤ 24 := fun h3 => by
        unfold okWin at h; rw [decide_eq_true h1, decide_eq_true (by omega)] at h; cases h
      go_enter Try.func51, Try.ntmps51
      go_wp2
      go_ret2
      exact ⟨rfl, rfl⟩
  · go_enter Try.func51, Try.ntmps51
    go_wp2
    go_ret2
    exact ⟨rfl, rfl⟩

set_option maxHeartbeats 1000000 in
theorem c_windows (a : Option Addr) (n cap wd : Nat) (xs : List Int) (w : World) (hr : RdI w a n cap xs) (hn : n ≤ 24) (h1 : 1 ≤ wd) (h24 : wd ≤ 24) :
    Calls Try.prog 51 #[.slice a n cap, .int .i64 wd] w fun e w' => ∃ oa oc L, e = .returned (.tuple #[.slice oa (winN n wd) oc, .bool true]) ∧ Ow w' 24 L oa (winN n wd) oc ((List.range (winN n wd)).map (winV a cap wd)) ∧ New w.heap.size L ∧ Below w.heap.size w w' := by
  have HCAP := Lib.hid hr.le
  have hmx := hr.max
  unfold maxLen at hmx
  go_enter Try.func51, Try.ntmps51
  go_wp2
  go_loopw [6, 7] (fun l i wr => ∃ k : Nat, ∃ L la lc, k ≤ winN n wd ∧ i = .int .i64 k ∧ l = .slice la k lc ∧ Ow wr 24 L la k lc ((List.range k).map (winV a cap wd)) ∧ New w.heap.size L ∧ Below w.heap.size w wr) (fun _ i _ => n + 1 - (intOf i).toNat)
  case atStart => exact ⟨0, [], _, _, by omega, rfl, rfl, Ow.bare _ _ _, fun _ h => (by cases h), (Below.refl _ _).alloc (Nat.le_refl _) _⟩
  case round =>
    obtain ⟨k, L, la, lc, hk, rfl, rfl, how, hnew, hb⟩ := hrel
    unfold winN at hk
    by_cases hlt : k + wd ≤ n
    · have hsz := hb.size
      have hrk := hr.below hb
      go_wp2_with (first | ((with_reducible show wpList _ _ _ (⟨some 34, _, _, _, _, _⟩ :: _) _ _); refine wpList_cut _ rfl (.tmp 29) (.tmp 30) (.tmp 33) 24 rfl 3 Try.underlying24 szInt k (k + wd) rfl rfl (by rfl) rfl (by simp; try omega) hrk (by omega) (by omega) ?_; intro a2 ha2 r2; have HA2 := Lib.hid ha2; clear ha2) | ((with_reducible show wpList _ _ _ (⟨some 36, _, _, _, _, _⟩ :: _) _ _); refine wpList_app _ rfl _ _ 35 rfl 24 Try.underlying35 infoSlW rfl rfl rfl (how.alloc _) (Rd.one _ _ _) (one_slice _ _ _) (by omega) (by unfold maxLen; omega) ?_; intro a1 cap1 L1 w1 ow1 kp1 st1))
      have n1 : New w.heap.size L1 := st1.new hnew (by simp; omega)
      have b1 : Below w.heap.size w w1 := kp1.below (hb.alloc hsz _) hnew (by simp; omega)
      go_roundw
      case rel => exact ⟨k + 1, L1, a1, cap1, by unfold winN; omega, by go_num, rfl, by
        have e : Value.slice a2 wd (cap - k) = winV a cap wd k := by rw [HA2.out]; rfl
        rw [e] at ow1
        rw [List.range_succ, List.map_append]; exact ow1, n1, b1⟩
      case measure => simp [intOf]; omega
    · obtain rfl : k = winN n wd := by unfold winN; omega
      go_wp2
      go_ret2
      exact ⟨la, lc, L, rfl, how, hnew, hb⟩


end Go.Proofs.Ytiiijijbkacneaa

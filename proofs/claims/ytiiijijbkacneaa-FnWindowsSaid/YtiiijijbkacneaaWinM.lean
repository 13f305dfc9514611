/- The least and the greatest numbers of windows. No condition but lengths. -/
import Derived.Test.YtiiijijbkacneaaWinW
namespace Go.Proofs.Ytiiijijbkacneaa
open Go.RowKit
set_option linter.unusedVariables false

theorem OwI.rd' {w : World} {T : TypeId} {B : Nat} {a : Option Addr} {n cap : Nat} {xs : List Int} (h : OwI w T B a n cap xs) : RdI w a n cap xs := by
  obtain ⟨L, h1, _⟩ := h
  exact h1.rd
theorem winMap_congr {g h : List Int → Int} {xs : List Int} {wd k : Nat} (e : ∀ i, i < k → g (winL xs i wd) = h (winL xs i wd)) : winMap g xs wd k = winMap h xs wd k := by
  unfold winMap
  exact List.map_congr_left fun i hi => e i (List.mem_range.1 hi)
def placeF (p : Nat) (ys : List Int) : Int := nth (sortTo ltI ys ys.length) p












































def minUp (ys : List Int) : Nat → Int
  | 0 => nth ys 0
  | j + 1 => min (minUp ys j) (nth ys (j + 1))
def minF (ys : List Int) : Int := minUp ys (ys.length - 1)
theorem minUp_le (ys : List Int) (j i : Nat) (h : i ≤ j) : minUp ys j ≤ nth ys i := by
  induction j with
  | zero => obtain rfl : i = 0 := by omega
            exact Int.le_refl _
  | succ j ih =>
    simp only [minUp]
    rcases Nat.lt_or_ge j i with h1 | h1
    · obtain rfl : i = j + 1 := by omega
      omega
    · have := ih h1; omega
theorem minUp_mem (ys : List Int) (j : Nat) : ∃ i, i ≤ j ∧ minUp ys j = nth ys i := by
  induction j with
  | zero => exact ⟨0, by omega, rfl⟩
  | succ j ih =>
    obtain ⟨i, hi, e⟩ := ih
    simp only [minUp]
    rcases Int.le_total (minUp ys j) (nth ys (j + 1)) with h | h
    · exact ⟨i, by omega, by rw [← e]; omega⟩
    · exact ⟨j + 1, by omega, by omega⟩
theorem minF_eq {ys : List Int} (h : 1 ≤ ys.length) : minF ys = placeF (0) ys := by
  have hp := sortTo_perm ltI ys ys.length (Nat.le_refl _)
  rw [List.take_of_length_le (Nat.le_refl _)] at hp
  have hs := srt_sortTo ys ys.length
  have hl : (sortTo ltI ys ys.length).length = ys.length := sortTo_len _ _ _
  have hs' : Srt (sortTo ltI ys ys.length) := hs
  unfold placeF minF
  generalize sortTo ltI ys ys.length = s at hp hs' hl ⊢
  obtain ⟨i, hi, e⟩ := minUp_mem ys (ys.length - 1)
  have h1 : nth ys i ∈ s := hp.symm.subset (nth_mem (by omega))
  obtain ⟨q, hq, hqe⟩ := List.getElem_of_mem h1
  rw [← nth_eq hq] at hqe
  have h2 : nth s (0) ∈ ys := hp.subset (nth_mem (by omega))
  obtain ⟨r, hr, hre⟩ := List.getElem_of_mem h2
  rw [← nth_eq hr] at hre
  have h3 := minUp_le ys (ys.length - 1) r (by omega)
  have h4 : nth s 0 ≤ nth s q := by
    rcases Nat.lt_trichotomy q (0) with h5 | h5 | h5
    · omega
    · subst h5; exact Int.le_refl _
    · exact hs' _ _ h5 hq
  omega


set_option maxHeartbeats 400000 in
theorem c_Min (a : Option Addr) (n cap : Nat) (ys : List Int) (w : World) (hr : RdI w a n cap ys) (h1 : 1 ≤ n) (hn : n ≤ 1048576) :
    Calls Try.prog 48 #[.slice a n cap] w fun e w' => e = .returned (.int .i64 (minF ys)) ∧ w' = w := by
  have HL := Lib.hid hr.lens
  obtain ⟨b, off, rfl, _, hc⟩ := hr.int (by omega)
  have HC := Lib.hid hc
  have c0 := hc 0 (by omega)
  rw [Nat.add_zero] at c0
  clear hc
  have hlt1 : ¬ (n : Int) < 1 := by omega
  go_enter Try.func48, Try.ntmps48
  go_wp2
  go_loop [3, 4] (fun v i => ∃ k : Nat, 1 ≤ k ∧ k ≤ n ∧ i = .int .i64 k ∧ v = .int .i64 (minUp ys (k - 1))) (fun _ i => n - (intOf i).toNat)
  case atStart => exact ⟨1, by omega, by omega, by simp, rfl⟩
  case round =>
    obtain ⟨k, hk1, hk, rfl, rfl⟩ := hrel
    by_cases hlt : k < n
    · have c1 := HC.out k hlt
      go_wp2
      go_round
      case rel => exact ⟨k + 1, by omega, by omega, by go_num, int_eq (by
        obtain ⟨q, rfl⟩ : ∃ q, k = q + 1 := ⟨k - 1, by omega⟩
        simp only [Nat.add_sub_cancel, minUp]; split <;> omega)⟩
      case measure => simp [intOf]; omega
    · obtain rfl : n = k := by omega
      go_wp2
      go_ret
      exact ⟨ret_int (by unfold minF; rw [HL.out]), rfl⟩


def maxUp (ys : List Int) : Nat → Int
  | 0 => nth ys 0
  | j + 1 => max (maxUp ys j) (nth ys (j + 1))
def maxF (ys : List Int) : Int := maxUp ys (ys.length - 1)
theorem maxUp_le (ys : List Int) (j i : Nat) (h : i ≤ j) : nth ys i ≤ maxUp ys j := by
  induction j with
  | zero => obtain rfl : i = 0 := by omega
            exact Int.le_refl _
  | succ j ih =>
    simp only [maxUp]
    rcases Nat.lt_or_ge j i with h1 | h1
    · obtain rfl : i = j + 1 := by omega
      omega
    · have := ih h1; omega
theorem maxUp_mem (ys : List Int) (j : Nat) : ∃ i, i ≤ j ∧ maxUp ys j = nth ys i := by
  induction j with
  | zero => exact ⟨0, by omega, rfl⟩
  | succ j ih =>
    obtain ⟨i, hi, e⟩ := ih
    simp only [maxUp]
    rcases Int.le_total (maxUp ys j) (nth ys (j + 1)) with h | h
    · exact ⟨j + 1, by omega, by omega⟩
    · exact ⟨i, by omega, by rw [← e]; omega⟩
theorem maxF_eq {ys : List Int} (h : 1 ≤ ys.length) : maxF ys = placeF (ys.length - 1) ys := by
  have hp := sortTo_perm ltI ys ys.length (Nat.le_refl _)
  rw [List.take_of_length_le (Nat.le_refl _)] at hp
  have hs := srt_sortTo ys ys.length
  have hl : (sortTo ltI ys ys.length).length = ys.length := sortTo_len _ _ _
  have hs' : Srt (sortTo ltI ys ys.length) := hs
  unfold placeF maxF
  generalize sortTo ltI ys ys.length = s at hp hs' hl ⊢
  obtain ⟨i, hi, e⟩ := maxUp_mem ys (ys.length - 1)
  have h1 : nth ys i ∈ s := hp.symm.subset (nth_mem (by omega))
  obtain ⟨q, hq, hqe⟩ := List.getElem_of_mem h1
  rw [← nth_eq hq] at hqe
  have h2 : nth s (ys.length - 1) ∈ ys := hp.subset (nth_mem (by omega))
  obtain ⟨r, hr, hre⟩ := List.getElem_of_mem h2
  rw [← nth_eq hr] at hre
  have h3 := maxUp_le ys (ys.length - 1) r (by omega)
  have h4 : nth s q ≤ nth s (ys.length - 1) := by
    rcases Nat.lt_trichotomy q (ys.length - 1) with h5 | h5 | h5
    · exact hs' _ _ h5 (by omega)
    · subst h5; exact Int.le_refl _
    · omega
  omega


set_option maxHeartbeats 400000 in
theorem c_Max (a : Option Addr) (n cap : Nat) (ys : List Int) (w : World) (hr : RdI w a n cap ys) (h1 : 1 ≤ n) (hn : n ≤ 1048576) :
    Calls Try.prog 50 #[.slice a n cap] w fun e w' => e = .returned (.int .i64 (maxF ys)) ∧ w' = w := by
  have HL := Lib.hid hr.lens
  obtain ⟨b, off, rfl, _, hc⟩ := hr.int (by omega)
  have HC := Lib.hid hc
  have c0 := hc 0 (by omega)
  rw [Nat.add_zero] at c0
  clear hc
  have hlt1 : ¬ (n : Int) < 1 := by omega
  go_enter Try.func50, Try.ntmps50
  go_wp2
  go_loop [3, 4] (fun v i => ∃ k : Nat, 1 ≤ k ∧ k ≤ n ∧ i = .int .i64 k ∧ v = .int .i64 (maxUp ys (k - 1))) (fun _ i => n - (intOf i).toNat)
  case atStart => exact ⟨1, by omega, by omega, by simp, rfl⟩
  case round =>
    obtain ⟨k, hk1, hk, rfl, rfl⟩ := hrel
    by_cases hlt : k < n
    · have c1 := HC.out k hlt
      go_wp2
      go_round
      case rel => exact ⟨k + 1, by omega, by omega, by go_num, int_eq (by
        obtain ⟨q, rfl⟩ : ∃ q, k = q + 1 := ⟨k - 1, by omega⟩
        simp only [Nat.add_sub_cancel, maxUp]; split <;> omega)⟩
      case measure => simp [intOf]; omega
    · obtain rfl : n = k := by omega
      go_wp2
      go_ret
      exact ⟨ret_int (by unfold maxF; rw [HL.out]), rfl⟩



theorem c_WindowLeast1 (a : Option Addr) (n cap : Nat) (ys : List Int) (w : World) (hr : RdI w a n cap ys) (h1 : 1 ≤ n) (h24 : n ≤ 24) :
    Calls Try.prog 47 #[.slice a n cap] w fun e w' => e = .returned (.int .i64 (minF ys)) ∧ Below w.heap.size w w' := by
  go_enter Try.func47, Try.ntmps47
  go_wp2_with fail
  refine (c_Min a n cap ys _ hr h1 (by omega)).mono ?_
  rintro e w' ⟨rfl, rfl⟩
  go_wp2
  go_ret
  exact ⟨rfl, Below.refl _ _⟩

theorem ci_WindowLeast (a : Option Addr) (n cap : Nat) (xs : List Int) (k : Int) (w : World) (hr : RdI w a n cap xs) :
    Calls Try.prog 22 #[.slice a n cap, .int .i64 k] w fun e w' => ∃ sa sn sc, e = .returned (.slice sa sn sc) ∧ OwI w' 3 w.heap.size sa sn sc (wmV minF xs k) ∧ sn ≤ 1048576 ∧ Below w.heap.size w w' := by
  go_enter Try.func22, Try.ntmps22
  go_wp2_with fail
  refine (c_ofWindows minF 47 (fun _ _ => by kernel_rfl) (fun a n cap ys w h1 h2 h3 => c_WindowLeast1 a n cap ys w h1 h2 h3) a n cap xs k _ hr).mono ?_
  rintro e w' ⟨sa, sn, sc, rfl, h1, h2, h3⟩
  go_wp2
  go_ret
  exact ⟨sa, sn, sc, rfl, h1, h2, h3⟩





























theorem c_WindowGreatest1 (a : Option Addr) (n cap : Nat) (ys : List Int) (w : World) (hr : RdI w a n cap ys) (h1 : 1 ≤ n) (h24 : n ≤ 24) :
    Calls Try.prog 49 #[.slice a n cap] w fun e w' => e = .returned (.int .i64 (maxF ys)) ∧ Below w.heap.size w w' := by
  go_enter Try.func49, Try.ntmps49
  go_wp2_with fail
  refine (c_Max a n cap ys _ hr h1 (by omega)).mono ?_
  rintro e w' ⟨rfl, rfl⟩
  go_wp2
  go_ret
  exact ⟨rfl, Below.refl _ _⟩

theorem ci_WindowGreatest (a : Option Addr) (n cap : Nat) (xs : List Int) (k : Int) (w : World) (hr : RdI w a n cap xs) :
    Calls Try.prog 23 #[.slice a n cap, .int .i64 k] w fun e w' => ∃ sa sn sc, e = .returned (.slice sa sn sc) ∧ OwI w' 3 w.heap.size sa sn sc (wmV maxF xs k) ∧ sn ≤ 1048576 ∧ Below w.heap.size w w' := by
  go_enter Try.func23, Try.ntmps23
  go_wp2_with fail
  refine (c_ofWindows maxF 49 (fun _ _ => by kernel_rfl) (fun a n cap ys w h1 h2 h3 => c_WindowGreatest1 a n cap ys w h1 h2 h3) a n cap xs k _ hr).mono ?_
  rintro e w' ⟨sa, sn, sc, rfl, h1, h2, h3⟩
  go_wp2
  go_ret
  exact ⟨sa, sn, sc, rfl, h1, h2, h3⟩





























end Go.Proofs.Ytiiijijbkacneaa

/- The least and the greatest numbers of windows. No condition but lengths. -/
import Derived.Test.YtmbapbkmllefcaaWinW
namespace Go.Proofs.Ytmbapbkmllefcaa
open Go.RowKit
set_option linter.unusedVariables false

theorem OwI.rd' {w : World} {T : TypeId} {B : Nat} {a : Option Addr} {n cap : Nat} {xs : List Int} (h : OwI w T B a n cap xs) : RdI w a n cap xs := by
  obtain ⟨L, h1, _⟩ := h
  exact h1.rd
theorem winMap_congr {g h : List Int → Int} {xs : List Int} {wd k : Nat} (e : ∀ i, i < k → g (winL xs i wd) = h (winL xs i wd)) : winMap g xs wd k = winMap h xs wd k := by
  unfold winMap
  exact List.map_congr_left fun i hi => e i (List.mem_range.1 hi)
def placeF (p : Nat) (ys : List Int) : Int := nth (sortTo ltI ys ys.length) p


set_option maxHeartbeats 1000000 in
theorem c_l23Place (a : Option Addr) (n cap wd p : Nat) (xs : List Int) (w : World) (hr : RdI w a n cap xs) (hn : n ≤ 24) (h24 : wd ≤ 24) (hp : p < wd) :
    Calls Try.prog 20 #[.slice a n cap, .int .i64 wd, .int .i64 p] w fun e w' => ∃ sa sc, e = .returned (.slice sa (winN n wd) sc) ∧ OwI w' 3 w.heap.size sa (winN n wd) sc (winMap (placeF p) xs wd (winN n wd)) ∧ Below w.heap.size w w' := by
  have HL := Lib.hid hr.lens
  have hm : winN n wd ≤ 25 := by unfold winN; omega
  go_enter Try.func20, Try.ntmps20
  go_wp2
  go_loopw [7, 8] (fun l i wr => ∃ j : Nat, ∃ M la lc, j ≤ winN n wd ∧ i = .int .i64 j ∧ l = .slice la j lc ∧ Ow wr 3 M la j lc (ints (winMap (placeF p) xs wd j)) ∧ New w.heap.size M ∧ Below w.heap.size w wr) (fun _ i _ => n + 1 - (intOf i).toNat)
  case atStart => exact ⟨0, [], _, _, by omega, rfl, rfl, Ow.bare _ _ _, fun _ h => (by cases h), (Below.refl _ _).alloc (Nat.le_refl _) _⟩
  case round =>
    obtain ⟨j, M, la, lc, hj, rfl, rfl, hom, hnm, hbj⟩ := hrel
    by_cases hjw : j + wd ≤ n
    · have hlt : j < winN n wd := by unfold winN; omega
      have hrj := hr.below hbj
      go_wp2_with ((with_reducible show wpList _ _ _ (⟨some 24, _, _, _, _, _⟩ :: _) _ _); refine wpList_cut _ rfl (.tmp 19) (.tmp 20) (.tmp 23) 22 rfl 3 Try.underlying22 szInt j (j + wd) rfl rfl (by rfl) rfl (by simp; try omega) hrj (by omega) (by omega) ?_; intro a2 ha2 r2; clear ha2)
      simp only [Nat.add_sub_cancel_left] at *
      have rw1 : RdI wr a2 wd (cap - j) (winL xs j wd) := by rw [ints_take, ints_drop] at r2; exact r2
      clear r2
      have HWL := Lib.hid (winL_len (xs := xs) (i := j) (wd := wd) (by rw [HL.out]; exact hjw))
      refine (c_l08Sort a2 wd (cap - j) (winL xs j wd) _ rw1 (by omega)).mono ?_
      rintro e w2 ⟨ai, ci, rfl, ⟨Li, owi, ni⟩, b2⟩
      obtain ⟨gi, rfl, rfl, _, hic, _⟩ := owi.int (by have := owi.le; omega)
      have c1 := hic p hp
      have e1 : nth (sortTo ltI (winL xs j wd) wd) p = placeF p (winL xs j wd) := by unfold placeF; rw [HWL.out]
      rw [e1] at c1
      clear hic e1
      have hb2 := Below.nx hbj b2
      have hsz := hb2.size
      have hom2 := (hom.below b2).alloc (.cells #[.int .i64 (placeF p (winL xs j wd))] 3)
      go_wp2_with (at_builtin; refine wpList_app _ rfl _ _ 22 rfl 3 Try.underlying22 infoInt rfl rfl rfl hom2 (Rd.one _ _ _) (one_int _) (by omega) (by unfold maxLen; omega) ?_; intro a3 cap3 L3 w3 ow3 kp3 st3)
      have n3 : New w.heap.size L3 := st3.new hnm (by simp; omega)
      have b3 : Below w.heap.size w w3 := kp3.below (hb2.alloc hsz _) hnm (by simp; omega)
      go_roundw
      case rel => exact ⟨j + 1, L3, a3, cap3, by omega, by go_num, rfl, by
        rw [ints_snoc, ← winMap_succ] at ow3; exact ow3, n3, b3⟩
      case measure => simp [intOf]; omega
    · obtain rfl : j = winN n wd := by unfold winN at hj ⊢; omega
      go_wp2_with fail
      go_ret
      exact ⟨la, lc, rfl, ⟨M, hom, hnm⟩, hbj⟩


def minUp (ys : List Int) : Nat → Int
  | 0 => nth ys 0
  | j + 1 => min (minUp ys j) (nth ys (j + 1))
def minF (ys : List Int) : Int := minUp ys (ys.length - 1)
theorem minUp_le (ys : List Int) (j i : Nat) (h : i ≤ j) : minUp ys j ≤ nth ys i := by
  induction j with
  | zero => obtain rfl : i = 0 := by omega
            exact Int.le_refl _
  | succ j ih =>
    simp only [minUp]
    rcases Nat.lt_or_ge j i with h1 | h1
    · obtain rfl : i = j + 1 := by omega
      omega
    · have := ih h1; omega
theorem minUp_mem (ys : List Int) (j : Nat) : ∃ i, i ≤ j ∧ minUp ys j = nth ys i := by
  induction j with
  | zero => exact ⟨0, by omega, rfl⟩
  | succ j ih =>
    obtain ⟨i, hi, e⟩ := ih
    simp only [minUp]
    rcases Int.le_total (minUp ys j) (nth ys (j + 1)) with h | h
    · exact ⟨i, by omega, by rw [← e]; omega⟩
    · exact ⟨j + 1, by omega, by omega⟩
theorem minF_eq {ys : List Int} (h : 1 ≤ ys.length) : minF ys = placeF (0) ys := by
  have hp := sortTo_perm ltI ys ys.length (Nat.le_refl _)
  rw [List.take_of_length_le (Nat.le_refl _)] at hp
  have hs := srt_sortTo ys ys.length
  have hl : (sortTo ltI ys ys.length).length = ys.length := sortTo_len _ _ _
  have hs' : Srt (sortTo ltI ys ys.length) := hs
  unfold placeF minF
  generalize sortTo ltI ys ys.length = s at hp hs' hl ⊢
  obtain ⟨i, hi, e⟩ := minUp_mem ys (ys.length - 1)
  have h1 : nth ys i ∈ s := hp.symm.subset (nth_mem (by omega))
  obtain ⟨q, hq, hqe⟩ := List.getElem_of_mem h1
  rw [← nth_eq hq] at hqe
  have h2 : nth s (0) ∈ ys := hp.subset (nth_mem (by omega))
  obtain ⟨r, hr, hre⟩ := List.getElem_of_mem h2
  rw [← nth_eq hr] at hre
  have h3 := minUp_le ys (ys.length - 1) r (by omega)
  have h4 : nth s 0 ≤ nth s q := by
    rcases Nat.lt_trichotomy q (0) with h5 | h5 | h5
    · omega
    · subst h5; exact Int.le_refl _
    · exact hs' _ _ h5 hq
  omega
































def maxUp (ys : List Int) : Nat → Int
  | 0 => nth ys 0
  | j + 1 => max (maxUp ys j) (nth ys (j + 1))
def maxF (ys : List Int) : Int := maxUp ys (ys.length - 1)
theorem maxUp_le (ys : List Int) (j i : Nat) (h : i ≤ j) : nth ys i ≤ maxUp ys j := by
  induction j with
  | zero => obtain rfl : i = 0 := by omega
            exact Int.le_refl _
  | succ j ih =>
    simp only [maxUp]
    rcases Nat.lt_or_ge j i with h1 | h1
    · obtain rfl : i = j + 1 := by omega
      omega
    · have := ih h1; omega
theorem maxUp_mem (ys : List Int) (j : Nat) : ∃ i, i ≤ j ∧ maxUp ys j = nth ys i := by
  induction j with
  | zero => exact ⟨0, by omega, rfl⟩
  | succ j ih =>
    obtain ⟨i, hi, e⟩ := ih
    simp only [maxUp]
    rcases Int.le_total (maxUp ys j) (nth ys (j + 1)) with h | h
    · exact ⟨j + 1, by omega, by omega⟩
    · exact ⟨i, by omega, by rw [← e]; omega⟩
theorem maxF_eq {ys : List Int} (h : 1 ≤ ys.length) : maxF ys = placeF (ys.length - 1) ys := by
  have hp := sortTo_perm ltI ys ys.length (Nat.le_refl _)
  rw [List.take_of_length_le (Nat.le_refl _)] at hp
  have hs := srt_sortTo ys ys.length
  have hl : (sortTo ltI ys ys.length).length = ys.length := sortTo_len _ _ _
  have hs' : Srt (sortTo ltI ys ys.length) := hs
  unfold placeF maxF
  generalize sortTo ltI ys ys.length = s at hp hs' hl ⊢
  obtain ⟨i, hi, e⟩ := maxUp_mem ys (ys.length - 1)
  have h1 : nth ys i ∈ s := hp.symm.subset (nth_mem (by omega))
  obtain ⟨q, hq, hqe⟩ := List.getElem_of_mem h1
  rw [← nth_eq hq] at hqe
  have h2 : nth s (ys.length - 1) ∈ ys := hp.subset (nth_mem (by omega))
  obtain ⟨r, hr, hre⟩ := List.getElem_of_mem h2
  rw [← nth_eq hr] at hre
  have h3 := maxUp_le ys (ys.length - 1) r (by omega)
  have h4 : nth s q ≤ nth s (ys.length - 1) := by
    rcases Nat.lt_trichotomy q (ys.length - 1) with h5 | h5 | h5
    · exact hs' _ _ h5 (by omega)
    · subst h5; exact Int.le_refl _
    · omega
  omega

































































































































end Go.Proofs.Ytmbapbkmllefcaa

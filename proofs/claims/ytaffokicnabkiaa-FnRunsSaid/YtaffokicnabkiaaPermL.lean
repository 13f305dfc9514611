/- Orders as plain lists: the test, and what it tells. -/
import Derived.Test.YtaffokicnabkiaaMem
namespace Go.Proofs.Ytaffokicnabkiaa
open Go.RowKit

/-- Which numbers are seen among the first k. -/
def seenTo (xs : List Int) (n : Nat) : Nat → List Bool
  | 0 => List.replicate n false
  | k + 1 => (seenTo xs n k).set (nth xs k).toNat true
def okAt (xs : List Int) (n k : Nat) : Bool := decide (0 ≤ nth xs k) && decide (nth xs k < n) && !((seenTo xs n k).getD (nth xs k).toNat false)
def okTo (xs : List Int) (n : Nat) : Nat → Bool
  | 0 => true
  | k + 1 => okTo xs n k && okAt xs n k
def isPerm (xs : List Int) : Bool := decide (xs.length ≤ 8) && okTo xs xs.length xs.length
theorem okTo_no {xs : List Int} {n k m : Nat} (h : k < m) (h1 : okAt xs n k = false) : okTo xs n m = false := by
  induction m with
  | zero => omega
  | succ m ih =>
    simp only [okTo]
    rcases Nat.lt_or_ge k m with h2 | h2
    · rw [ih h2]; rfl
    · obtain rfl : k = m := by omega
      rw [h1]; simp
theorem okTo_neg {xs : List Int} {n k : Nat} (h : nth xs k < 0) : okAt xs n k = false := by
  unfold okAt; rw [decide_eq_false (by omega)]; rfl
theorem okTo_big {xs : List Int} {n k : Nat} (h : (n : Int) ≤ nth xs k) : okAt xs n k = false := by
  unfold okAt; rw [decide_eq_false (p := nth xs k < n) (by omega)]; simp
theorem okTo_dup {xs : List Int} {n k q : Nat} (h : nth xs k = (q : Int)) (h1 : (seenTo xs n k).getD q false = true) : okAt xs n k = false := by
  unfold okAt; rw [h, Int.toNat_natCast, h1]; simp
theorem okTo_yes {xs : List Int} {n k q : Nat} (h0 : okTo xs n k = true) (h : nth xs k = (q : Int)) (hq : q < n) (h1 : (seenTo xs n k).getD q false = false) : okTo xs n (k + 1) = true := by
  simp only [okTo, okAt]; rw [h0, h, Int.toNat_natCast, h1]; simp; omega
theorem seenTo_len (xs : List Int) (n k : Nat) : (seenTo xs n k).length = n := by
  induction k with
  | zero => simp [seenTo]
  | succ k ih => simp [seenTo, ih]
theorem okTo_at {xs : List Int} {n m : Nat} (h : okTo xs n m = true) : ∀ j, j < m → okAt xs n j = true := by
  intro j hj
  cases e : okAt xs n j
  · rw [okTo_no hj e] at h; cases h
  · rfl
theorem okTo_bd {xs : List Int} {n m : Nat} (h : okTo xs n m = true) (j : Nat) (hj : j < m) : 0 ≤ nth xs j ∧ nth xs j < n := by
  have := okTo_at h j hj
  simp [okAt] at this; omega
theorem seenTo_mem {xs : List Int} {n m : Nat} (h : okTo xs n m = true) (j : Nat) (hj : j < m) : (seenTo xs n m).getD (nth xs j).toNat false = true := by
  induction m with
  | zero => omega
  | succ m ih =>
    have h2 : okTo xs n m = true := by simp only [okTo, Bool.and_eq_true] at h; exact h.1
    have hb := okTo_bd h j hj
    rw [seenTo, List.getD, List.getElem?_set, seenTo_len]
    split
    · rw [if_pos (by omega)]; rfl
    · rcases Nat.lt_or_ge j m with h3 | h3
      · have := ih h2 h3; rw [List.getD] at this; exact this
      · obtain rfl : j = m := by omega
        omega
theorem okTo_inj {xs : List Int} {n m : Nat} (h : okTo xs n m = true) (i j : Nat) (hi : i < j) (hj : j < m) : nth xs i ≠ nth xs j := by
  intro e
  have h1 : okTo xs n j = true := by
    clear e hi
    induction m with
    | zero => omega
    | succ m ih =>
      have h2 : okTo xs n m = true := by simp only [okTo, Bool.and_eq_true] at h; exact h.1
      rcases Nat.lt_or_ge j m with h3 | h3
      · exact ih h2 h3
      · obtain rfl : j = m := by omega
        exact h2
  have h2 := seenTo_mem h1 i hi
  have h3 := okTo_at h j hj
  rw [e] at h2
  simp [okAt] at h3
  have := h3.2
  simp [List.getD] at h2 this
  rw [h2] at this
  simp at this
theorem isPerm_len {xs : List Int} (h : isPerm xs = true) : xs.length ≤ 8 := by simp [isPerm] at h; exact h.1
theorem isPerm_bd {xs : List Int} (h : isPerm xs = true) (j : Nat) (hj : j < xs.length) : 0 ≤ nth xs j ∧ nth xs j < xs.length := by
  simp [isPerm] at h; exact okTo_bd h.2 j hj
theorem isPerm_inj {xs : List Int} (h : isPerm xs = true) (i j : Nat) (hi : i < j) (hj : j < xs.length) : nth xs i ≠ nth xs j := by
  simp [isPerm] at h; exact okTo_inj h.2 i j hi hj

end Go.Proofs.Ytaffokicnabkiaa

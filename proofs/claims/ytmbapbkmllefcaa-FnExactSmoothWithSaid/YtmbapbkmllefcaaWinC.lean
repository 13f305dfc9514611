/- How many numbers of a range a window has, and how many less than its last. No condition but lengths. -/
import Derived.Test.YtmbapbkmllefcaaWin
namespace Go.Proofs.Ytmbapbkmllefcaa
open Go.RowKit
set_option linter.unusedVariables false

/-- How many of the first j numbers satisfy p. -/
def cntP (p : Int → Bool) (ys : List Int) : Nat → Nat
  | 0 => 0
  | j + 1 => if p (nth ys j) = true then cntP p ys j + 1 else cntP p ys j
theorem cntP_le (p : Int → Bool) (ys : List Int) (j : Nat) : cntP p ys j ≤ j := by
  induction j with
  | zero => simp [cntP]
  | succ j ih => rw [cntP]; split <;> omega
theorem cntP_hit {p : Int → Bool} {ys : List Int} {j : Nat} (h : p (nth ys j) = true) : cntP p ys (j + 1) = cntP p ys j + 1 := by rw [cntP, if_pos h]
theorem cntP_miss {p : Int → Bool} {ys : List Int} {j : Nat} (h : p (nth ys j) = false) : cntP p ys (j + 1) = cntP p ys j := by rw [cntP, if_neg (by rw [h]; simp)]
def maxTo (f : Nat → Nat) : Nat → Nat
  | 0 => 0
  | k + 1 => max (maxTo f k) (f k)
theorem maxTo_le (f : Nat → Nat) (B k : Nat) (h : ∀ i, i < k → f i ≤ B) : maxTo f k ≤ B := by
  induction k with
  | zero => simp [maxTo]
  | succ k ih => have := ih (fun i hi => h i (by omega)); have := h k (by omega); simp only [maxTo]; omega
def inB (lo hi x : Int) : Bool := decide (lo ≤ x ∧ x ≤ hi)
def cwF (xs : List Int) (wd : Nat) (lo hi : Int) (i : Nat) : Nat := cntP (inB lo hi) (winL xs i wd) wd
def cwV (xs : List Int) (k lo hi : Int) : Int := if okWin xs.length k = true then maxTo (cwF xs k.toNat lo hi) (winN xs.length k.toNat) else -1














































































































































end Go.Proofs.Ytmbapbkmllefcaa

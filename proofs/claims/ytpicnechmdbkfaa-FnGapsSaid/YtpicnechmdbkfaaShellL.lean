/- Sorting by gaps: plain lists. -/
import Derived.Test.YtpicnechmdbkfaaSortW
namespace Go.Proofs.Ytpicnechmdbkfaa
open Go.RowKit
set_option linter.unusedVariables false

/-- How many places r, r + h, r + 2 h .. lie below n. -/
def cnGp (n h r : Nat) : Nat := if r < n then (n - r - 1) / h + 1 else 0
theorem cnGp_lt {n h r k : Nat} (hh : 1 ≤ h) : k < cnGp n h r ↔ r + k * h < n := by
  unfold cnGp
  split
  · rw [Nat.lt_succ_iff, Nat.le_div_iff_mul_le (by omega)]; omega
  · constructor
    · intro h1; omega
    · intro h1; omega
theorem cnGp_eq {n h r k : Nat} (hh : 1 ≤ h) (h1 : k ≤ cnGp n h r) (h2 : ¬ r + k * h < n) : k = cnGp n h r := by
  rcases Nat.lt_or_ge k (cnGp n h r) with h3 | h3
  · exact absurd ((cnGp_lt hh).1 h3) h2
  · omega
theorem cnGp_le {n h r : Nat} (hh : 1 ≤ h) : cnGp n h r ≤ n := by
  rcases Nat.lt_or_ge n (cnGp n h r) with h1 | h1
  · have h2 := (cnGp_lt hh).1 h1
    have : n * 1 ≤ n * h := Nat.mul_le_mul_left n hh
    omega
  · exact h1
/-- The numbers there. -/
def ptG (xs : List Int) (h r k : Nat) : List Int := (List.range k).map fun q => nth xs (r + q * h)
theorem ptG_succ (xs : List Int) (h r k : Nat) : ptG xs h r (k + 1) = ptG xs h r k ++ [nth xs (r + k * h)] := by
  unfold ptG; rw [List.range_succ, List.map_append]; rfl
theorem ptG_len (xs : List Int) (h r k : Nat) : (ptG xs h r k).length = k := by simp [ptG]
/-- They are laid back. -/
def stG (ys out : List Int) (h r : Nat) : Nat → List Int
  | 0 => out
  | k + 1 => (stG ys out h r k).set (r + k * h) (nth ys k)
theorem stG_len (ys out : List Int) (h r k : Nat) : (stG ys out h r k).length = out.length := by
  induction k with
  | zero => rfl
  | succ k ih => rw [stG, List.length_set, ih]
def gsG (xs : List Int) (h : Nat) : Nat → List Int
  | 0 => xs
  | r + 1 => stG (srt (ptG xs h r (cnGp xs.length h r))) (gsG xs h r) h r (cnGp xs.length h r)
theorem gsG_len (xs : List Int) (h r : Nat) : (gsG xs h r).length = xs.length := by
  induction r with
  | zero => rfl
  | succ r ih => rw [gsG, stG_len, ih]
def shG (xs gs : List Int) : Nat → List Int
  | 0 => xs
  | k + 1 => gsG (shG xs gs k) (nth gs k).toNat (nth gs k).toNat
theorem shG_len (xs gs : List Int) (k : Nat) : (shG xs gs k).length = xs.length := by
  induction k with
  | zero => rfl
  | succ k ih => rw [shG, gsG_len, ih]
def okG (xs gs : List Int) : Prop := xs.length ≤ 16 ∧ gs.length ≤ 8 ∧ ∀ j, j < gs.length → 1 ≤ nth gs j ∧ nth gs j ≤ 16
open Classical in
noncomputable def shV (xs gs : List Int) : List Int := if okG xs gs then shG xs gs gs.length else []
theorem shV_yes {xs gs : List Int} (h : okG xs gs) : shV xs gs = shG xs gs gs.length := by unfold shV; rw [if_pos h]
theorem shV_no {xs gs : List Int} (h : ¬ okG xs gs) : shV xs gs = [] := by unfold shV; rw [if_neg h]

end Go.Proofs.Ytpicnechmdbkfaa

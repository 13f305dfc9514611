/- Plain lists: places, turning round a list's head. -/
import Derived.Test.YtaffokicnabkiaaMem
namespace Go.Proofs.Ytaffokicnabkiaa
open Go.RowKit
set_option linter.unusedVariables false

theorem ext_nth' {xs ys : List Int} (hl : xs.length = ys.length) (h : ∀ j, j < xs.length → nth xs j = nth ys j) : xs = ys := by
  apply List.ext_getElem hl
  intro j h1 h2
  have := h j h1
  rw [nth_eq h1, nth_eq h2] at this
  exact this
theorem nth_set (xs : List Int) (i j : Nat) (v : Int) : nth (xs.set i v) j = if i = j ∧ i < xs.length then v else nth xs j := by
  unfold nth
  rw [List.getD, List.getD, List.getElem?_set]
  by_cases h : i = j
  · subst h
    by_cases h2 : i < xs.length
    · rw [if_pos rfl, if_pos h2, if_pos ⟨rfl, h2⟩]; rfl
    · rw [if_pos rfl, if_neg h2, if_neg (fun h => h2 h.2), List.getElem?_eq_none (by omega)]
  · rw [if_neg h, if_neg (fun h2 => h h2.1)]
theorem nth_appL {xs ys : List Int} {j : Nat} (h : j < xs.length) : nth (xs ++ ys) j = nth xs j := by simp [nth, List.getD, List.getElem?_append_left h]
theorem nth_appR {xs ys : List Int} {j : Nat} (h : xs.length ≤ j) : nth (xs ++ ys) j = nth ys (j - xs.length) := by simp [nth, List.getD, List.getElem?_append_right h]
theorem nth_takeL (xs : List Int) (k j : Nat) (h : j < k) : nth (xs.take k) j = nth xs j := by simp [nth, List.getD, h]
theorem nth_dropL (xs : List Int) (k j : Nat) : nth (xs.drop k) j = nth xs (k + j) := by simp [nth, List.getD]
theorem nth_rev {xs : List Int} {j : Nat} (h : j < xs.length) : nth xs.reverse j = nth xs (xs.length - 1 - j) := by
  simp only [nth, List.getD]
  rw [List.getElem?_reverse h]
/-- The first k numbers the other way round. -/
def flipL (xs : List Int) (k : Nat) : List Int := (xs.take k).reverse ++ xs.drop k
theorem flipL_len (xs : List Int) (k : Nat) : (flipL xs k).length = xs.length := by simp [flipL]; omega
theorem nth_flipL {xs : List Int} {k j : Nat} (hk : k ≤ xs.length) (hj : j < xs.length) : nth (flipL xs k) j = if j < k then nth xs (k - 1 - j) else nth xs j := by
  have hl : (xs.take k).reverse.length = k := by simp; omega
  unfold flipL
  split
  · rename_i h
    rw [nth_appL (by omega), nth_rev (by rw [List.length_take]; omega), nth_takeL _ _ _ (by simp; omega)]
    congr 1; simp; omega
  · rename_i h
    rw [nth_appR (by omega), hl, nth_dropL]
    congr 1; omega
/-- p pairs of the first k numbers have been exchanged. -/
def revTo (xs : List Int) (k : Nat) : Nat → List Int
  | 0 => xs
  | p + 1 => ((revTo xs k p).set p (nth (revTo xs k p) (k - 1 - p))).set (k - 1 - p) (nth (revTo xs k p) p)
theorem revTo_len (xs : List Int) (k p : Nat) : (revTo xs k p).length = xs.length := by
  induction p with
  | zero => rfl
  | succ p ih => simp [revTo, ih]
theorem nth_revTo {xs : List Int} {k p : Nat} (hk : k ≤ xs.length) (hp : 2 * p ≤ k) (j : Nat) : nth (revTo xs k p) j = if j < p ∨ (k - p ≤ j ∧ j < k) then nth xs (k - 1 - j) else nth xs j := by
  induction p generalizing j with
  | zero => rw [if_neg (by omega)]; rfl
  | succ p ih =>
    simp only [revTo]
    rw [nth_set, nth_set, ih (by omega), ih (by omega), ih (by omega)]
    simp only [List.length_set, revTo_len]
    by_cases h1 : k - 1 - p = j
    · subst h1
      rw [if_pos (by omega), if_neg (by omega), if_pos (by omega)]
      congr 1; omega
    · rw [if_neg (by omega)]
      by_cases h2 : p = j
      · subst h2
        rw [if_pos (by omega), if_neg (by omega), if_pos (by omega)]
      · rw [if_neg (by omega)]
        by_cases h3 : j < p ∨ (k - p ≤ j ∧ j < k)
        · rw [if_pos h3, if_pos (by omega)]
        · rw [if_neg h3, if_neg (by omega)]
theorem revTo_flip {xs : List Int} {k p : Nat} (hk : k ≤ xs.length) (hp : 2 * p ≤ k) (hq : k ≤ 2 * p + 1) : revTo xs k p = flipL xs k := by
  apply ext_nth' (by rw [revTo_len, flipL_len])
  intro j hj
  rw [revTo_len] at hj
  rw [nth_revTo hk hp, nth_flipL hk hj]
  by_cases h1 : j < p ∨ (k - p ≤ j ∧ j < k)
  · rw [if_pos h1, if_pos (by omega)]
  · rw [if_neg h1]
    split
    · congr 1; omega
    · rfl

end Go.Proofs.Ytaffokicnabkiaa

/- Merges of neighbors, by recursion. No condition but lengths. -/
import Derived.Test.YthlmopndmaemnaaRun1
namespace Go.Proofs.Ythlmopndmaemnaa
open Go.RowKit

def Dr (w w' : World) : Prop := ∃ m, w' = World.drewN w m
theorem Dr.refl (w : World) : Dr w w := ⟨0, rfl⟩
theorem Dr.step {w w' : World} (h : Dr w w') (k : Nat) : Dr w (w'.drewN k) := by
  obtain ⟨m, rfl⟩ := h
  exact ⟨m + k, by rw [World.drewN_drewN]⟩
def sumTo (xs : List Int) : Nat → Int
  | 0 => 0
  | k + 1 => sumTo xs k + nth xs k
theorem sumTo_bd (xs : List Int) (k : Nat) (h : ∀ j, j < k → 0 ≤ nth xs j ∧ nth xs j ≤ 1000) : 0 ≤ sumTo xs k ∧ sumTo xs k ≤ 1000 * k := by
  induction k with
  | zero => simp [sumTo]
  | succ k ih =>
    have := ih (fun j hj => h j (by omega))
    have := h k (by omega)
    simp only [sumTo]; omega
/-- The least of g 1 .. g k; -1 if there is none. -/
def bestTo (g : Nat → Int) : Nat → Int
  | 0 => -1
  | k + 1 => if bestTo g k < 0 ∨ g (k + 1) < bestTo g k then g (k + 1) else bestTo g k
theorem bestTo_bd (g : Nat → Int) (M : Int) (k : Nat) (h : ∀ j, 1 ≤ j → j ≤ k → 0 ≤ g j ∧ g j ≤ M) : (k = 0 → bestTo g k = -1) ∧ (1 ≤ k → 0 ≤ bestTo g k ∧ bestTo g k ≤ M) := by
  induction k with
  | zero => simp [bestTo]
  | succ k ih =>
    have h1 := ih (fun j a b => h j a (by omega))
    have h2 := h (k + 1) (by omega) (by omega)
    refine ⟨by omega, fun _ => ?_⟩
    simp only [bestTo]
    split
    · exact h2
    · by_cases hk : k = 0
      · have := h1.1 hk; omega
      · exact h1.2 (by omega)
def nbF : Nat → List Int → Int
  | 0, _ => 0
  | f + 1, xs => if xs.length < 2 then 0 else bestTo (fun k => nbF f (xs.take k) + nbF f (xs.drop k)) (xs.length - 1) + sumTo xs xs.length
theorem pow_pos2 (f : Nat) : (1 : Int) ≤ 2 ^ f := by
  induction f with
  | zero => simp
  | succ f ih => rw [Int.pow_succ]; omega
theorem pow_le8 (f : Nat) (h : f ≤ 8) : (2 : Int) ^ f ≤ 256 := by
  have : ∀ k : Nat, k ≤ 8 → (2 : Int) ^ k ≤ 256 := by decide
  exact this f h
theorem nth_take (xs : List Int) (k j : Nat) (h : j < k) : nth (xs.take k) j = nth xs j := by simp [nth, List.getD, h]
theorem nth_drop (xs : List Int) (k j : Nat) : nth (xs.drop k) j = nth xs (k + j) := by simp [nth, List.getD]
theorem nbF_bd (f : Nat) : ∀ (xs : List Int), xs.length ≤ 8 → (∀ j, j < xs.length → 0 ≤ nth xs j ∧ nth xs j ≤ 1000) → 0 ≤ nbF f xs ∧ nbF f xs ≤ 8000 * 2 ^ f - 8000 := by
  induction f with
  | zero => intro xs _ _; simp [nbF]
  | succ f ih =>
    intro xs hl hx
    have hp := pow_pos2 f
    simp only [nbF]
    rw [Int.pow_succ]
    split
    · omega
    · have hs := sumTo_bd xs xs.length hx
      have hb := bestTo_bd (fun k => nbF f (xs.take k) + nbF f (xs.drop k)) (8000 * 2 ^ f - 8000 + (8000 * 2 ^ f - 8000)) (xs.length - 1) (fun k h1 h2 => by
        have t1 := ih (xs.take k) (by rw [List.length_take]; omega) (fun j hj => by rw [List.length_take] at hj; rw [nth_take _ _ _ (by omega)]; exact hx j (by omega))
        have t2 := ih (xs.drop k) (by rw [List.length_drop]; omega) (fun j hj => by rw [List.length_drop] at hj; rw [nth_drop]; exact hx _ (by omega))
        omega)
      have := hb.2 (by omega)
      omega
def neiV (xs : List Int) : Int := if okLengthsOk xs = true then nbF 8 xs else -1








































































































































































































































































end Go.Proofs.Ythlmopndmaemnaa

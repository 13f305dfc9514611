/- Flips that bring each number to its position: plain lists. -/
import Derived.Test.YtaffokicnabkiaaFlipL
import Derived.Test.YtaffokicnabkiaaPermL
namespace Go.Proofs.Ytaffokicnabkiaa
open Go.RowKit

/-- A list of the numbers from 0 up to n, each once (its length is n). -/
def Order (xs : List Int) (n : Nat) : Prop := xs.length = n ∧ (∀ j, j < n → 0 ≤ nth xs j ∧ nth xs j < n) ∧ ∀ i j, i < j → j < n → nth xs i ≠ nth xs j
theorem isPerm_order {xs : List Int} (h : isPerm xs = true) : Order xs xs.length := ⟨rfl, isPerm_bd h, isPerm_inj h⟩
theorem Order.flip {xs : List Int} {n : Nat} (h : Order xs n) (k : Nat) (hk : k ≤ n) : Order (flipL xs k) n := by
  obtain ⟨hl, hb, hi⟩ := h
  subst hl
  refine ⟨flipL_len xs k, fun j hj => ?_, fun i j hij hj => ?_⟩
  · rw [nth_flipL hk hj]; split
    · exact hb _ (by omega)
    · exact hb _ hj
  · rw [nth_flipL hk hj, nth_flipL hk (by omega)]
    by_cases h1 : j < k
    · rw [if_pos (by omega), if_pos h1]
      exact fun e => hi (k - 1 - j) (k - 1 - i) (by omega) (by omega) e.symm
    · rw [if_neg h1]
      split
      · exact hi _ _ (by omega) hj
      · exact hi _ _ hij hj
theorem take_sub {xs : List Int} {n : Nat} (h : Order xs n) : ∀ x : Nat, x < n → ∃ p, p < n ∧ nth xs p = x := by
  -- the numbers as a list without repetition, all below n
  intro x hx
  apply Classical.byContradiction
  intro hne
  have hne' : ∀ p, p < n → nth xs p ≠ x := fun p hp e => hne ⟨p, hp, e⟩
  obtain ⟨hl, hb, hi⟩ := h
  -- n different numbers out of n - 1
  have key : ∀ (m : Nat) (f : Nat → Nat), (∀ i, i < m → f i < n ∧ f i ≠ x) → (∀ i j, i < j → j < m → f i ≠ f j) → m ≤ n - 1 := by
    intro m f hf hinj
    have hnd : ((List.range m).map f).Nodup := by
      rw [List.nodup_iff_pairwise_ne, List.pairwise_map]
      exact List.pairwise_lt_range.imp_of_mem (fun {a b} ha hb hab => hinj a b hab (List.mem_range.1 hb))
    have hsub : (List.range m).map f ⊆ (List.range n).erase x := fun y hy => by
      obtain ⟨i, hi2, rfl⟩ := List.mem_map.1 hy
      have := hf i (List.mem_range.1 hi2)
      exact (List.mem_erase_of_ne this.2).2 (List.mem_range.2 this.1)
    have := List.Nodup.length_le_of_subset hnd hsub
    rw [List.length_map, List.length_range, List.length_erase_of_mem (List.mem_range.2 hx), List.length_range] at this
    exact this
  have := key n (fun j => (nth xs j).toNat) (fun j hj => by have := hb j hj; have := hne' j hj; constructor <;> omega) (fun i j hij hj => by
    have h1 := hi i j hij hj; have h2 := hb i (by omega); have h3 := hb j hj; omega)
  omega

/-- Where a number stands. -/
noncomputable def posX (xs : List Int) (n x : Nat) : Nat := Classical.epsilon fun p => p < n ∧ nth xs p = x
theorem posX_spec {xs : List Int} {n : Nat} (h : Order xs n) {x : Nat} (hx : x < n) : posX xs n x < n ∧ nth xs (posX xs n x) = x := Classical.epsilon_spec (take_sub h x hx)
theorem posX_eq {xs : List Int} {n : Nat} (h : Order xs n) {x p : Nat} (hp : p < n) (hpx : nth xs p = x) (hx : x < n) : posX xs n x = p := by
  have h2 := posX_spec h hx
  rcases Nat.lt_trichotomy (posX xs n x) p with h1 | h1 | h1
  · exact absurd (h2.2.trans hpx.symm) (h.2.2 _ _ h1 hp)
  · exact h1
  · exact absurd (hpx.trans h2.2.symm) (h.2.2 _ _ h1 h2.1)
def grdStep (st : List Int × List Int) (x p : Nat) : List Int × List Int :=
  if p = x then st else if 0 < p then (flipL (flipL st.1 (p + 1)) (x + 1), st.2 ++ [(p : Int) + 1] ++ [(x : Int) + 1]) else (flipL st.1 (x + 1), st.2 ++ [(x : Int) + 1])
/-- After s numbers, from the greatest on: the order now, the flips till now. -/
noncomputable def grd (xs : List Int) (n : Nat) : Nat → List Int × List Int
  | 0 => (xs, [])
  | s + 1 => grdStep (grd xs n s) (n - 1 - s) (posX (grd xs n s).1 n (n - 1 - s))
theorem grd_order {xs : List Int} {n : Nat} (h : Order xs n) (s : Nat) (hs : s ≤ n) : Order (grd xs n s).1 n := by
  induction s with
  | zero => exact h
  | succ s ih =>
    have h1 := ih (by omega)
    have h2 := posX_spec h1 (x := n - 1 - s) (by omega)
    simp only [grd, grdStep]
    split
    · exact h1
    · split
      · exact (h1.flip _ (by omega)).flip _ (by omega)
      · exact h1.flip _ (by omega)
theorem grd_len (xs : List Int) (n s : Nat) : (grd xs n s).2.length ≤ 2 * s := by
  induction s with
  | zero => simp [grd]
  | succ s ih =>
    simp only [grd, grdStep]
    split
    · omega
    · split <;> simp <;> omega
noncomputable def grV (xs : List Int) : List Int := if isPerm xs = true then (grd xs xs.length (xs.length - 1)).2 else []
/-- Where each number stands, for the first k places. -/
def invTo (xs : List Int) (n : Nat) : Nat → List Int
  | 0 => List.replicate n 0
  | k + 1 => (invTo xs n k).set (nth xs k).toNat k
theorem invTo_len (xs : List Int) (n k : Nat) : (invTo xs n k).length = n := by
  induction k with
  | zero => simp [invTo]
  | succ k ih => simp [invTo, ih]
theorem nth_invTo {xs : List Int} {n : Nat} (h : Order xs n) (k : Nat) (hk : k ≤ n) (p : Nat) (hp : p < k) : nth (invTo xs n k) (nth xs p).toNat = p := by
  induction k with
  | zero => omega
  | succ k ih =>
    have hb := h.2.1 k (by omega)
    have hb2 := h.2.1 p (by omega)
    simp only [invTo]
    rw [nth_set, invTo_len]
    by_cases e : p = k
    · subst e
      rw [if_pos (by omega)]
    · have := h.2.2 p k (by omega) (by omega)
      rw [if_neg (by omega), ih (by omega) (by omega)]

end Go.Proofs.Ytaffokicnabkiaa

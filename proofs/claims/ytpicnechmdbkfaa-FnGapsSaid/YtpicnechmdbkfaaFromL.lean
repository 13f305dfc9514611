/- Plain lists: an order out of its counts, built by insertion and taken apart from the end: the two agree. No program in sight. -/
import Derived.Test.YtpicnechmdbkfaaSort2
namespace Go.Proofs.Ytpicnechmdbkfaa

def validC (cs : List Int) (n : Nat) : Prop := ∀ i, i < n → 0 ≤ nth cs i ∧ nth cs i ≤ i
/-- Where place i goes. -/
def goes (cs : List Int) (i : Nat) : Nat := i - (nth cs i).toNat
theorem goes_le (cs : List Int) (i : Nat) : goes cs i ≤ i := by unfold goes; omega
def byL (cs : List Int) : Nat → List Int
  | 0 => []
  | i + 1 => insAt (byL cs i) (goes cs i) (i : Int)
theorem byL_len (cs : List Int) (i : Nat) : (byL cs i).length = i := by
  induction i with
  | zero => rfl
  | succ i ih => rw [byL, insAt_len _ _ _ (by rw [ih]; exact goes_le _ _), ih]
theorem byL_mem (cs : List Int) (i : Nat) : ∀ x ∈ byL cs i, ∃ p : Nat, p < i ∧ x = p := by
  induction i with
  | zero => intro x hx; cases hx
  | succ i ih =>
    intro x hx
    rcases mem_insAt.1 hx with rfl | h
    · exact ⟨i, by omega, rfl⟩
    · obtain ⟨p, hp, e⟩ := ih x h
      exact ⟨p, by omega, e⟩
theorem nth_insAtF (ys : List Int) (a : Nat) (x : Int) (j : Nat) (ha : a ≤ ys.length) : nth (insAt ys a x) j = if j < a then nth ys j else if j = a then x else nth ys (j - 1) := by
  have e : (ys.take a).length = a := by simp; omega
  unfold nth insAt List.getD
  by_cases h : j < a
  · rw [if_pos h, List.getElem?_append_left (by omega), List.getElem?_take, if_pos h]
  · rw [if_neg h, List.getElem?_append_right (by omega), e]
    by_cases h2 : j = a
    · rw [if_pos h2, h2, Nat.sub_self]; rfl
    · rw [if_neg h2]
      obtain ⟨d, rfl⟩ : ∃ d, j = a + d + 1 := ⟨j - a - 1, by omega⟩
      rw [show a + d + 1 - a = d + 1 by omega, List.getElem?_cons_succ, List.getElem?_drop]
      rfl
theorem nth_eraseIdx (ys : List Int) (a j : Nat) : nth (ys.eraseIdx a) j = if j < a then nth ys j else nth ys (j + 1) := by
  unfold nth List.getD
  rw [List.getElem?_eraseIdx]
  split <;> rfl
/-- What is left of the places behind k steps from the end. -/
def leftK (cs : List Int) (n : Nat) : Nat → List Int
  | 0 => rangeI n
  | k + 1 => (leftK cs n k).eraseIdx (goes cs (n - 1 - k))
theorem leftK_len (cs : List Int) (n k : Nat) (h : k ≤ n) : (leftK cs n k).length = n - k := by
  induction k with
  | zero => simp [leftK, rangeI_len]
  | succ k ih =>
    have h1 := ih (by omega)
    have h2 := goes_le cs (n - 1 - k)
    rw [leftK, List.length_eraseIdx, if_pos (by omega)]
    omega
theorem leftK_at (cs : List Int) (n k : Nat) (h : k ≤ n) : ∀ j, j < n - k → ∃ p : Nat, p < n ∧ nth (leftK cs n k) j = p ∧ nth (byL cs n) p = nth (byL cs (n - k)) j := by
  induction k with
  | zero =>
    intro j hj
    exact ⟨j, by omega, by rw [leftK, nth_rangeI (by omega)], rfl⟩
  | succ k ih =>
    intro j hj
    obtain ⟨i, hi⟩ : ∃ i, n - k = i + 1 := ⟨n - k - 1, by omega⟩
    have e1 : n - 1 - k = i := by omega
    have e2 : n - (k + 1) = i := by omega
    have hb : byL cs (n - k) = insAt (byL cs i) (goes cs i) (i : Int) := by rw [hi]; rfl
    have hg := goes_le cs i
    have hl := byL_len cs i
    rw [leftK, e1, nth_eraseIdx, e2]
    by_cases hja : j < goes cs i
    · rw [if_pos hja]
      obtain ⟨p, hp, h1, h2⟩ := ih (by omega) j (by omega)
      exact ⟨p, hp, h1, by rw [h2, hb, nth_insAtF _ _ _ _ (by omega), if_pos hja]⟩
    · rw [if_neg hja]
      obtain ⟨p, hp, h1, h2⟩ := ih (by omega) (j + 1) (by omega)
      exact ⟨p, hp, h1, by rw [h2, hb, nth_insAtF _ _ _ _ (by omega), if_neg (by omega), if_neg (by omega)]; rfl⟩
/-- The order, as it is taken apart from the end. -/
def outT (cs : List Int) (n : Nat) : List Int := (List.range n).map fun p : Nat => nth (leftK cs n (n - 1 - p)) (goes cs p)
theorem outT_len (cs : List Int) (n : Nat) : (outT cs n).length = n := by simp [outT]
theorem outT_nth (cs : List Int) (n p : Nat) (h : p < n) : nth (outT cs n) p = nth (leftK cs n (n - 1 - p)) (goes cs p) := by
  rw [nth_eq (by rw [outT_len]; exact h)]; simp [outT]
theorem outT_at (cs : List Int) (n p : Nat) (h : p < n) : ∃ q : Nat, q < n ∧ nth (outT cs n) p = q ∧ nth (byL cs n) q = p := by
  have hg := goes_le cs p
  obtain ⟨q, hq, h1, h2⟩ := leftK_at cs n (n - 1 - p) (by omega) (goes cs p) (by omega)
  refine ⟨q, hq, by rw [outT_nth cs n p h]; exact h1, ?_⟩
  rw [h2, show n - (n - 1 - p) = p + 1 by omega, byL, nth_insAtF _ _ _ _ (by rw [byL_len]; exact hg), if_neg (by omega), if_pos rfl]
theorem byL_inj (cs : List Int) (n : Nat) : ∀ i j, i < n → j < n → nth (byL cs n) i = nth (byL cs n) j → i = j := by
  induction n with
  | zero => intro i j hi; omega
  | succ n ih =>
    intro i j hi hj h
    have hg := goes_le cs n
    have hl := byL_len cs n
    have mem : ∀ k, k < n → nth (byL cs n) k ≠ (n : Int) := fun k hk e => by
      obtain ⟨p, hp, e2⟩ := byL_mem cs n _ (nth_mem (xs := byL cs n) (j := k) (by omega))
      omega
    rw [byL, nth_insAtF _ _ _ _ (by omega), nth_insAtF _ _ _ _ (by omega)] at h
    by_cases h1 : i < goes cs n
    · rw [if_pos h1] at h
      by_cases h2 : j < goes cs n
      · rw [if_pos h2] at h; exact ih i j (by omega) (by omega) h
      · rw [if_neg h2] at h
        by_cases h3 : j = goes cs n
        · rw [if_pos h3] at h; exact absurd h (mem i (by omega))
        · rw [if_neg h3] at h; have := ih i (j - 1) (by omega) (by omega) h; omega
    · rw [if_neg h1] at h
      by_cases h4 : i = goes cs n
      · rw [if_pos h4] at h
        by_cases h2 : j < goes cs n
        · rw [if_pos h2] at h; exact absurd h.symm (mem j (by omega))
        · rw [if_neg h2] at h
          by_cases h3 : j = goes cs n
          · omega
          · rw [if_neg h3] at h; exact absurd h.symm (mem (j - 1) (by omega))
      · rw [if_neg h4] at h
        by_cases h2 : j < goes cs n
        · rw [if_pos h2] at h; have := ih (i - 1) j (by omega) (by omega) h; omega
        · rw [if_neg h2] at h
          by_cases h3 : j = goes cs n
          · rw [if_pos h3] at h; exact absurd h (mem (i - 1) (by omega))
          · rw [if_neg h3] at h; have := ih (i - 1) (j - 1) (by omega) (by omega) h; omega
/-- What is written at each place is what is taken. -/
theorem outT_unique (cs : List Int) (n : Nat) (O : List Int) (hl : O.length = n) (h : ∀ x : Nat, x < n → nth O (nth (byL cs n) x).toNat = x) : O = outT cs n := by
  apply List.ext_getElem (by rw [hl, outT_len])
  intro p h1 h2
  obtain ⟨q, hq, e1, e2⟩ := outT_at cs n p (by omega)
  have e3 := h q hq
  rw [e2] at e3
  rw [← nth_eq h1, ← nth_eq h2, e1, ← e3]
  rfl
open Classical in
noncomputable def frL (cs : List Int) : List Int := if cs.length ≤ 12 ∧ validC cs cs.length then outT cs cs.length else []
open Classical in
noncomputable def frB (cs : List Int) : Bool := if cs.length ≤ 12 ∧ validC cs cs.length then true else false

end Go.Proofs.Ytpicnechmdbkfaa

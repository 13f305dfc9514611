/- Sorting by insertion gives the numbers in order. Plain lists. -/
import Derived.Test.YtaffokicnabkiaaSortL
import Derived.Test.YtaffokicnabkiaaFlipL
namespace Go.Proofs.Ytaffokicnabkiaa
set_option linter.unusedVariables false

def Srt (l : List Int) : Prop := ∀ i j, i < j → j < l.length → nth l i ≤ nth l j
def ltD (x y : Int) : Bool := decide (x < y)
theorem slotD_spec (ys : List Int) (x : Int) (k : Nat) : (∀ j, slotD ltD ys x k ≤ j → j < k → x < nth ys j) ∧ (0 < slotD ltD ys x k → nth ys (slotD ltD ys x k - 1) ≤ x) := by
  induction k with
  | zero => exact ⟨fun j _ h => by omega, fun h => by simp [slotD] at h⟩
  | succ k ih =>
    cases h : ltD x (nth ys k)
    · rw [slotD_miss h]
      simp [ltD] at h
      exact ⟨fun j h1 h2 => by omega, fun _ => h⟩
    · rw [slotD_hit h]
      simp [ltD] at h
      refine ⟨fun j h1 h2 => ?_, ih.2⟩
      rcases Nat.lt_or_ge j k with h3 | h3
      · exact ih.1 j h1 h3
      · obtain rfl : j = k := by omega
        exact h
theorem nth_insAt {ys : List Int} {k : Nat} (hk : k ≤ ys.length) (x : Int) (j : Nat) : nth (insAt ys k x) j = if j < k then nth ys j else if j = k then x else nth ys (j - 1) := by
  have hl : (ys.take k).length = k := by rw [List.length_take]; omega
  unfold insAt
  split
  · rw [nth_appL (by omega), nth_takeL _ _ _ (by omega)]
  · rw [nth_appR (by omega), hl]
    split
    · rename_i h; subst h; simp [nth]
    · obtain ⟨m, hm⟩ : ∃ m, j - k = m + 1 := ⟨j - k - 1, by omega⟩
      rw [hm]
      have : nth (x :: ys.drop k) (m + 1) = nth (ys.drop k) m := by simp [nth]
      rw [this, nth_dropL]; congr 1; omega
theorem Srt.ins {ys : List Int} (h : Srt ys) (x : Int) : Srt (insS ltD ys x) := by
  intro i j hij hj
  have hs := slotD_le ltD ys x ys.length
  have hsp := slotD_spec ys x ys.length
  unfold insS at hj ⊢
  rw [insAt_len _ _ _ hs] at hj
  rw [nth_insAt hs, nth_insAt hs]
  generalize slotD ltD ys x ys.length = s at hs hsp ⊢
  have lo : ∀ a, a < s → nth ys a ≤ x := fun a ha => by
    have h1 := hsp.2 (by omega)
    rcases Nat.lt_or_ge a (s - 1) with h2 | h2
    · exact Int.le_trans (h a (s - 1) h2 (by omega)) h1
    · obtain rfl : a = s - 1 := by omega
      exact h1
  have hi : ∀ a, s ≤ a → a < ys.length → x ≤ nth ys a := fun a h1 h2 => by have := hsp.1 a h1 h2; omega
  by_cases h1 : i < s
  · rw [if_pos h1]
    by_cases h2 : j < s
    · rw [if_pos h2]; exact h i j hij (by omega)
    · rw [if_neg h2]
      split
      · exact lo i h1
      · rcases Nat.lt_or_ge i (j - 1) with h3 | h3
        · exact h i (j - 1) h3 (by omega)
        · omega
  · rw [if_neg h1, if_neg (show ¬ j < s by omega), if_neg (show ¬ j = s by omega)]
    by_cases h2 : i = s
    · rw [if_pos h2]; exact hi (j - 1) (by omega) (by omega)
    · rw [if_neg h2]; exact h (i - 1) (j - 1) (by omega) (by omega)
theorem srt_sortTo (xs : List Int) (k : Nat) : Srt (sortTo ltD xs k) := by
  induction k with
  | zero => intro i j _ h; simp [sortTo] at h
  | succ k ih => exact ih.ins _
theorem insAt_perm (ys : List Int) (k : Nat) (x : Int) : (insAt ys k x).Perm (x :: ys) := by
  unfold insAt
  have h1 : (ys.take k ++ x :: ys.drop k).Perm (x :: (ys.take k ++ ys.drop k)) := List.perm_middle
  rwa [List.take_append_drop] at h1
theorem sortTo_perm (lt : Int → Int → Bool) (xs : List Int) (k : Nat) (hk : k ≤ xs.length) : (sortTo lt xs k).Perm (xs.take k) := by
  induction k with
  | zero => simp [sortTo]
  | succ k ih =>
    rw [take_nth (by omega)]
    refine (insAt_perm _ _ _).trans ?_
    exact ((ih (by omega)).cons _).trans (List.perm_append_singleton _ _).symm
theorem Srt.pairwise {l : List Int} (h : Srt l) : l.Pairwise (· ≤ ·) := by
  rw [List.pairwise_iff_getElem]
  intro i j hi hj hij
  have := h i j hij hj
  rwa [nth_eq hi, nth_eq hj] at this
theorem Srt.eq {l m : List Int} (h1 : Srt l) (h2 : Srt m) (p : l.Perm m) : l = m :=
  p.eq_of_pairwise (fun a b _ _ h3 h4 => Int.le_antisymm h3 h4) h1.pairwise h2.pairwise

end Go.Proofs.Ytaffokicnabkiaa

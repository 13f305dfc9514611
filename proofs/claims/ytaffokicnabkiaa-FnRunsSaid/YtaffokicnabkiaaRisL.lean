/- Plain lists: the longest parts in order, built from the left. No program in sight. -/
import Derived.Test.YtaffokicnabkiaaDisL
namespace Go.Proofs.Ytaffokicnabkiaa

/-- x behind the last list. -/
def addL (l : List (List Int)) (x : Int) : List (List Int) := l.set (l.length - 1) (l.getD (l.length - 1) [] ++ [x])
theorem addL_len (l : List (List Int)) (x : Int) : (addL l x).length = l.length := by simp [addL]
/-- A new part begins at place k. -/
def starts (xs : List Int) (k : Nat) : Prop := k = 0 ∨ nth xs k < nth xs (k - 1)
instance (xs : List Int) (k : Nat) : Decidable (starts xs k) := by unfold starts; infer_instance
def risL (xs : List Int) : Nat → List (List Int)
  | 0 => []
  | k + 1 => addL (if starts xs k then risL xs k ++ [[]] else risL xs k) (nth xs k)
theorem risL_hit {xs : List Int} {k : Nat} (h : starts xs k) : risL xs (k + 1) = addL (risL xs k ++ [[]]) (nth xs k) := by simp only [risL, if_pos h]
theorem risL_miss {xs : List Int} {k : Nat} (h : ¬ starts xs k) : risL xs (k + 1) = addL (risL xs k) (nth xs k) := by simp only [risL, if_neg h]
theorem risL_len (xs : List Int) (k : Nat) : (risL xs k).length = runsTo xs k := by
  induction k with
  | zero => rfl
  | succ k ih =>
    by_cases h : starts xs k
    · rw [risL_hit h, addL_len, runsTo_hit h]; simp [ih]
    · rw [risL_miss h, addL_len, ih, runsTo_miss (fun e => h (.inl e)) (fun e => h (.inr e))]
theorem runsTo_pos (xs : List Int) (k : Nat) (h : 0 < k) : 0 < runsTo xs k := by
  induction k with
  | zero => omega
  | succ k ih =>
    by_cases h0 : starts xs k
    · rw [runsTo_hit h0]; omega
    · rw [runsTo_miss (fun e => h0 (.inl e)) (fun e => h0 (.inr e))]
      exact ih (by have : k ≠ 0 := fun e => h0 (.inl e); omega)

theorem addL_rows {l : List (List Int)} {x : Int} {k : Nat} (h : ∀ r ∈ l, r.length ≤ k) : ∀ r ∈ addL l x, r.length ≤ k + 1 := by
  intro r hr
  rcases List.mem_or_eq_of_mem_set hr with h1 | h1
  · have := h r h1; omega
  · subst h1
    rw [List.length_append]
    have : (l.getD (l.length - 1) []).length ≤ k := by
      by_cases hl : l.length - 1 < l.length
      · have e : l.getD (l.length - 1) [] = l[l.length - 1] := by simp [List.getD, hl]
        rw [e]; exact h _ (List.getElem_mem hl)
      · have e : l = [] := List.eq_nil_of_length_eq_zero (by omega)
        subst e; simp
    rw [List.length_cons, List.length_nil]; omega
theorem risL_rows (xs : List Int) (k : Nat) : ∀ r ∈ risL xs k, r.length ≤ k := by
  induction k with
  | zero => intro r hr; cases hr
  | succ k ih =>
    by_cases h : starts xs k
    · rw [risL_hit h]
      exact addL_rows (fun r hr => by
        rcases List.mem_append.1 hr with h1 | h1
        · exact ih r h1
        · simp at h1; subst h1; simp)
    · rw [risL_miss h]
      exact addL_rows ih

end Go.Proofs.Ytaffokicnabkiaa

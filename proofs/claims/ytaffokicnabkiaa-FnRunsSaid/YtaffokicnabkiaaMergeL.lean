/- Merging runs two by two: plain lists. -/
import Derived.Test.YtaffokicnabkiaaSortW
import Derived.Test.YtaffokicnabkiaaRisL
import Derived.Test.YtaffokicnabkiaaRoundsL
namespace Go.Proofs.Ytaffokicnabkiaa
open Go.RowKit
set_option linter.unusedVariables false

def mgS : List (List Int) → List (List Int)
  | a :: b :: r => srt (a ++ b) :: mgS r
  | [a] => [a]
  | [] => []
theorem mgS_two (a b : List Int) : ∀ l : List (List Int), l.length % 2 = 0 → mgS (l ++ [a, b]) = mgS l ++ [srt (a ++ b)]
  | [], _ => by simp [mgS]
  | [x], h => by simp at h
  | x :: y :: r, h => by
    have := mgS_two a b r (by simp only [List.length_cons] at h; omega)
    simp only [List.cons_append, mgS, this]
theorem mgS_one (a : List Int) : ∀ l : List (List Int), l.length % 2 = 0 → mgS (l ++ [a]) = mgS l ++ [a]
  | [], _ => by simp [mgS]
  | [x], h => by simp at h
  | x :: y :: r, h => by
    have := mgS_one a r (by simp only [List.length_cons] at h; omega)
    simp only [List.cons_append, mgS, this]
theorem mgS_len : ∀ l : List (List Int), (mgS l).length = (l.length + 1) / 2
  | [] => by simp [mgS]
  | [x] => by simp [mgS]
  | x :: y :: r => by
    have := mgS_len r
    simp only [mgS, List.length_cons, this]; omega
theorem mgS_perm : ∀ l : List (List Int), (mgS l).flatten.Perm l.flatten
  | [] => by simp [mgS]
  | [x] => by simp [mgS]
  | x :: y :: r => by
    have := mgS_perm r
    simp only [mgS, List.flatten_cons]
    rw [← List.append_assoc]
    exact List.Perm.append (srt_perm _) this
theorem mgS_srt : ∀ l : List (List Int), (∀ r ∈ l, Srt r) → ∀ r ∈ mgS l, Srt r
  | [], h => by intro r hr; simp [mgS] at hr
  | [x], h => by intro r hr; simp [mgS] at hr; exact h r (by simp [hr])
  | x :: y :: s, h => by
    intro r hr
    simp only [mgS, List.mem_cons] at hr
    rcases hr with rfl | hr
    · exact srt_srt _
    · exact mgS_srt s (fun q hq => h q (by simp [hq])) r hr
def finM : Nat → List (List Int) → List Int × Nat
  | 0, rs => (rs.flatten, 0)
  | f + 1, rs => if rs.length ≤ 1 then (rs.flatten, 0) else ((finM f (mgS rs)).1, (finM f (mgS rs)).2 + 1)
theorem finM_stop {f : Nat} {rs : List (List Int)} (h : rs.length ≤ 1) : finM f rs = (rs.flatten, 0) := by
  cases f with
  | zero => rfl
  | succ f => rw [finM, if_pos h]
theorem finM_go {f : Nat} {rs : List (List Int)} (h : ¬ rs.length ≤ 1) : finM (f + 1) rs = ((finM f (mgS rs)).1, (finM f (mgS rs)).2 + 1) := by rw [finM, if_neg h]
theorem finM_le (f : Nat) : ∀ rs, (finM f rs).2 ≤ f := by
  induction f with
  | zero => intro rs; simp [finM]
  | succ f ih =>
    intro rs
    rw [finM]
    split
    · simp
    · have := ih (mgS rs); simp; omega
theorem finM_len (f : Nat) : ∀ rs, (finM f rs).1.length = rs.flatten.length := by
  induction f with
  | zero => intro rs; rfl
  | succ f ih =>
    intro rs
    rw [finM]
    split
    · rfl
    · simp only; rw [ih, (mgS_perm rs).length_eq]

theorem Srt.snoc {l : List Int} {x : Int} (h : Srt l) (hx : ∀ i, i < l.length → nth l i ≤ x) : Srt (l ++ [x]) := by
  intro i j hij hj
  rw [List.length_append, List.length_singleton] at hj
  rcases Nat.lt_or_ge j l.length with h1 | h1
  · rw [nth_appL (by omega), nth_appL h1]; exact h i j hij h1
  · obtain rfl : j = l.length := by omega
    rw [nth_appL hij, nth_appR (Nat.le_refl _), Nat.sub_self]
    exact hx i hij
theorem Srt.rise {l : List Int} (h : Srt l) : Rise l := fun i hi => h i (i + 1) (by omega) hi
theorem getD_last_addL {l : List (List Int)} {x : Int} (h : 0 < l.length) : (addL l x).getD ((addL l x).length - 1) [] = l.getD (l.length - 1) [] ++ [x] := by
  rw [addL_len, addL, List.getD, List.getElem?_set, if_pos rfl, if_pos (by omega)]; rfl
theorem mem_addL {l : List (List Int)} {x : Int} {r : List Int} (h : r ∈ addL l x) : r ∈ l ∨ r = l.getD (l.length - 1) [] ++ [x] := List.mem_or_eq_of_mem_set h
theorem getD_memL {l : List (List Int)} (h : 0 < l.length) : l.getD (l.length - 1) [] ∈ l := by
  have e : l.getD (l.length - 1) [] = l[l.length - 1] := by simp [List.getD, show l.length - 1 < l.length by omega]
  rw [e]; exact List.getElem_mem _
theorem risL_srt (xs : List Int) (k : Nat) : (∀ r ∈ risL xs k, Srt r) ∧ (0 < k → 0 < (risL xs k).length ∧ ∀ i, i < ((risL xs k).getD ((risL xs k).length - 1) []).length → nth ((risL xs k).getD ((risL xs k).length - 1) []) i ≤ nth xs (k - 1)) := by
  induction k with
  | zero => exact ⟨fun r h => by simp [risL] at h, fun h => by omega⟩
  | succ k ih =>
    obtain ⟨ih1, ih2⟩ := ih
    by_cases h : starts xs k
    · rw [risL_hit h]
      have hl : 0 < (risL xs k ++ [[]]).length := by simp
      have hd : (risL xs k ++ [[]]).getD ((risL xs k ++ [[]]).length - 1) [] = [] := by simp [List.getD]
      refine ⟨fun r hr => ?_, fun _ => ⟨by rw [addL_len]; exact hl, fun i hi => ?_⟩⟩
      · rcases mem_addL hr with h1 | h1
        · rcases List.mem_append.1 h1 with h2 | h2
          · exact ih1 r h2
          · simp at h2; subst h2; intro i j _ hj; simp at hj
        · rw [hd] at h1; subst h1
          intro i j hij hj; simp at hj; omega
      · rw [getD_last_addL hl, hd] at hi ⊢
        simp at hi; subst hi
        simp [nth]
    · rw [risL_miss h]
      have hk : 0 < k := by have : k ≠ 0 := fun e => h (.inl e); omega
      have hge : ¬ nth xs k < nth xs (k - 1) := fun e => h (.inr e)
      obtain ⟨hl, hb⟩ := ih2 hk
      refine ⟨fun r hr => ?_, fun _ => ⟨by rw [addL_len]; exact hl, fun i hi => ?_⟩⟩
      · rcases mem_addL hr with h1 | h1
        · exact ih1 r h1
        · subst h1
          exact (ih1 _ (getD_memL hl)).snoc (fun i hi => by have := hb i hi; omega)
      · rw [getD_last_addL hl] at hi ⊢
        rw [List.length_append, List.length_singleton] at hi
        rw [show k + 1 - 1 = k by omega]
        rcases Nat.lt_or_ge i ((risL xs k).getD ((risL xs k).length - 1) []).length with h1 | h1
        · rw [nth_appL h1]; have := hb i h1; omega
        · rw [nth_appR h1, show i - ((risL xs k).getD ((risL xs k).length - 1) []).length = 0 by omega]; simp [nth]
theorem flatten_set_len (l : List (List Int)) (j : Nat) (r : List Int) (x : Int) (h : l[j]? = some r) : (l.set j (r ++ [x])).flatten.length = l.flatten.length + 1 := by
  induction l generalizing j with
  | nil => simp at h
  | cons a l ih =>
    cases j with
    | zero => simp at h; subst h; simp; omega
    | succ j => simp at h; have := ih j h; simp only [List.set_cons_succ, List.flatten_cons, List.length_append, this]; omega
theorem risL_total (xs : List Int) (k : Nat) : (risL xs k).flatten.length = k := by
  have key : ∀ (l : List (List Int)) (x : Int), 0 < l.length → (addL l x).flatten.length = l.flatten.length + 1 := fun l x h => by
    unfold addL
    refine flatten_set_len l _ _ x ?_
    rw [List.getD, List.getElem?_eq_getElem (show l.length - 1 < l.length by omega)]; rfl
  induction k with
  | zero => rfl
  | succ k ih =>
    by_cases h : starts xs k
    · rw [risL_hit h, key _ _ (by simp)]; simp [ih]
    · rw [risL_miss h, key _ _ ((risL_srt xs k).2 (by have : k ≠ 0 := fun e => h (.inl e); omega)).1, ih]
theorem row_le_flatten {l : List (List Int)} {r : List Int} (h : r ∈ l) : r.length ≤ l.flatten.length := by
  induction l with
  | nil => cases h
  | cons a l ih =>
    rw [List.flatten_cons, List.length_append]
    rcases List.mem_cons.1 h with rfl | h1
    · omega
    · have := ih h1; omega
def mrV (xs : List Int) : List Int := if xs.length ≤ 16 then (finM 16 (risL xs xs.length)).1 else []
def mrN (xs : List Int) : Int := if xs.length ≤ 16 then ((finM 16 (risL xs xs.length)).2 : Int) else -1

end Go.Proofs.Ytaffokicnabkiaa

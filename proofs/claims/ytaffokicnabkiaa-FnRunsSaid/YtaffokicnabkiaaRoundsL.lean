/- Sorting with a stack again and again: plain lists. Each round that is needed leaves fewer pairs out of order. -/
import Derived.Test.YtaffokicnabkiaaStackL
import Derived.Test.YtaffokicnabkiaaPermL
namespace Go.Proofs.Ytaffokicnabkiaa
open Go.RowKit
set_option linter.unusedVariables false

/-- Pairs out of order. -/
def invL : List Int → Nat
  | [] => 0
  | x :: l => l.countP (fun y => decide (y < x)) + invL l
theorem invL_le (xs : List Int) : invL xs ≤ xs.length * xs.length := by
  induction xs with
  | nil => simp [invL]
  | cons x l ih =>
    have := List.countP_le_length (p := fun y => decide (y < x)) (l := l)
    simp only [invL, List.length_cons, Nat.succ_mul, Nat.mul_succ]; omega
theorem invL_move0 {x : Int} (R st : List Int) (h : ∀ y ∈ st, x < y) : invL (st ++ x :: R) = invL (x :: (st ++ R)) + st.length := by
  induction st with
  | nil => simp
  | cons y st ih =>
    have ih := ih (fun z hz => h z (by simp [hz]))
    have hy := h y (by simp)
    simp only [List.cons_append, invL, List.countP_append, List.countP_cons, List.length_cons] at ih ⊢
    rw [if_pos (by simpa using hy), if_neg (by simp; omega)]
    omega
theorem invL_move {x : Int} (A R st : List Int) (h : ∀ y ∈ st, x < y) : invL (A ++ (st ++ x :: R)) = invL (A ++ (x :: (st ++ R))) + st.length := by
  induction A with
  | nil => exact invL_move0 R st h
  | cons a A ih =>
    simp only [List.cons_append, invL]
    rw [ih]
    have hp : (A ++ (st ++ x :: R)).Perm (A ++ (x :: (st ++ R))) := List.Perm.append_left _ List.perm_middle
    rw [hp.countP_eq]; omega

theorem tkS_same (x : Int) (st : List Int) : ∀ out, (tkS x out st).1 ++ (tkS x out st).2 = out ++ st := by
  induction st with
  | nil => intro out; rfl
  | cons y st ih =>
    intro out
    rw [tkS]
    split
    · rw [ih]; simp
    · rfl
theorem tkS_suffix (x : Int) (st : List Int) : ∀ out, ∃ pre, st = pre ++ (tkS x out st).2 := by
  induction st with
  | nil => intro out; exact ⟨[], rfl⟩
  | cons y st ih =>
    intro out
    rw [tkS]
    split
    · obtain ⟨p, hp⟩ := ih (out ++ [y])
      exact ⟨y :: p, by rw [List.cons_append, ← hp]⟩
    · exact ⟨[], rfl⟩
theorem tkS_ge (x : Int) (st : List Int) (hs : st.Pairwise (· ≤ ·)) : ∀ out, ∀ y ∈ (tkS x out st).2, x ≤ y := by
  induction st with
  | nil => intro out y h; simp [tkS] at h
  | cons z st ih =>
    intro out y h
    rw [tkS] at h
    have hs' := List.pairwise_cons.1 hs
    split at h
    · exact ih hs'.2 _ y h
    · rcases List.mem_cons.1 h with rfl | h1
      · omega
      · have := hs'.1 y h1; omega

/-- All numbers: those that are out, those on the stack, those that are to come. -/
def stZ (xs : List Int) (k : Nat) : List Int := (stS xs k).1 ++ ((stS xs k).2 ++ xs.drop k)
theorem drop_nth {xs : List Int} {k : Nat} (h : k < xs.length) : xs.drop k = nth xs k :: xs.drop (k + 1) := by
  rw [List.drop_eq_getElem_cons h, nth_eq h]
theorem stS_sorted (xs : List Int) (k : Nat) (hk : k ≤ xs.length) : (stS xs k).2.Pairwise (· ≤ ·) := by
  induction k with
  | zero => exact List.Pairwise.nil
  | succ k ih =>
    have ih := ih (by omega)
    rw [stS]
    refine List.pairwise_cons.2 ⟨fun y hy => tkS_ge _ _ ih _ y hy, ?_⟩
    obtain ⟨p, hp⟩ := tkS_suffix (nth xs k) (stS xs k).2 (stS xs k).1
    rw [hp] at ih
    exact (List.pairwise_append.1 ih).2.1
theorem stZ_succ (xs : List Int) (k : Nat) (hk : k < xs.length) : ∃ A B, stZ xs k = A ++ (B ++ nth xs k :: xs.drop (k + 1)) ∧ stZ xs (k + 1) = A ++ (nth xs k :: (B ++ xs.drop (k + 1))) ∧ B = (tkS (nth xs k) (stS xs k).1 (stS xs k).2).2 := by
  refine ⟨(tkS (nth xs k) (stS xs k).1 (stS xs k).2).1, _, ?_, ?_, rfl⟩
  · rw [stZ, drop_nth hk, ← List.append_assoc, ← List.append_assoc, tkS_same]
  · rw [stZ, stS]; rfl
theorem stZ_perm (xs : List Int) (k : Nat) (hk : k ≤ xs.length) : (stZ xs k).Perm xs := by
  induction k with
  | zero => simp [stZ, stS]
  | succ k ih =>
    obtain ⟨A, B, h1, h2, _⟩ := stZ_succ xs k (by omega)
    refine List.Perm.trans ?_ (ih (by omega))
    rw [h1, h2]
    exact List.Perm.append_left _ List.perm_middle.symm
theorem stF_perm (xs : List Int) : (stF xs xs.length).Perm xs := by
  have := stZ_perm xs xs.length (Nat.le_refl _)
  rwa [stZ, List.drop_length, List.append_nil] at this
theorem stF_len (xs : List Int) : (stF xs xs.length).length = xs.length := (stF_perm xs).length_eq

/-- Each number is at most the next one. -/
def Rise (xs : List Int) : Prop := ∀ i, i + 1 < xs.length → nth xs i ≤ nth xs (i + 1)
theorem stZ_inv (xs : List Int) (hd : xs.Nodup) (k : Nat) (hk : k ≤ xs.length) : invL (stZ xs k) ≤ invL xs ∧
    (invL (stZ xs k) = invL xs → (∀ i, i + 1 < k → nth xs i ≤ nth xs (i + 1)) ∧ (stS xs k).2 = if k = 0 then [] else [nth xs (k - 1)]) := by
  induction k with
  | zero => exact ⟨by simp [stZ, stS], fun _ => ⟨fun i h => by omega, rfl⟩⟩
  | succ k ih =>
    obtain ⟨ih1, ih2⟩ := ih (by omega)
    obtain ⟨A, B, h1, h2, h3⟩ := stZ_succ xs k (by omega)
    have hn : (stZ xs k).Nodup := (stZ_perm xs k (by omega)).nodup_iff.2 hd
    have hlt : ∀ y ∈ B, nth xs k < y := fun y hy => by
      have h4 : nth xs k ≤ y := tkS_ge _ _ (stS_sorted xs k (by omega)) _ y (by rw [← h3]; exact hy)
      have h5 : nth xs k ≠ y := fun e => by
        rw [h1] at hn
        have h6 := (List.nodup_append.1 hn).2.1
        have h7 := (List.nodup_append.1 h6).2.2 y hy (nth xs k) (by simp)
        exact h7 e.symm
      omega
    have hm := invL_move A (xs.drop (k + 1)) B hlt
    rw [← h1, ← h2] at hm
    refine ⟨by omega, fun e => ?_⟩
    have hB : B = [] := List.eq_nil_of_length_eq_zero (by omega)
    obtain ⟨ih3, ih4⟩ := ih2 (by omega)
    have h8 : (stS xs (k + 1)).2 = [nth xs k] := by rw [stS, ← h3, hB]
    refine ⟨fun i hi => ?_, by rw [h8]; simp⟩
    rcases Nat.lt_or_ge (i + 1) k with h9 | h9
    · exact ih3 i h9
    · obtain rfl : k = i + 1 := by omega
      rw [ih4, if_neg (by omega), show i + 1 - 1 = i by omega] at h3
      by_cases hc : nth xs i < nth xs (i + 1)
      · omega
      · rw [tkS_no hc, hB] at h3; cases h3
theorem stF_inv {xs : List Int} (hd : xs.Nodup) (h : ¬ Rise xs) : invL (stF xs xs.length) < invL xs := by
  obtain ⟨h1, h2⟩ := stZ_inv xs hd xs.length (Nat.le_refl _)
  have e : stZ xs xs.length = stF xs xs.length := by rw [stZ, List.drop_length, List.append_nil]; rfl
  rw [e] at h1 h2
  rcases Nat.lt_or_ge (invL (stF xs xs.length)) (invL xs) with h3 | h3
  · exact h3
  · exact absurd (h2 (by omega)).1 h

/-- An order, by its numbers. -/
theorem seenTo_of {xs : List Int} {n k q : Nat} (h0 : ∀ j, j < k → 0 ≤ nth xs j) (h : (seenTo xs n k).getD q false = true) : ∃ i, i < k ∧ nth xs i = (q : Int) := by
  induction k with
  | zero =>
    exfalso
    simp only [seenTo, List.getD, List.getElem?_replicate] at h
    split at h <;> simp at h
  | succ k ih =>
    rw [seenTo, List.getD, List.getElem?_set] at h
    split at h
    · rename_i e
      exact ⟨k, by omega, by have := h0 k (by omega); omega⟩
    · obtain ⟨i, h1, h2⟩ := ih (fun j hj => h0 j (by omega)) (by rw [List.getD]; exact h)
      exact ⟨i, by omega, h2⟩
theorem isPerm_of {xs : List Int} (hl : xs.length ≤ 8) (hb : ∀ j, j < xs.length → 0 ≤ nth xs j ∧ nth xs j < xs.length) (hi : ∀ i j, i < j → j < xs.length → nth xs i ≠ nth xs j) : isPerm xs = true := by
  have : ∀ k, k ≤ xs.length → okTo xs xs.length k = true := by
    intro k
    induction k with
    | zero => intro _; rfl
    | succ k ih =>
      intro hk
      have h1 := hb k (by omega)
      obtain ⟨q, hq⟩ : ∃ q : Nat, nth xs k = (q : Int) := ⟨(nth xs k).toNat, by omega⟩
      refine okTo_yes (ih (by omega)) hq (by omega) ?_
      cases e : (seenTo xs xs.length k).getD q false
      · rfl
      · obtain ⟨i, h2, h3⟩ := seenTo_of (fun j hj => (hb j (by omega)).1) e
        exact absurd (h3.trans hq.symm) (hi i k h2 (by omega))
  unfold isPerm
  rw [this _ (Nat.le_refl _), decide_eq_true hl]; rfl
theorem isPerm_nodup {xs : List Int} (h : isPerm xs = true) : xs.Nodup := by
  rw [List.Nodup, List.pairwise_iff_getElem]
  intro i j hi hj hij e
  refine isPerm_inj h i j hij hj ?_
  rw [nth_eq hi, nth_eq hj]; exact e
theorem isPerm_perm {xs ys : List Int} (h : isPerm xs = true) (p : ys.Perm xs) : isPerm ys = true := by
  have hl := p.length_eq
  refine isPerm_of (by rw [hl]; exact isPerm_len h) (fun j hj => ?_) (fun i j hij hj e => ?_)
  · rw [nth_eq hj, hl]
    obtain ⟨i, hi, e⟩ := List.mem_iff_getElem.1 (p.mem_iff.1 (List.getElem_mem hj))
    rw [← e, ← nth_eq hi]
    exact isPerm_bd h i hi
  · have hn : ys.Nodup := p.nodup_iff.2 (isPerm_nodup h)
    rw [nth_eq hj, nth_eq (by omega)] at e
    exact List.pairwise_iff_getElem.1 hn i j (by omega) hj hij e
theorem isPerm_stF {xs : List Int} (h : isPerm xs = true) : isPerm (stF xs xs.length) = true := isPerm_perm h (stF_perm xs)

/-- After k rounds. -/
def itS (xs : List Int) : Nat → List Int
  | 0 => xs
  | k + 1 => stF (itS xs k) (itS xs k).length
theorem itS_front (xs : List Int) (k : Nat) : itS xs (k + 1) = itS (stF xs xs.length) k := by
  induction k with
  | zero => rfl
  | succ k ih => rw [itS, ih, itS]
theorem itS_len (xs : List Int) (k : Nat) : (itS xs k).length = xs.length := by
  induction k with
  | zero => rfl
  | succ k ih => rw [itS, stF_len, ih]
theorem itS_isPerm {xs : List Int} (h : isPerm xs = true) (k : Nat) : isPerm (itS xs k) = true := by
  induction k with
  | zero => exact h
  | succ k ih => exact isPerm_stF ih
def Rounds (xs : List Int) (r : Nat) : Prop := Rise (itS xs r) ∧ ∀ k, k < r → ¬ Rise (itS xs k)
theorem Rounds.ex (m : Nat) : ∀ xs : List Int, invL xs ≤ m → xs.Nodup → ∃ r, r ≤ m ∧ Rounds xs r := by
  induction m with
  | zero =>
    intro xs h hd
    by_cases hr : Rise xs
    · exact ⟨0, Nat.le_refl _, hr, fun k hk => by omega⟩
    · have := stF_inv hd hr; omega
  | succ m ih =>
    intro xs h hd
    by_cases hr : Rise xs
    · exact ⟨0, Nat.zero_le _, hr, fun k hk => by omega⟩
    · have h1 := stF_inv hd hr
      obtain ⟨r, h2, h3, h4⟩ := ih (stF xs xs.length) (by omega) ((stF_perm xs).nodup_iff.2 hd)
      refine ⟨r + 1, by omega, by rw [itS_front]; exact h3, fun k hk => ?_⟩
      cases k with
      | zero => exact hr
      | succ k => rw [itS_front]; exact h4 k (by omega)
theorem Rounds.one {xs : List Int} {r s : Nat} (h : Rounds xs r) (h' : Rounds xs s) : r = s := by
  rcases Nat.lt_trichotomy r s with h1 | h1 | h1
  · exact absurd h.1 (h'.2 r h1)
  · exact h1
  · exact absurd h'.1 (h.2 s h1)
open Classical in
noncomputable def roundsN (xs : List Int) : Nat := if h : ∃ r, Rounds xs r then Classical.choose h else 0
open Classical in
theorem roundsN_spec {xs : List Int} (h : isPerm xs = true) : Rounds xs (roundsN xs) ∧ roundsN xs ≤ 64 := by
  obtain ⟨r, h1, h2⟩ := Rounds.ex (invL xs) xs (Nat.le_refl _) (isPerm_nodup h)
  have h3 : ∃ r, Rounds xs r := ⟨r, h2⟩
  have h4 : Rounds xs (roundsN xs) := by unfold roundsN; rw [dif_pos h3]; exact Classical.choose_spec h3
  refine ⟨h4, ?_⟩
  rw [h4.one h2]
  have h5 := invL_le xs
  have h6 := isPerm_len h
  have : xs.length * xs.length ≤ 8 * 8 := Nat.mul_le_mul h6 h6
  omega
noncomputable def srV (xs : List Int) : Int := if isPerm xs = true then (roundsN xs : Int) else -1
noncomputable def riseB (xs : List Int) : Bool := open Classical in decide (Rise xs)
theorem riseB_yes {xs : List Int} (h : Rise xs) : riseB xs = true := by unfold riseB; simpa using h
theorem riseB_no {xs : List Int} (h : ¬ Rise xs) : riseB xs = false := by unfold riseB; simpa using h

end Go.Proofs.Ytaffokicnabkiaa

/- Runs that a store writes: what the reference chooses out of an unsorted store (plain). -/
import Derived.Test.YtaffokicnabkiaaRepL
namespace Go.Proofs.Ytaffokicnabkiaa
open Go.RowKit
set_option linter.unusedVariables false

def fits (out : List (List Int)) (x : Int) : Bool := decide (0 < out.length) && decide (lastR out ≤ x)
/-- The first of the least among the first m that fit. -/
def fq (out : List (List Int)) (st : List Int) : Nat → Option Nat
  | 0 => none
  | j + 1 => match fq out st j with
    | none => if fits out (nth st j) = true then some j else none
    | some q => if fits out (nth st j) = true ∧ nth st j < nth st q then some j else some q
theorem fq_law (out : List (List Int)) (st : List Int) : ∀ m, (fq out st m = none → ∀ j, j < m → fits out (nth st j) = false) ∧ (∀ q, fq out st m = some q → q < m ∧ fits out (nth st q) = true ∧ ∀ j, j < m → fits out (nth st j) = true → nth st q ≤ nth st j)
  | 0 => ⟨fun _ j h => by omega, fun q h => by cases h⟩
  | m + 1 => by
    obtain ⟨h1, h2⟩ := fq_law out st m
    rw [fq]
    cases e : fq out st m with
    | none =>
      have h3 := h1 e
      simp only
      split
      · rename_i hf
        refine ⟨fun h => (by cases h), fun q h => ?_⟩
        simp only [Option.some.injEq] at h; subst h
        refine ⟨by omega, hf, fun j hj hfj => ?_⟩
        rcases Nat.lt_or_ge j m with h4 | h4
        · have := h3 j h4; rw [this] at hfj; cases hfj
        · obtain rfl : j = m := by omega
          exact Int.le_refl _
      · rename_i hf
        refine ⟨fun _ j hj => ?_, fun q h => by cases h⟩
        rcases Nat.lt_or_ge j m with h4 | h4
        · exact h3 j h4
        · obtain rfl : j = m := by omega
          simpa using hf
    | some q =>
      obtain ⟨h3, h4, h5⟩ := h2 q e
      simp only
      split
      · rename_i hf
        refine ⟨fun h => (by cases h), fun q' h => ?_⟩
        simp only [Option.some.injEq] at h; subst h
        refine ⟨by omega, hf.1, fun j hj hfj => ?_⟩
        rcases Nat.lt_or_ge j m with h6 | h6
        · have := h5 j h6 hfj; have := hf.2; omega
        · obtain rfl : j = m := by omega
          exact Int.le_refl _
      · rename_i hf
        refine ⟨fun h => (by cases h), fun q' h => ?_⟩
        simp only [Option.some.injEq] at h; subst h
        refine ⟨by omega, h4, fun j hj hfj => ?_⟩
        rcases Nat.lt_or_ge j m with h6 | h6
        · exact h5 j h6 hfj
        · obtain rfl : j = m := by omega
          have : ¬ nth st j < nth st q := fun h => hf ⟨hfj, h⟩
          omega
/-- The first of the least among the first k. -/
def lq (st : List Int) : Nat → Nat
  | 0 => 0
  | j + 1 => if nth st j < nth st (lq st j) then j else lq st j
theorem lq_lt (st : List Int) (h : 0 < st.length) : ∀ k, k ≤ st.length → lq st k < st.length
  | 0, _ => h
  | k + 1, hk => by
    unfold lq
    split
    · omega
    · exact lq_lt st h k (by omega)
theorem lq_le (st : List Int) : ∀ k j, j < k → nth st (lq st k) ≤ nth st j
  | 0, j, h => by omega
  | k + 1, j, h => by
    have ih := lq_le st k
    unfold lq
    rcases Nat.lt_or_ge j k with h1 | h1
    · have := ih j h1
      split <;> omega
    · obtain rfl : j = k := by omega
      split <;> omega
/-- The place chosen; whether a run goes on. -/
def chF (out : List (List Int)) (st : List Int) : Bool := (fq out st st.length).isSome
def chQ (out : List (List Int)) (st : List Int) : Nat := (fq out st st.length).getD (lq st st.length)
theorem chQ_lt {out : List (List Int)} {st : List Int} (h : 0 < st.length) : chQ out st < st.length := by
  unfold chQ
  cases e : fq out st st.length with
  | none => exact lq_lt st h _ (Nat.le_refl _)
  | some q => exact ((fq_law out st _).2 q e).1
theorem ch_is {out : List (List Int)} {S st : List Int} (hS : Srt S) (hp : st.Perm S) (h0 : 0 < st.length) :
    rpF out S = chF out st ∧ nth st (chQ out st) = nth S (rpP out S) ∧ (rmAt st (chQ out st)).Perm (rmAt S (rpP out S)) := by
  have hl := chQ_lt (out := out) h0
  unfold chF chQ at *
  cases e : fq out st st.length with
  | none =>
    have h1 := (fq_law out st _).1 e
    simp only [e, Option.getD_none, Option.isSome_none] at hl ⊢
    exact pick_none hS hp (fun ho j hj => by
      have h2 := h1 j hj
      unfold fits at h2
      rw [decide_eq_true ho, Bool.true_and, decide_eq_false_iff_not] at h2
      omega) hl (fun j hj => lq_le st _ j hj)
  | some q =>
    obtain ⟨h1, h2, h3⟩ := (fq_law out st _).2 q e
    simp only [e, Option.getD_some, Option.isSome_some] at hl ⊢
    have h4 := h2
    unfold fits at h4
    rw [Bool.and_eq_true, decide_eq_true_iff, decide_eq_true_iff] at h4
    exact pick_fit hS hp h4.1 hl h4.2 (fun j hj hj2 => h3 j hj (by unfold fits; rw [decide_eq_true h4.1, decide_eq_true hj2]; rfl))

/-- The reference's store ahead of a round, after k numbers written: what it holds and will have filled in is the program's store. -/
def Fill (xs : List Int) (room k nx : Nat) (st : List Int) : Prop :=
  nx ≤ xs.length ∧ st.length ≤ room ∧ (st ++ (xs.drop nx).take (room - st.length)).Perm (rp xs room k).2 ∧ nx + ((xs.drop nx).take (room - st.length)).length = min xs.length (room + k)
theorem Fill.start (xs : List Int) (room : Nat) : Fill xs room 0 0 [] := by
  refine ⟨by omega, by simp, ?_, ?_⟩
  · simp only [List.nil_append, List.length_nil, Nat.sub_zero, List.drop_zero]
    exact (srt_perm (xs.take room)).symm
  · simp; omega
theorem Fill.step {xs : List Int} {room k nx : Nat} {st : List Int} (h : Fill xs room k nx st) (h1 : st.length < room) (h2 : nx < xs.length) : Fill xs room k (nx + 1) (st ++ [nth xs nx]) := by
  obtain ⟨a, b, c, d⟩ := h
  have e : (xs.drop nx).take (room - st.length) = nth xs nx :: (xs.drop (nx + 1)).take (room - (st.length + 1)) := by
    rw [drop_nth h2, show room - st.length = (room - (st.length + 1)) + 1 by omega, List.take_succ_cons]
  rw [e] at c d
  refine ⟨by omega, by simp; omega, ?_, ?_⟩
  · simpa using c
  · have hl : (st ++ [nth xs nx]).length = st.length + 1 := by simp
    rw [hl]; rw [List.length_cons] at d; omega
theorem Fill.done {xs : List Int} {room k nx : Nat} {st : List Int} (h : Fill xs room k nx st) (h1 : ¬ (st.length < room ∧ nx < xs.length)) : st.Perm (rp xs room k).2 ∧ nx = min xs.length (room + k) := by
  obtain ⟨a, b, c, d⟩ := h
  have e : (xs.drop nx).take (room - st.length) = [] := by
    apply List.eq_nil_of_length_eq_zero
    rw [List.length_take, List.length_drop]; omega
  rw [e] at c d
  exact ⟨by simpa using c, by simpa using d⟩
/-- The round goes on as long as numbers are to be written. -/
theorem Fill.more {xs : List Int} {room k nx : Nat} {st : List Int} (h : Fill xs room k nx st) (hr : 1 ≤ room) (hk : k ≤ xs.length) : (nx < xs.length ∨ 0 < st.length) ↔ k < xs.length := by
  obtain ⟨a, b, c, d⟩ := h
  have h1 := c.length_eq
  rw [rp_len xs room hr k hk, List.length_append] at h1
  rw [List.length_take, List.length_drop] at h1 d
  constructor
  · intro h
    rcases h with h | h <;> omega
  · intro h
    omega
/-- A round. -/
theorem Fill.next {xs : List Int} {room k nx : Nat} {st : List Int} (hr : 1 ≤ room) (hk : k < xs.length) (hp : st.Perm (rp xs room k).2) (hn : nx = min xs.length (room + k)) {q : Nat} (hq : q < st.length) (hr' : (rmAt st q).Perm (rmAt (rp xs room k).2 (rpP (rp xs room k).1 (rp xs room k).2))) : Fill xs room (k + 1) nx (rmAt st q) := by
  have h1 := hp.length_eq
  rw [rp_len xs room hr k (by omega)] at h1
  have h2 := rmAt_len hq
  have e : (xs.drop nx).take (room - (rmAt st q).length) = (xs.drop (room + k)).take 1 := by
    rcases Nat.lt_or_ge (room + k) xs.length with h | h
    · rw [show nx = room + k by omega, show room - (rmAt st q).length = 1 by omega]
    · rw [List.drop_of_length_le (by omega), List.drop_of_length_le h]; simp
  refine ⟨by omega, by omega, ?_, ?_⟩
  · rw [e]
    simp only [rp]
    exact (hr'.append_right _).trans (srt_perm _).symm
  · rw [e, List.length_take, List.length_drop]; omega
end Go.Proofs.Ytaffokicnabkiaa

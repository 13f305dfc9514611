/- Runs that a store writes: plain lists. -/
import Derived.Test.YtaffokicnabkiaaMergeL
import Derived.Test.YtaffokicnabkiaaHelp
namespace Go.Proofs.Ytaffokicnabkiaa
open Go.RowKit
set_option linter.unusedVariables false

/-- The number written last. -/
def lastR (out : List (List Int)) : Int := nth (out.getD (out.length - 1) []) ((out.getD (out.length - 1) []).length - 1)
/-- The least place below m whose number is at least l. -/
def pk (l : Int) (S : List Int) : Nat → Option Nat
  | 0 => none
  | m + 1 => match pk l S m with
    | some j => some j
    | none => if l ≤ nth S m then some m else none
theorem pk_some {l : Int} {S : List Int} {m j : Nat} (h : pk l S m = some j) : j < m ∧ l ≤ nth S j ∧ ∀ i, i < j → nth S i < l := by
  induction m generalizing j with
  | zero => cases h
  | succ m ih =>
    have key : ∀ i, pk l S m = none → i < m → nth S i < l := by
      clear ih h j
      induction m with
      | zero => intro i _ h; omega
      | succ m ih =>
        intro i h hi
        rw [pk] at h
        cases e : pk l S m with
        | some q => rw [e] at h; cases h
        | none =>
          rw [e] at h
          simp only at h
          split at h
          · cases h
          · rcases Nat.lt_or_ge i m with h1 | h1
            · exact ih i e h1
            · obtain rfl : i = m := by omega
              omega
    rw [pk] at h
    cases e : pk l S m with
    | some q =>
      rw [e] at h
      simp only [Option.some.injEq] at h
      subst h
      obtain ⟨h1, h2, h3⟩ := ih e
      exact ⟨by omega, h2, h3⟩
    | none =>
      rw [e] at h
      simp only at h
      split at h
      · rename_i h1
        simp only [Option.some.injEq] at h
        subst h
        exact ⟨by omega, h1, fun i hi => key i e hi⟩
      · cases h
theorem pk_none {l : Int} {S : List Int} {m : Nat} (h : pk l S m = none) : ∀ i, i < m → nth S i < l := by
  induction m with
  | zero => intro i h; omega
  | succ m ih =>
    intro i hi
    rw [pk] at h
    cases e : pk l S m with
    | some q => rw [e] at h; cases h
    | none =>
      rw [e] at h
      simp only at h
      split at h
      · cases h
      · rcases Nat.lt_or_ge i m with h1 | h1
        · exact ih e i h1
        · obtain rfl : i = m := by omega
          omega
theorem pk_is {l : Int} {S : List Int} {m j : Nat} (h1 : j < m) (h2 : l ≤ nth S j) (h3 : ∀ i, i < j → nth S i < l) : pk l S m = some j := by
  cases e : pk l S m with
  | none => have := pk_none e j h1; omega
  | some q =>
    obtain ⟨q1, q2, q3⟩ := pk_some e
    rcases Nat.lt_trichotomy j q with h | h | h
    · have := q3 j h; omega
    · rw [h]
    · have := h3 q h; omega
theorem pk_isNone {l : Int} {S : List Int} {m : Nat} (h : ∀ i, i < m → nth S i < l) : pk l S m = none := by
  cases e : pk l S m with
  | none => rfl
  | some q =>
    obtain ⟨q1, q2, q3⟩ := pk_some e
    have := h q q1; omega
def pkO (out : List (List Int)) (S : List Int) : Option Nat := if out.length = 0 then none else pk (lastR out) S S.length
def rpP (out : List (List Int)) (S : List Int) : Nat := (pkO out S).getD 0
def rpF (out : List (List Int)) (S : List Int) : Bool := (pkO out S).isSome
def putR (out : List (List Int)) (f : Bool) (v : Int) : List (List Int) := if f = true then addL out v else out ++ [[v]]
def rmAt (S : List Int) (p : Nat) : List Int := S.take p ++ S.drop (p + 1)
theorem rmAt_len {S : List Int} {p : Nat} (h : p < S.length) : (rmAt S p).length = S.length - 1 := by
  unfold rmAt; rw [List.length_append, List.length_take, List.length_drop]; omega
theorem rmAt_perm {S : List Int} {p : Nat} (h : p < S.length) : S.Perm (nth S p :: rmAt S p) := by
  have h1 : S = S.take p ++ nth S p :: S.drop (p + 1) := by
    rw [nth_eq h, List.getElem_cons_drop, List.take_append_drop]
  have h2 : (S.take p ++ nth S p :: S.drop (p + 1)).Perm (nth S p :: rmAt S p) := List.perm_middle
  rwa [← h1] at h2
def rp (xs : List Int) (room : Nat) : Nat → List (List Int) × List Int
  | 0 => ([], srt (xs.take room))
  | k + 1 => (putR (rp xs room k).1 (rpF (rp xs room k).1 (rp xs room k).2) (nth (rp xs room k).2 (rpP (rp xs room k).1 (rp xs room k).2)),
      srt (rmAt (rp xs room k).2 (rpP (rp xs room k).1 (rp xs room k).2) ++ (xs.drop (room + k)).take 1))
theorem rpP_lt {out : List (List Int)} {S : List Int} (h : 0 < S.length) : rpP out S < S.length := by
  unfold rpP pkO
  split
  · simpa using h
  · cases e : pk (lastR out) S S.length with
    | none => simpa using h
    | some j => simpa using (pk_some e).1
theorem rp_len (xs : List Int) (room : Nat) (hr : 1 ≤ room) (k : Nat) (hk : k ≤ xs.length) : (rp xs room k).2.length = min room (xs.length - k) := by
  induction k with
  | zero => simp only [rp]; rw [srt_len, List.length_take]; omega
  | succ k ih =>
    have ih := ih (by omega)
    simp only [rp]
    rw [srt_len, List.length_append, rmAt_len (rpP_lt (by omega)), List.length_take, List.length_drop]
    omega
theorem rp_srt (xs : List Int) (room k : Nat) : Srt (rp xs room k).2 := by
  cases k with
  | zero => exact srt_srt _
  | succ k => exact srt_srt _
/-- What is chosen, by the store's numbers alone: one fits. -/
theorem pick_fit {out : List (List Int)} {S st : List Int} {q : Nat} (hS : Srt S) (hp : st.Perm S) (ho : 0 < out.length) (hq : q < st.length) (h1 : lastR out ≤ nth st q) (h2 : ∀ j, j < st.length → lastR out ≤ nth st j → nth st q ≤ nth st j) :
    rpF out S = true ∧ nth st q = nth S (rpP out S) ∧ (rmAt st q).Perm (rmAt S (rpP out S)) := by
  have hex : ∃ i, i < S.length ∧ nth S i = nth st q := by
    have h3 : nth st q ∈ S := hp.mem_iff.1 (by rw [nth_eq hq]; exact List.getElem_mem hq)
    obtain ⟨i, hi, e⟩ := List.mem_iff_getElem.1 h3
    exact ⟨i, hi, by rw [nth_eq hi]; exact e⟩
  obtain ⟨i, hi, hie⟩ := hex
  cases e : pk (lastR out) S S.length with
  | none => have := pk_none e i hi; omega
  | some p =>
    obtain ⟨p1, p2, p3⟩ := pk_some e
    have hO : pkO out S = some p := by unfold pkO; rw [if_neg (by omega), e]
    have hP : rpP out S = p := by unfold rpP; rw [hO]; rfl
    have hF : rpF out S = true := by unfold rpF; rw [hO]; rfl
    have hv : nth st q = nth S p := by
      have h4 : nth S p ∈ st := hp.mem_iff.2 (by rw [nth_eq p1]; exact List.getElem_mem p1)
      obtain ⟨j, hj, ej⟩ := List.mem_iff_getElem.1 h4
      have h5 := h2 j hj (by rw [nth_eq hj, ej]; exact p2)
      rw [nth_eq hj, ej] at h5
      have h6 : nth S p ≤ nth S i := by
        rcases Nat.lt_trichotomy p i with h | h | h
        · exact hS p i h hi
        · rw [h]; omega
        · have := p3 i h; omega
      omega
    refine ⟨hF, by rw [hP]; exact hv, ?_⟩
    rw [hP]
    have h7 := ((rmAt_perm hq).symm.trans hp).trans (rmAt_perm p1)
    rw [hv] at h7
    exact h7.cons_inv
/-- .. none fits: the least. -/
theorem pick_none {out : List (List Int)} {S st : List Int} {q : Nat} (hS : Srt S) (hp : st.Perm S) (hno : 0 < out.length → ∀ j, j < st.length → nth st j < lastR out) (hq : q < st.length) (h2 : ∀ j, j < st.length → nth st q ≤ nth st j) :
    rpF out S = false ∧ nth st q = nth S (rpP out S) ∧ (rmAt st q).Perm (rmAt S (rpP out S)) := by
  have hl : st.length = S.length := hp.length_eq
  have hO : pkO out S = none := by
    unfold pkO
    split
    · rfl
    · rename_i h0
      refine pk_isNone fun i hi => ?_
      have h3 : nth S i ∈ st := hp.mem_iff.2 (by rw [nth_eq hi]; exact List.getElem_mem hi)
      obtain ⟨j, hj, ej⟩ := List.mem_iff_getElem.1 h3
      have := hno (by omega) j hj
      rwa [nth_eq hj, ej] at this
  have hP : rpP out S = 0 := by unfold rpP; rw [hO]; rfl
  have hF : rpF out S = false := by unfold rpF; rw [hO]; rfl
  have h0 : 0 < S.length := by omega
  have hv : nth st q = nth S 0 := by
    have h3 : nth st q ∈ S := hp.mem_iff.1 (by rw [nth_eq hq]; exact List.getElem_mem hq)
    obtain ⟨i, hi, ei⟩ := List.mem_iff_getElem.1 h3
    have h4 : nth S 0 ∈ st := hp.mem_iff.2 (by rw [nth_eq h0]; exact List.getElem_mem h0)
    obtain ⟨j, hj, ej⟩ := List.mem_iff_getElem.1 h4
    have h5 := h2 j hj
    rw [nth_eq hj, ej] at h5
    have h6 : nth S 0 ≤ nth S i := by
      rcases Nat.eq_zero_or_pos i with h | h
      · rw [h]; omega
      · exact hS 0 i h hi
    rw [nth_eq hi, ei] at h6
    omega
  refine ⟨hF, by rw [hP]; exact hv, ?_⟩
  rw [hP]
  have h7 := ((rmAt_perm hq).symm.trans hp).trans (rmAt_perm h0)
  rw [hv] at h7
  exact h7.cons_inv
theorem putR_rows {out : List (List Int)} {f : Bool} {v : Int} {m : Nat} (h : ∀ r ∈ out, 0 < r.length ∧ r.length ≤ m) (hm : 0 < out.length ∨ f = false) : ∀ r ∈ putR out f v, 0 < r.length ∧ r.length ≤ m + 1 := by
  intro r hr
  unfold putR at hr
  split at hr
  · rcases mem_addL hr with h1 | h1
    · have := h r h1; omega
    · subst h1
      rw [List.length_append, List.length_singleton]
      rcases hm with h2 | h2
      · have := h _ (getD_memL h2); omega
      · rename_i h3; rw [h2] at h3; cases h3
  · rcases List.mem_append.1 hr with h1 | h1
    · have := h r h1; omega
    · simp at h1; subst h1; simp
theorem rp_rows (xs : List Int) (room k : Nat) : ∀ r ∈ (rp xs room k).1, 0 < r.length ∧ r.length ≤ k := by
  induction k with
  | zero => intro r h; simp [rp] at h
  | succ k ih =>
    simp only [rp]
    refine putR_rows ih ?_
    cases e : rpF (rp xs room k).1 (rp xs room k).2
    · exact .inr rfl
    · left
      unfold rpF pkO at e
      rcases Nat.eq_zero_or_pos (rp xs room k).1.length with h | h
      · rw [if_pos h] at e; cases e
      · exact h
theorem rp_outlen (xs : List Int) (room k : Nat) : (rp xs room k).1.length ≤ k := by
  induction k with
  | zero => simp [rp]
  | succ k ih =>
    simp only [rp, putR]
    split
    · rw [addL_len]; omega
    · rw [List.length_append, List.length_singleton]; omega
def rrV (xs : List Int) (room : Int) : List (List Int) := if xs.length ≤ 16 ∧ 1 ≤ room ∧ room ≤ 8 then (rp xs room.toNat xs.length).1 else []
theorem rrV_no {xs : List Int} {room : Int} (h : ¬ (xs.length ≤ 16 ∧ 1 ≤ room ∧ room ≤ 8)) : rrV xs room = [] := by unfold rrV; rw [if_neg h]
theorem rrV_yes {xs : List Int} {room : Nat} (h1 : xs.length ≤ 16) (h2 : 1 ≤ room) (h3 : room ≤ 8) : rrV xs (room : Int) = (rp xs room xs.length).1 := by unfold rrV; rw [if_pos ⟨h1, by omega, by omega⟩, Int.toNat_natCast]

end Go.Proofs.Ytaffokicnabkiaa

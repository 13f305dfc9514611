/- Merging runs two by two: what both sides call. No condition but lengths. -/
import Derived.Test.YtaffokicnabkiaaMergeL
import Derived.Test.YtaffokicnabkiaaConcat
import Derived.Test.YtaffokicnabkiaaRise
import Derived.Test.YtaffokicnabkiaaTurn
import Derived.Test.YtaffokicnabkiaaGrid
import Derived.Lib.AppendZerosOnto
namespace Go.Proofs.Ytaffokicnabkiaa
open Go.RowKit
set_option linter.unusedVariables false
set_option linter.unusedSimpArgs false


theorem perm_snoc_a {out A B : List Int} {x : Int} (h : out.Perm (A ++ B)) : (out ++ [x]).Perm ((A ++ [x]) ++ B) := by
  have h1 : (out ++ [x]).Perm ((A ++ B) ++ [x]) := List.Perm.append_right _ h
  refine h1.trans ?_
  rw [List.append_assoc, List.append_assoc]
  exact List.Perm.append_left _ List.perm_append_comm
theorem perm_snoc_b {out A B : List Int} {x : Int} (h : out.Perm (A ++ B)) : (out ++ [x]).Perm (A ++ (B ++ [x])) := by
  rw [← List.append_assoc]; exact List.Perm.append_right _ h

/-- What is merged so far: in order, the first k and the first i, no number above those to come. -/
structure Mg (us bs out : List Int) (k i : Nat) : Prop where
  so : Srt out
  perm : out.Perm (us.take k ++ bs.take i)
  le : ∀ j, j < out.length → (k < us.length → nth out j ≤ nth us k) ∧ (i < bs.length → nth out j ≤ nth bs i)
theorem Mg.len {us bs out : List Int} {k i : Nat} (h : Mg us bs out k i) (hk : k ≤ us.length) (hi : i ≤ bs.length) : out.length = k + i := by
  rw [h.perm.length_eq, List.length_append, List.length_take, List.length_take]; omega
theorem Mg.pushB {us bs out : List Int} {k i : Nat} (h : Mg us bs out k i) (hb : Srt bs) (hi : i < bs.length) (hk : k < us.length) (hlt : nth bs i < nth us k) : Mg us bs (out ++ [nth bs i]) k (i + 1) := by
  refine ⟨h.so.snoc (fun j hj => (h.le j hj).2 hi), by rw [take_nth hi]; exact perm_snoc_b h.perm, fun j hj => ?_⟩
  rw [List.length_append, List.length_singleton] at hj
  rcases Nat.lt_or_ge j out.length with h1 | h1
  · rw [nth_appL h1]
    have h2 := (h.le j h1).2 hi
    exact ⟨(h.le j h1).1, fun h3 => by have := hb i (i + 1) (by omega) h3; omega⟩
  · rw [nth_appR h1, show j - out.length = 0 by omega]
    exact ⟨fun _ => by simp [nth] at hlt ⊢; omega, fun h3 => by have := hb i (i + 1) (by omega) h3; simp [nth] at this ⊢; omega⟩
theorem Mg.pushA {us bs out : List Int} {k i : Nat} (h : Mg us bs out k i) (ha : Srt us) (hk : k < us.length) (hge : i < bs.length → nth us k ≤ nth bs i) : Mg us bs (out ++ [nth us k]) (k + 1) i := by
  refine ⟨h.so.snoc (fun j hj => (h.le j hj).1 hk), by rw [take_nth hk]; exact perm_snoc_a h.perm, fun j hj => ?_⟩
  rw [List.length_append, List.length_singleton] at hj
  rcases Nat.lt_or_ge j out.length with h1 | h1
  · rw [nth_appL h1]
    have h2 := (h.le j h1).1 hk
    exact ⟨fun h3 => by have := ha k (k + 1) (by omega) h3; omega, (h.le j h1).2⟩
  · rw [nth_appR h1, show j - out.length = 0 by omega]
    exact ⟨fun h3 => by have := ha k (k + 1) (by omega) h3; simp [nth] at this ⊢; omega, fun h3 => by have := hge h3; simp [nth] at this ⊢; omega⟩
theorem Mg.fin {us bs out : List Int} {i : Nat} (h : Mg us bs out us.length i) (hb : Srt bs) (hi : i ≤ bs.length) : out ++ bs.drop i = srt (us ++ bs) := by
  refine srt_of ?_ ?_
  · intro p q hpq hq
    rw [List.length_append, List.length_drop] at hq
    rcases Nat.lt_or_ge q out.length with h1 | h1
    · rw [nth_appL (by omega), nth_appL h1]; exact h.so p q hpq h1
    · rw [nth_appR h1, nth_dropL]
      rcases Nat.lt_or_ge p out.length with h2 | h2
      · rw [nth_appL h2]
        have h3 := (h.le p h2).2 (by omega)
        rcases Nat.eq_or_lt_of_le (Nat.zero_le (q - out.length)) with h4 | h4
        · rw [← h4, Nat.add_zero]; exact h3
        · have := hb i (i + (q - out.length)) (by omega) (by omega); omega
      · rw [nth_appR h2, nth_dropL]; exact hb _ _ (by omega) (by omega)
  · have h1 : (out ++ bs.drop i).Perm ((us.take us.length ++ bs.take i) ++ bs.drop i) := List.Perm.append_right _ h.perm
    rwa [List.take_length, List.append_assoc, List.take_append_drop] at h1

















































































end Go.Proofs.Ytaffokicnabkiaa

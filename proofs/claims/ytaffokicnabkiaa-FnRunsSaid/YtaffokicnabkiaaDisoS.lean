/- Plain lists: the order of a stable sort, and how far numbers move. -/
import Derived.Test.YtaffokicnabkiaaDis4
import Derived.Test.YtaffokicnabkiaaSrtL
namespace Go.Proofs.Ytaffokicnabkiaa
set_option linter.unusedVariables false

def keyP (xs : List Int) (p : Int) : Int := nth xs p.toNat
theorem insAt_map (f : Int → Int) (ys : List Int) (k : Nat) (x : Int) : (insAt ys k x).map f = insAt (ys.map f) k (f x) := by
  simp [insAt, List.map_take, List.map_drop]
theorem nth_mapF (f : Int → Int) (ys : List Int) (j : Nat) (h : j < ys.length) : nth (ys.map f) j = f (nth ys j) := by
  rw [nth_eq (by simpa using h), nth_eq h]; simp
theorem slotD_map (xs ys : List Int) (q : Int) (k : Nat) (hk : k ≤ ys.length) : slotD (ltK xs) ys q k = slotD ltD (ys.map (keyP xs)) (keyP xs q) k := by
  induction k with
  | zero => rfl
  | succ k ih =>
    have h := ih (by omega)
    have e : ltD (keyP xs q) (nth (ys.map (keyP xs)) k) = ltK xs q (nth ys k) := by rw [nth_mapF _ _ _ (by omega)]; rfl
    simp only [slotD]; rw [e, h]
theorem sortTo_map (xs : List Int) (n m : Nat) (h : m ≤ n) : (sortTo (ltK xs) (rangeI n) m).map (keyP xs) = sortTo ltD xs m := by
  induction m with
  | zero => rfl
  | succ m ih =>
    have hm := ih (by omega)
    simp only [sortTo, insS]
    rw [insAt_map, slotD_map _ _ _ _ (Nat.le_refl _), hm, nth_rangeI (by omega), sortTo_len, sortTo_len]
    have : keyP xs (m : Int) = nth xs m := by simp [keyP]
    rw [this]
theorem mem_take_nth {ys : List Int} {k : Nat} {a : Int} (h : a ∈ ys.take k) : ∃ i, i < k ∧ i < ys.length ∧ nth ys i = a := by
  obtain ⟨i, hi, rfl⟩ := List.mem_iff_getElem.1 h
  rw [List.length_take] at hi
  exact ⟨i, by omega, by omega, by rw [nth_eq (by omega)]; simp⟩
theorem ordL_perm (xs : List Int) (n : Nat) : (ordL xs n).Perm (rangeI n) := by
  have h := sortTo_perm (ltK xs) (rangeI n) n (by rw [rangeI_len]; omega)
  rwa [List.take_of_length_le (by rw [rangeI_len]; omega)] at h
theorem ordL_ln (xs : List Int) (n : Nat) : (ordL xs n).length = n := sortTo_len _ _ _
theorem far_at (o : List Int) (k j : Nat) (h : j < k) : (j : Int) - nth o j ≤ farTo o k ∧ nth o j - (j : Int) ≤ farTo o k := by
  induction k with
  | zero => omega
  | succ k ih =>
    simp only [farTo]
    by_cases e : j = k
    · subst e; omega
    · have := ih (by omega); omega


end Go.Proofs.Ytaffokicnabkiaa

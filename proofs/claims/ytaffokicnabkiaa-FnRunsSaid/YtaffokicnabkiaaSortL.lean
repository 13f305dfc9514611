/- Plain lists: insertion, one number after the other. No program in sight. -/
import Derived.Test.YtaffokicnabkiaaDisL
namespace Go.Proofs.Ytaffokicnabkiaa

/-- Where x goes: down from place k while x is before what stands there. -/
def slotD (lt : Int → Int → Bool) (ys : List Int) (x : Int) : Nat → Nat
  | 0 => 0
  | k + 1 => if lt x (nth ys k) = true then slotD lt ys x k else k + 1
theorem slotD_le (lt : Int → Int → Bool) (ys : List Int) (x : Int) (k : Nat) : slotD lt ys x k ≤ k := by
  induction k with
  | zero => simp [slotD]
  | succ k ih => simp only [slotD]; split <;> omega
theorem slotD_hit {lt : Int → Int → Bool} {ys : List Int} {x : Int} {k : Nat} (h : lt x (nth ys k) = true) : slotD lt ys x (k + 1) = slotD lt ys x k := by simp only [slotD]; rw [if_pos h]
theorem slotD_miss {lt : Int → Int → Bool} {ys : List Int} {x : Int} {k : Nat} (h : lt x (nth ys k) = false) : slotD lt ys x (k + 1) = k + 1 := by simp only [slotD]; rw [if_neg (by simp [h])]
def insAt (ys : List Int) (k : Nat) (x : Int) : List Int := ys.take k ++ x :: ys.drop k
theorem insAt_len (ys : List Int) (k : Nat) (x : Int) (h : k ≤ ys.length) : (insAt ys k x).length = ys.length + 1 := by simp [insAt]; omega
def insS (lt : Int → Int → Bool) (ys : List Int) (x : Int) : List Int := insAt ys (slotD lt ys x ys.length) x
theorem insS_len (lt : Int → Int → Bool) (ys : List Int) (x : Int) : (insS lt ys x).length = ys.length + 1 := insAt_len _ _ _ (slotD_le _ _ _ _)
/-- The first k numbers of xs, inserted one after the other. -/
def sortTo (lt : Int → Int → Bool) (xs : List Int) : Nat → List Int
  | 0 => []
  | k + 1 => insS lt (sortTo lt xs k) (nth xs k)
theorem sortTo_len (lt : Int → Int → Bool) (xs : List Int) (k : Nat) : (sortTo lt xs k).length = k := by
  induction k with
  | zero => rfl
  | succ k ih => simp [sortTo, insS_len, ih]
theorem nth_mem {xs : List Int} {j : Nat} (h : j < xs.length) : nth xs j ∈ xs := by rw [nth_eq h]; exact List.getElem_mem h
theorem mem_insAt {ys : List Int} {k : Nat} {x y : Int} : y ∈ insAt ys k x ↔ y = x ∨ y ∈ ys := by
  unfold insAt
  rw [List.mem_append, List.mem_cons]
  constructor
  · rintro (h | h | h)
    · exact .inr (List.mem_of_mem_take h)
    · exact .inl h
    · exact .inr (List.mem_of_mem_drop h)
  · rintro (h | h)
    · exact .inr (.inl h)
    · rw [← List.take_append_drop k ys] at h
      rcases List.mem_append.1 h with h1 | h1
      · exact .inl h1
      · exact .inr (.inr h1)
theorem mem_sortTo {lt : Int → Int → Bool} {xs : List Int} {k : Nat} (hk : k ≤ xs.length) {y : Int} (h : y ∈ sortTo lt xs k) : y ∈ xs := by
  induction k with
  | zero => cases h
  | succ k ih =>
    rcases mem_insAt.1 h with rfl | h1
    · exact nth_mem (by omega)
    · exact ih (by omega) h1
theorem nth_insAt_here (ys r : List Int) (j : Nat) (x : Int) (h : j ≤ ys.length) : nth (insAt ys j x ++ r) j = x := by
  have e : (ys.take j).length = j := by simp; omega
  simp [nth, insAt, List.getD, e]
theorem nth_insAt_below (ys r : List Int) (j i : Nat) (x : Int) (hi : i < j) (h : j ≤ ys.length) : nth (insAt ys j x ++ r) i = nth ys i := by
  have e : (ys.take j).length = j := by simp; omega
  unfold nth insAt List.getD
  rw [List.append_assoc, List.getElem?_append_left (by omega), List.getElem?_take, if_pos hi]
theorem insAt_swap (ys r : List Int) (j : Nat) (x : Int) (h0 : 0 < j) (h : j ≤ ys.length) :
    ((insAt ys j x ++ r).set j (nth ys (j - 1))).set (j - 1) x = insAt ys (j - 1) x ++ r := by
  obtain ⟨i, rfl⟩ : ∃ i, j = i + 1 := ⟨j - 1, by omega⟩
  rw [Nat.add_sub_cancel]
  have e : (ys.take i).length = i := by simp; omega
  unfold insAt
  rw [take_nth (by omega)]
  have hd : ys.drop i = nth ys i :: ys.drop (i + 1) := by rw [List.drop_eq_getElem_cons (by omega), nth_eq (by omega)]
  rw [hd]
  simp only [List.append_assoc, List.cons_append, List.nil_append]
  rw [List.set_append_right _ _ (by omega), List.set_append_right _ _ (by omega), e]
  simp
theorem insAt_end (ys : List Int) (x : Int) : insAt ys ys.length x = ys ++ [x] := by simp [insAt]

end Go.Proofs.Ytaffokicnabkiaa

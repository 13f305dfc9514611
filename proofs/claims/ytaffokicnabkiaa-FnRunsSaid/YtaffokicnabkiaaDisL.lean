/- Plain lists: counts of greater numbers before a place, runs, longest chains. No program in sight. -/
import Derived.Test.YtaffokicnabkiaaMem
namespace Go.Proofs.Ytaffokicnabkiaa

/-- How many of the first k numbers are greater than x. -/
def cntG (xs : List Int) (x : Int) : Nat → Nat
  | 0 => 0
  | k + 1 => cntG xs x k + if x < nth xs k then 1 else 0
theorem cntG_le (xs : List Int) (x : Int) (k : Nat) : cntG xs x k ≤ k := by
  induction k with
  | zero => simp [cntG]
  | succ k ih => simp only [cntG]; split <;> omega
theorem cntG_hit {xs : List Int} {x : Int} {k : Nat} (h : x < nth xs k) : cntG xs x (k + 1) = cntG xs x k + 1 := by simp [cntG, h]
theorem cntG_miss {xs : List Int} {x : Int} {k : Nat} (h : ¬ x < nth xs k) : cntG xs x (k + 1) = cntG xs x k := by simp [cntG, h]
/-- The counts at the first k places. -/
def leftC (xs : List Int) (k : Nat) : List Int := (List.range k).map fun i : Nat => (cntG xs (nth xs i) i : Int)
theorem leftC_len (xs : List Int) (k : Nat) : (leftC xs k).length = k := by simp [leftC]
theorem leftC_succ (xs : List Int) (k : Nat) : leftC xs (k + 1) = leftC xs k ++ [(cntG xs (nth xs k) k : Int)] := by simp [leftC, List.range_succ]
theorem leftC_nth (xs : List Int) (k j : Nat) (h : j < k) : nth (leftC xs k) j = cntG xs (nth xs j) j := by
  rw [nth_eq (by rw [leftC_len]; exact h)]; simp [leftC]
/-- Their sum. -/
def sumC (xs : List Int) : Nat → Nat
  | 0 => 0
  | k + 1 => sumC xs k + cntG xs (nth xs k) k
theorem sumC_le (xs : List Int) (k : Nat) : sumC xs k ≤ k * k := by
  induction k with
  | zero => simp [sumC]
  | succ k ih =>
    have := cntG_le xs (nth xs k) k
    simp only [sumC]
    rw [Nat.add_mul, Nat.mul_add]
    omega

/-- How many of the numbers at places i + 1 up to k are less than that at i. -/
def cntL (xs : List Int) (i : Nat) : Nat → Nat
  | 0 => 0
  | k + 1 => cntL xs i k + if i < k ∧ nth xs k < nth xs i then 1 else 0
theorem cntL_le (xs : List Int) (i k : Nat) : cntL xs i k ≤ k := by
  induction k with
  | zero => simp [cntL]
  | succ k ih => simp only [cntL]; split <;> omega
theorem cntL_zero (xs : List Int) (i k : Nat) (h : k ≤ i + 1) : cntL xs i k = 0 := by
  induction k with
  | zero => simp [cntL]
  | succ k ih => simp only [cntL]; rw [if_neg (by omega), ih (by omega)]
theorem cntL_hit {xs : List Int} {i k : Nat} (h0 : i < k) (h : nth xs k < nth xs i) : cntL xs i (k + 1) = cntL xs i k + 1 := by simp [cntL, h, h0]
theorem cntL_miss {xs : List Int} {i k : Nat} (h : ¬ nth xs k < nth xs i) : cntL xs i (k + 1) = cntL xs i k := by simp [cntL, h]
/-- The pairs out of order, counted by their first places. -/
def sumL (xs : List Int) (n : Nat) : Nat → Nat
  | 0 => 0
  | m + 1 => sumL xs n m + cntL xs m n
theorem sumL_le (xs : List Int) (n m : Nat) : sumL xs n m ≤ m * n := by
  induction m with
  | zero => simp [sumL]
  | succ m ih =>
    have := cntL_le xs m n
    simp only [sumL]
    rw [Nat.add_mul]
    omega
theorem sumL_succ (xs : List Int) (n m : Nat) (h : m ≤ n) : sumL xs (n + 1) m = sumL xs n m + cntG xs (nth xs n) m := by
  induction m with
  | zero => simp [sumL, cntG]
  | succ m ih =>
    simp only [sumL, cntG, ih (by omega), cntL]
    by_cases hx : nth xs n < nth xs m
    · rw [if_pos ⟨by omega, hx⟩, if_pos hx]; omega
    · rw [if_neg (fun h => hx h.2), if_neg hx]; omega
theorem sumL_eq (xs : List Int) (n : Nat) : sumL xs n n = sumC xs n := by
  induction n with
  | zero => rfl
  | succ n ih =>
    simp only [sumL, sumC]
    rw [cntL_zero xs n (n + 1) (by omega), sumL_succ xs n n (Nat.le_refl _), ih]
    rfl

/-- How many parts in order the first k numbers have. -/
def runsTo (xs : List Int) : Nat → Nat
  | 0 => 0
  | k + 1 => runsTo xs k + if k = 0 ∨ nth xs k < nth xs (k - 1) then 1 else 0
theorem runsTo_le (xs : List Int) (k : Nat) : runsTo xs k ≤ k := by
  induction k with
  | zero => simp [runsTo]
  | succ k ih => simp only [runsTo]; split <;> omega
theorem runsTo_hit {xs : List Int} {k : Nat} (h : k = 0 ∨ nth xs k < nth xs (k - 1)) : runsTo xs (k + 1) = runsTo xs k + 1 := by simp only [runsTo, if_pos h]
theorem runsTo_miss {xs : List Int} {k : Nat} (h0 : k ≠ 0) (h : ¬ nth xs k < nth xs (k - 1)) : runsTo xs (k + 1) = runsTo xs k := by
  simp only [runsTo]; rw [if_neg (by rintro (h1 | h1); exact h0 h1; exact h h1)]; rfl

/-- The length of a longest chain that ends in y, if ls are those of the first k numbers. -/
def lenAt (f : Int → Int → Bool) (xs ls : List Int) (y : Int) : Nat → Int
  | 0 => 1
  | k + 1 => if f (nth xs k) y = true then max (lenAt f xs ls y k) (nth ls k + 1) else lenAt f xs ls y k
theorem lenAt_hit {f : Int → Int → Bool} {xs ls : List Int} {y : Int} {k : Nat} (h : f (nth xs k) y = true) : lenAt f xs ls y (k + 1) = max (lenAt f xs ls y k) (nth ls k + 1) := by simp only [lenAt]; rw [if_pos h]
theorem lenAt_miss {f : Int → Int → Bool} {xs ls : List Int} {y : Int} {k : Nat} (h : f (nth xs k) y = false) : lenAt f xs ls y (k + 1) = lenAt f xs ls y k := by simp only [lenAt]; rw [if_neg (by simp [h])]
def lens (f : Int → Int → Bool) (xs : List Int) : Nat → List Int
  | 0 => []
  | i + 1 => lens f xs i ++ [lenAt f xs (lens f xs i) (nth xs i) i]
def bestM (f : Int → Int → Bool) (xs : List Int) : Nat → Int
  | 0 => 0
  | i + 1 => max (bestM f xs i) (lenAt f xs (lens f xs i) (nth xs i) i)
theorem lens_len (f : Int → Int → Bool) (xs : List Int) (i : Nat) : (lens f xs i).length = i := by
  induction i with
  | zero => rfl
  | succ i ih => simp [lens, ih]
theorem nth_append_left (xs ys : List Int) (j : Nat) (h : j < xs.length) : nth (xs ++ ys) j = nth xs j := by
  simp [nth, List.getD, List.getElem?_append_left h]
theorem nth_append_last (xs : List Int) (y : Int) : nth (xs ++ [y]) xs.length = y := by simp [nth]
theorem lenAt_bd (f : Int → Int → Bool) (xs ls : List Int) (y : Int) (k : Nat) (h : ∀ j, j < k → nth ls j ≤ j + 1) : 1 ≤ lenAt f xs ls y k ∧ lenAt f xs ls y k ≤ k + 1 := by
  induction k with
  | zero => simp [lenAt]
  | succ k ih =>
    have := ih (fun j hj => h j (by omega))
    have := h k (by omega)
    simp only [lenAt]
    split <;> omega
theorem lens_bd (f : Int → Int → Bool) (xs : List Int) (i : Nat) : ∀ j, j < i → 1 ≤ nth (lens f xs i) j ∧ nth (lens f xs i) j ≤ j + 1 := by
  induction i with
  | zero => intro j hj; omega
  | succ i ih =>
    intro j hj
    have hl := lens_len f xs i
    simp only [lens]
    by_cases e : j < i
    · rw [nth_append_left _ _ _ (by omega)]; exact ih j e
    · obtain rfl : j = i := by omega
      have := nth_append_last (lens f xs j) (lenAt f xs (lens f xs j) (nth xs j) j)
      rw [hl] at this
      rw [this]
      have := lenAt_bd f xs (lens f xs j) (nth xs j) j (fun k hk => (ih k hk).2)
      omega
theorem bestM_bd (f : Int → Int → Bool) (xs : List Int) (i : Nat) : 0 ≤ bestM f xs i ∧ bestM f xs i ≤ i := by
  induction i with
  | zero => simp [bestM]
  | succ i ih =>
    have := lenAt_bd f xs (lens f xs i) (nth xs i) i (fun k hk => (lens_bd f xs i k hk).2)
    simp only [bestM]
    omega

end Go.Proofs.Ytaffokicnabkiaa

/- Gaps bound distances; the reference's search by depth finds the first shortest list of flips: plain lists. -/
import Derived.Test.YtpicnechmdbkfaaDistL
import Derived.Test.YtpicnechmdbkfaaGap
import Derived.Test.YtpicnechmdbkfaaRoundsL
namespace Go.Proofs.Ytpicnechmdbkfaa
open Go.RowKit
set_option linter.unusedVariables false

/-- A sum of m terms. -/
def smN (f : Nat → Nat) : Nat → Nat
  | 0 => 0
  | m + 1 => smN f m + f m
theorem smN_front (f : Nat → Nat) (m : Nat) : smN f (m + 1) = f 0 + smN (fun j => f (j + 1)) m := by
  induction m with
  | zero => simp [smN]
  | succ m ih => rw [smN, ih]; simp only [smN]; omega
theorem smN_congr {f g : Nat → Nat} {m : Nat} (h : ∀ j, j < m → f j = g j) : smN f m = smN g m := by
  induction m with
  | zero => rfl
  | succ m ih => simp only [smN]; rw [ih (fun j hj => h j (by omega)), h m (by omega)]
theorem smN_rev (f : Nat → Nat) (m : Nat) : smN (fun j => f (m - 1 - j)) m = smN f m := by
  induction m generalizing f with
  | zero => rfl
  | succ m ih =>
    rw [smN_front f m, smN]
    have h1 : smN (fun j => f (m + 1 - 1 - j)) m = smN (fun j => f (j + 1)) m := by
      rw [← ih (fun j => f (j + 1))]
      exact smN_congr (fun j hj => by show f _ = f _; congr 1; omega)
    rw [h1, show m + 1 - 1 - m = 0 by omega]; omega
def badN (a b : Int) : Nat := if a - b ≠ 1 ∧ b - a ≠ 1 then 1 else 0
theorem badN_comm (a b : Int) : badN a b = badN b a := by unfold badN; split <;> split <;> omega
theorem badN_le (a b : Int) : badN a b ≤ 1 := by unfold badN; split <;> omega
theorem gapC_sm (xs : List Int) (n k : Nat) : gapC xs n k = smN (fun j => badN (nth xs j) (nxt xs n j)) k := by
  induction k with
  | zero => rfl
  | succ k ih => rw [gapC, smN, ← ih]; unfold badN; split <;> omega
theorem smN_near {f g : Nat → Nat} {p : Nat} : ∀ m, (∀ j, j < m → j ≠ p → f j = g j) → (f p ≤ g p + 1) → smN f m ≤ smN g m + 1 ∧ (m ≤ p → smN f m = smN g m) := by
  intro m
  induction m with
  | zero => intro _ _; exact ⟨by simp [smN], fun _ => rfl⟩
  | succ m ih =>
    intro h1 h2
    obtain ⟨h3, h4⟩ := ih (fun j hj => h1 j (by omega)) h2
    simp only [smN]
    by_cases e : m = p
    · subst e
      have := h4 (Nat.le_refl _)
      exact ⟨by omega, fun h => by omega⟩
    · have := h1 m (by omega) e
      exact ⟨by omega, fun h => by have := h4 (by omega); omega⟩
theorem smN_split (f : Nat → Nat) (a b : Nat) : smN f (a + b) = smN f a + smN (fun j => f (a + j)) b := by
  induction b with
  | zero => rfl
  | succ b ih => rw [← Nat.add_assoc]; simp only [smN]; rw [ih]; omega
/-- A flip changes the gaps by one at most. -/
theorem gap_flip {xs : List Int} {n k : Nat} (hl : xs.length = n) (hk : k ≤ n) : gapC (flipL xs k) n n ≤ gapC xs n n + 1 := by
  by_cases h0 : k = 0
  · subst h0; rw [flipL_zero]; omega
  rw [gapC_sm, gapC_sm]
  obtain ⟨r, rfl⟩ : ∃ r, n = (k - 1) + r := ⟨n - (k - 1), by omega⟩
  rw [smN_split, smN_split]
  have hnx : ∀ j, j + 1 < k - 1 + r → nxt xs (k - 1 + r) j = nth xs (j + 1) := fun j hj => by unfold nxt; rw [if_pos hj]
  have hny : ∀ j, j + 1 < k - 1 + r → nxt (flipL xs k) (k - 1 + r) j = nth (flipL xs k) (j + 1) := fun j hj => by unfold nxt; rw [if_pos hj]
  have e1 : smN (fun j => badN (nth (flipL xs k) j) (nxt (flipL xs k) (k - 1 + r) j)) (k - 1) = smN (fun j => badN (nth xs j) (nxt xs (k - 1 + r) j)) (k - 1) := by
    rw [← smN_rev (fun j => badN (nth xs j) (nxt xs (k - 1 + r) j))]
    apply smN_congr
    intro j hj
    rw [hny j (by omega), hnx (k - 1 - 1 - j) (by omega), nth_flipL (by omega) (by omega), nth_flipL (by omega) (by omega), if_pos (by omega), if_pos (by omega), badN_comm]
    congr 2 <;> omega
  have e2 := (smN_near (p := 0) (f := fun j => badN (nth (flipL xs k) (k - 1 + j)) (nxt (flipL xs k) (k - 1 + r) (k - 1 + j))) (g := fun j => badN (nth xs (k - 1 + j)) (nxt xs (k - 1 + r) (k - 1 + j))) r (fun j hj hne => by
    have a1 : nth (flipL xs k) (k - 1 + j) = nth xs (k - 1 + j) := by rw [nth_flipL (by omega) (by omega), if_neg (by omega)]
    have a2 : nxt (flipL xs k) (k - 1 + r) (k - 1 + j) = nxt xs (k - 1 + r) (k - 1 + j) := by
      unfold nxt
      split
      · rw [nth_flipL (by omega) (by omega), if_neg (by omega)]
      · rfl
    show badN _ _ = badN _ _
    rw [a1, a2]) (by
    have := badN_le (nth (flipL xs k) (k - 1 + 0)) (nxt (flipL xs k) (k - 1 + r) (k - 1 + 0))
    show badN _ _ ≤ badN _ _ + 1
    omega)).1
  omega
theorem gap_idn (n : Nat) : gapC (idn n) n n = 0 := by
  have : ∀ k, k ≤ n → gapC (idn n) n k = 0 := by
    intro k
    induction k with
    | zero => intro _; rfl
    | succ k ih =>
      intro hk
      rw [gapC_no, ih (by omega)]
      rw [nth_idn (by omega)]
      unfold nxt
      split
      · rename_i h
        rw [nth_idn h]; omega
      · omega
  exact this n (Nat.le_refl _)
theorem gapC_zero {xs : List Int} {n k : Nat} (h : gapC xs n k = 0) : ∀ j, j < k → nth xs j - nxt xs n j = 1 ∨ nxt xs n j - nth xs j = 1 := by
  induction k with
  | zero => intro j hj; omega
  | succ k ih =>
    intro j hj
    rw [gapC] at h
    split at h
    · omega
    · rename_i hh
      rcases Nat.lt_or_ge j k with h1 | h1
      · exact ih h j h1
      · obtain rfl : j = k := by omega
        omega
theorem gap_zero {xs : List Int} {n : Nat} (ho : Order xs n) (h : gapC xs n n = 0) : xs = idn n := by
  have hz := gapC_zero h
  have main : ∀ t, t ≤ n → ∀ j, n - t ≤ j → j < n → nth xs j = j := by
    intro t
    induction t with
    | zero => intro _ j h1 h2; omega
    | succ t ih =>
      intro ht j h1 h2
      have ih' := ih (by omega)
      rcases Nat.lt_or_ge j (n - t) with h3 | h3
      · have hb := ho.2.1 j h2
        have h4 := hz j h2
        unfold nxt at h4
        split at h4
        · rename_i h5
          have e1 := ih' (j + 1) (by omega) h5
          rw [e1] at h4
          rcases h4 with h4 | h4
          · -- nth xs j = j + 2
            rcases Nat.lt_or_ge (j + 2) n with h6 | h6
            · have e2 := ih' (j + 2) (by omega) h6
              exact absurd (show nth xs j = nth xs (j + 2) by rw [e2]; omega) (ho.2.2 j (j + 2) (by omega) h6)
            · omega
          · omega
        · omega
      · exact ih' j h3 h2
  exact ho.eq_idn (fun j hj => main n (Nat.le_refl _) j (by omega) hj)
theorem gap_dv {n : Nat} (hn : n ≤ 8) : ∀ (d : Nat) (x : List Int), Order x n → dv n x = d → gapC x n n ≤ d := by
  intro d
  induction d with
  | zero => intro x ho e; rw [(dv_zero hn ho).1 e, gap_idn]; exact Nat.le_refl _
  | succ d ih =>
    intro x ho e
    obtain ⟨k, h1, h2, h3⟩ := dv_down hn ho (by omega)
    have h4 := ih (flipL x k) (ho.flip k h2) (by omega)
    have h5 := gap_flip (xs := flipL x k) (by rw [flipL_len]; exact ho.1) h2
    rw [flipL_twice (by rw [ho.1]; exact h2)] at h5
    omega
/-- Whether an order rises. -/
theorem rise_idn {n : Nat} {x : List Int} (ho : Order x n) : Rise x ↔ x = idn n := by
  constructor
  · intro hr
    have hlt : ∀ i, i + 1 < n → nth x i < nth x (i + 1) := fun i hi => by
      have h1 := hr i (by rw [ho.1]; exact hi)
      have h2 := ho.2.2 i (i + 1) (by omega) hi
      omega
    have h1 : ∀ j, j < n → (j : Int) ≤ nth x j := by
      intro j
      induction j with
      | zero => intro hj; exact (ho.2.1 0 hj).1
      | succ j ih => intro hj; have := ih (by omega); have := hlt j hj; omega
    have h2 : ∀ t j, j + t + 1 = n → nth x j ≤ j := by
      intro t
      induction t with
      | zero => intro j hj; have := ho.2.1 j (by omega); omega
      | succ t ih => intro j hj; have := ih (j + 1) (by omega); have := hlt j (by omega); omega
    exact ho.eq_idn (fun j hj => by have := h1 j hj; have := h2 (n - 1 - j) j (by omega); omega)
  · intro e
    subst e
    intro i hi
    rw [idn_len] at hi
    rw [nth_idn (by omega), nth_idn hi]; omega

/-- The search by depth. -/
noncomputable def fndK (F : Nat → Option (List Int)) : Nat → Option (List Int)
  | 0 => none
  | k + 1 => match fndK F k with
    | some l => some l
    | none => if 2 ≤ k + 1 then (F (k + 1)).map (((k + 1 : Nat) : Int) :: ·) else none
noncomputable def fnd (n : Nat) : Nat → List Int → Option (List Int)
  | 0, x => if x = idn n then some [] else none
  | d + 1, x => if x = idn n then none else if d + 1 < gapC x n n then none else fndK (fun k => fnd n d (flipL x k)) n
theorem fndK_stay {F : Nat → Option (List Int)} {k : Nat} {l : List Int} (h : fndK F k = some l) : ∀ m, k ≤ m → fndK F m = some l := by
  intro m
  induction m with
  | zero => intro hk; obtain rfl : k = 0 := by omega
            exact h
  | succ m ih =>
    intro hk
    by_cases e : k = m + 1
    · rw [← e]; exact h
    · rw [fndK, ih (by omega)]
theorem fndK_one {F : Nat → Option (List Int)} : fndK F 1 = none := by simp [fndK]
theorem fndK_hit {F : Nat → Option (List Int)} {k : Nat} {l : List Int} (h : fndK F (k - 1) = none) (hk : 2 ≤ k) (hf : F k = some l) : fndK F k = some ((k : Int) :: l) := by
  obtain ⟨j, rfl⟩ : ∃ j, k = j + 1 := ⟨k - 1, by omega⟩
  rw [fndK, show fndK F j = none from h]
  simp only
  rw [if_pos hk, hf]; rfl
theorem fndK_miss {F : Nat → Option (List Int)} {k : Nat} (h : fndK F (k - 1) = none) (hk : 2 ≤ k) (hf : F k = none) : fndK F k = none := by
  obtain ⟨j, rfl⟩ : ∃ j, k = j + 1 := ⟨k - 1, by omega⟩
  rw [fndK, show fndK F j = none from h]
  simp only
  rw [if_pos hk, hf]; rfl
theorem fndK_none {F : Nat → Option (List Int)} {m : Nat} (h : ∀ k, 2 ≤ k → k ≤ m → F k = none) : fndK F m = none := by
  induction m with
  | zero => rfl
  | succ m ih =>
    rw [fndK, ih (fun k h1 h2 => h k h1 (by omega))]
    simp only
    split
    · rename_i h2
      rw [h (m + 1) h2 (Nat.le_refl _)]; rfl
    · rfl
theorem fnd_len {n : Nat} : ∀ d x l, fnd n d x = some l → l.length = d := by
  intro d
  induction d with
  | zero => intro x l h; rw [fnd] at h; split at h <;> simp at h; subst h; rfl
  | succ d ih =>
    intro x l h
    rw [fnd] at h
    split at h
    · cases h
    · split at h
      · cases h
      · have : ∀ m l, fndK (fun k => fnd n d (flipL x k)) m = some l → l.length = d + 1 := by
          intro m
          induction m with
          | zero => intro l h; cases h
          | succ m ihm =>
            intro l h
            rw [fndK] at h
            split at h
            · rename_i l' he
              obtain rfl : l' = l := by simpa using h
              exact ihm _ he
            · split at h
              · cases hf : fnd n d (flipL x (m + 1))
                · rw [hf] at h; cases h
                · rename_i l'
                  rw [hf] at h
                  simp at h
                  subst h
                  rw [List.length_cons, ih _ _ hf]
              · cases h
        exact this n l h
theorem fnd_lt {n : Nat} (hn : n ≤ 8) : ∀ d x, Order x n → d < dv n x → fnd n d x = none := by
  intro d
  induction d with
  | zero =>
    intro x ho h
    rw [fnd, if_neg (fun e => by rw [(dv_zero hn ho).2 e] at h; omega)]
  | succ d ih =>
    intro x ho h
    rw [fnd, if_neg (fun e => by rw [(dv_zero hn ho).2 e] at h; omega)]
    split
    · rfl
    · exact fndK_none (fun k h1 h2 => ih _ (ho.flip k h2) (by have := dv_back hn ho k h2; omega))
theorem fnd_eq {n : Nat} (hn : n ≤ 8) : ∀ d x, Order x n → dv n x = d → ∃ l, fnd n d x = some l ∧ Best n x l := by
  intro d
  induction d with
  | zero =>
    intro x ho h
    have e := (dv_zero hn ho).1 h
    exact ⟨[], by rw [fnd, if_pos e], by rw [e]; exact .nil⟩
  | succ d ih =>
    intro x ho h
    have hne : ¬ x = idn n := fun e => by rw [(dv_zero hn ho).2 e] at h; omega
    have hg := gap_dv hn _ x ho h
    obtain ⟨m, h1, h2, h3⟩ := dv_down hn ho (by omega)
    obtain ⟨k, g1, ⟨g2, g3⟩, g4⟩ := first_least (fun k => 2 ≤ k ∧ dv n (flipL x k) + 1 = dv n x) m ⟨h1, h3⟩
    obtain ⟨l, hl, hb⟩ := ih (flipL x k) (ho.flip k (by omega)) (by omega)
    refine ⟨(k : Int) :: l, ?_, .cons x k l g2 (by omega) g3 (fun k' h5 h6 h7 => g4 k' h6 ⟨h5, h7⟩) hb⟩
    rw [fnd, if_neg hne, if_neg (by omega)]
    refine fndK_stay (fndK_hit (fndK_none (fun k' h5 h6 => ?_)) g2 hl) n (by omega)
    have h7 := dv_back hn ho k' (by omega)
    have h8 : dv n (flipL x k') + 1 ≠ dv n x := fun e => g4 k' (by omega) ⟨h5, e⟩
    exact fnd_lt hn d _ (ho.flip k' (by omega)) (by omega)

/-- What the statements' functions give. -/
def sixB (xs : List Int) : Bool := decide (xs.length ≤ 6) && isPerm xs
theorem sixB_yes {xs : List Int} (h : sixB xs = true) : xs.length ≤ 6 ∧ Order xs xs.length ∧ isPerm xs = true := by
  unfold sixB at h
  simp at h
  exact ⟨h.1, isPerm_order h.2, h.2⟩
noncomputable def fdV (xs : List Int) : Int := if sixB xs = true then (dv xs.length xs : Int) else -1
noncomputable def bfL (xs : List Int) : List Int := if sixB xs = true then bestL xs.length xs else []

end Go.Proofs.Ytpicnechmdbkfaa

/- How many orders a stack can sort: plain lists. -/
import Derived.Test.YtiiijijbkacneaaCan
import Derived.Test.YtiiijijbkacneaaCountK
namespace Go.Proofs.Ytiiijijbkacneaa
open Go.RowKit
set_option linter.unusedVariables false

abbrev toI (l : List Nat) : List Int := l.map Int.ofNat
theorem nth_toI {l : List Nat} {j : Nat} (h : j < l.length) : nth (toI l) j = (l[j] : Int) := by
  rw [nth_eq (by simpa using h)]; simp
theorem memB_iff (c : Nat) (l : List Nat) : memB c l = true ↔ ∃ j, j < l.length ∧ nth (toI l) j = (c : Int) := by
  induction l with
  | nil => simp [memB]
  | cons a r ih =>
    rw [memB, Bool.or_eq_true, ih]
    constructor
    · rintro (h | ⟨j, h1, h2⟩)
      · exact ⟨0, by simp, by have := Nat.eq_of_beq_eq_true h; simp [nth, this]⟩
      · exact ⟨j + 1, by simpa using h1, by simpa [nth] using h2⟩
    · rintro ⟨j, h1, h2⟩
      cases j with
      | zero =>
        left
        simp [nth] at h2
        have : a = c := by omega
        simp [this]
      | succ j => right; exact ⟨j, by simpa using h1, by simpa [nth] using h2⟩
theorem bad1_iff (c : Nat) (l : List Nat) : bad1 c l = true ↔ ∃ i j, i < j ∧ j < l.length ∧ (c : Int) < nth (toI l) i ∧ nth (toI l) i < nth (toI l) j := by
  induction l with
  | nil => simp [bad1]
  | cons a r ih =>
    rw [bad1, Bool.or_eq_true, ih, Bool.and_eq_true, List.any_eq_true]
    constructor
    · rintro (⟨h1, b, hb, h2⟩ | ⟨i, j, h1, h2, h3, h4⟩)
      · obtain ⟨j, hj, rfl⟩ := List.mem_iff_getElem.1 hb
        refine ⟨0, j + 1, by omega, by simpa using hj, ?_, ?_⟩
        · have := Nat.le_of_ble_eq_true h1; simp [nth]; omega
        · have := Nat.le_of_ble_eq_true h2; simp [nth, hj]; omega
      · exact ⟨i + 1, j + 1, by omega, by simpa using h2, by simpa [nth] using h3, by simpa [nth] using h4⟩
    · rintro ⟨i, j, h1, h2, h3, h4⟩
      obtain ⟨j, rfl⟩ : ∃ j', j = j' + 1 := ⟨j - 1, by omega⟩
      have hj : j < r.length := by simpa using h2
      cases i with
      | zero =>
        left
        simp [nth] at h3
        simp [nth, hj] at h4
        exact ⟨Nat.ble_eq_true_of_le (by omega), r[j], List.getElem_mem hj, Nat.ble_eq_true_of_le (by omega)⟩
      | succ i => right; exact ⟨i, j, by omega, hj, by simpa [nth] using h3, by simpa [nth] using h4⟩

theorem CanS_snoc (l : List Nat) (c : Nat) : CanS (toI (l ++ [c])) ↔ CanS (toI l) ∧ bad1 c l = false := by
  have hlen : (toI (l ++ [c])).length = l.length + 1 := by simp
  have hlt : ∀ j, j < l.length → nth (toI (l ++ [c])) j = nth (toI l) j := fun j hj => by
    rw [nth_eq (by rw [hlen]; omega), nth_eq (by simpa using hj)]; simp [List.getElem_append_left, hj]
  have hc : nth (toI (l ++ [c])) l.length = (c : Int) := by
    rw [nth_eq (by rw [hlen]; omega)]; simp
  constructor
  · intro h
    refine ⟨fun i j k h1 h2 h3 hb => ?_, ?_⟩
    · have h3' : k < l.length := by simpa using h3
      refine h i j k h1 h2 (by rw [hlen]; omega) ?_
      unfold Bad3 at hb ⊢
      rw [hlt i (by omega), hlt j (by omega), hlt k h3']; exact hb
    · cases e : bad1 c l
      · rfl
      · obtain ⟨i, j, h1, h2, h3, h4⟩ := (bad1_iff c l).1 e
        exact absurd ⟨by rw [hc, hlt i (by omega)]; exact h3, by rw [hlt i (by omega), hlt j h2]; exact h4⟩ (h i j l.length h1 h2 (by rw [hlen]; omega))
  · rintro ⟨h, hb⟩ i j k h1 h2 h3 ⟨h4, h5⟩
    rw [hlen] at h3
    rcases Nat.lt_or_ge k l.length with h6 | h6
    · rw [hlt i (by omega), hlt k h6] at h4
      rw [hlt i (by omega), hlt j (by omega)] at h5
      exact h i j k h1 h2 (by simpa using h6) ⟨h4, h5⟩
    · obtain rfl : k = l.length := by omega
      rw [hc, hlt i (by omega)] at h4
      rw [hlt i (by omega), hlt j h2] at h5
      have := (bad1_iff c l).2 ⟨i, j, h1, h2, h4, h5⟩
      rw [hb] at this; cases this

/-- One number more, c numbers tried. -/
def extTo (l : List Nat) (c : Nat) : List (List Nat) := ((List.range c).filter fun q => !memB q l).map fun q => l ++ [q]
theorem extTo_yes {l : List Nat} {c : Nat} (h : memB c l = false) : extTo l (c + 1) = extTo l c ++ [l ++ [c]] := by
  unfold extTo; rw [List.range_succ, List.filter_append, List.map_append]; simp [h]
theorem extTo_no {l : List Nat} {c : Nat} (h : memB c l = true) : extTo l (c + 1) = extTo l c := by
  unfold extTo; rw [List.range_succ, List.filter_append, List.map_append]; simp [h]
theorem extTo_len (l : List Nat) (c : Nat) : (extTo l c).length ≤ c := by
  induction c with
  | zero => simp [extTo]
  | succ c ih =>
    cases e : memB c l
    · rw [extTo_yes e]; simp; omega
    · rw [extTo_no e]; omega
theorem extTo_row {l : List Nat} {c : Nat} : ∀ r ∈ extTo l c, r.length = l.length + 1 := fun r hr => by
  obtain ⟨q, _, rfl⟩ := List.mem_map.1 hr
  simp
def ordN (n : Nat) : Nat → List (List Nat)
  | 0 => [[]]
  | k + 1 => (ordN n k).flatMap fun l => extTo l n
def ordTo (n : Nat) (ls : List (List Nat)) (q : Nat) : List (List Nat) := (ls.take q).flatMap fun l => extTo l n
theorem ordTo_succ {n : Nat} {ls : List (List Nat)} {q : Nat} {l : List Nat} (h : ls[q]? = some l) : ordTo n ls (q + 1) = ordTo n ls q ++ extTo l n := by
  unfold ordTo; rw [List.take_add_one, h, List.flatMap_append]; simp
theorem ordTo_all (n : Nat) (ls : List (List Nat)) : ordTo n ls ls.length = ls.flatMap fun l => extTo l n := by
  unfold ordTo; rw [List.take_length]
theorem ordTo_len (n : Nat) (ls : List (List Nat)) (q : Nat) (hq : q ≤ ls.length) : (ordTo n ls q).length ≤ q * n := by
  induction q with
  | zero => simp [ordTo]
  | succ q ih =>
    rw [ordTo_succ (List.getElem?_eq_getElem (show q < ls.length by omega)), List.length_append, Nat.succ_mul]
    have := ih (by omega)
    have := extTo_len ls[q] n
    omega
theorem ordN_len (n k : Nat) (hn : n ≤ 8) : (ordN n k).length ≤ 8 ^ k := by
  induction k with
  | zero => simp [ordN]
  | succ k ih =>
    have h := ordTo_len n (ordN n k) (ordN n k).length (Nat.le_refl _)
    rw [ordTo_all] at h
    rw [ordN, Nat.pow_succ]
    exact Nat.le_trans h (Nat.mul_le_mul ih hn)
theorem ordN_big (n k : Nat) (hn : n ≤ 8) (hk : k ≤ 8) : (ordN n k).length ≤ 16777216 :=
  Nat.le_trans (ordN_len n k hn) (Nat.le_trans (Nat.pow_le_pow_right (by omega) hk) (by decide))
theorem ordN_row (n k : Nat) : ∀ r ∈ ordN n k, r.length = k := by
  induction k with
  | zero => intro r h; simp [ordN] at h; simp [h]
  | succ k ih =>
    intro r h
    obtain ⟨l, hl, hr⟩ := List.mem_flatMap.1 h
    rw [extTo_row r hr, ih l hl]

def extK (n : Nat) : Nat → List Nat → List (List Nat)
  | 0, l => [l]
  | f + 1, l => (extTo l n).flatMap (extK n f)
theorem extK_back (n f : Nat) : ∀ l, extK n (f + 1) l = (extK n f l).flatMap fun l => extTo l n := by
  induction f with
  | zero => intro l; simp [extK]
  | succ f ih =>
    intro l
    rw [extK, extK, List.flatMap_assoc]
    congr 1
    funext x
    exact ih x
theorem ordN_extK (n k : Nat) : ordN n k = extK n k [] := by
  induction k with
  | zero => rfl
  | succ k ih => rw [extK_back, ← ih]; rfl
noncomputable def canN (l : List Nat) : Bool := canB (toI l)
theorem sumTo_congr {g h : Nat → Nat} {n : Nat} (e : ∀ c, c < n → g c = h c) : sumTo g n = sumTo h n := by
  induction n with
  | zero => rfl
  | succ n ih => rw [sumTo, sumTo, ih (fun c hc => e c (by omega)), e n (by omega)]
theorem sumTo_zero (n : Nat) : sumTo (fun _ => 0) n = 0 := by
  induction n with
  | zero => rfl
  | succ n ih => rw [sumTo, ih]
theorem countP_ext (p : List Nat → Bool) (h : List Nat → List (List Nat)) (l : List Nat) (n : Nat) :
    ((extTo l n).flatMap h).countP p = sumTo (fun c => if memB c l = true then 0 else (h (l ++ [c])).countP p) n := by
  induction n with
  | zero => simp [extTo, sumTo]
  | succ n ih =>
    rw [sumTo, ← ih]
    cases e : memB n l
    · rw [extTo_yes e, List.flatMap_append, List.countP_append]; simp
    · rw [extTo_no e]; simp
open Classical in
theorem countP_extK (n f : Nat) : ∀ l, (extK n f l).countP canN = if CanS (toI l) then cntT n f l else 0 := by
  induction f with
  | zero =>
    intro l
    rw [extK]
    by_cases h : CanS (toI l)
    · rw [if_pos h, List.countP_singleton, if_pos (show canN l = true from canB_yes h)]; rfl
    · rw [if_neg h, List.countP_singleton, if_neg (by rw [canN, canB_no h]; simp)]
  | succ f ih =>
    intro l
    rw [extK, countP_ext]
    by_cases h : CanS (toI l)
    · rw [if_pos h, cntT]
      refine sumTo_congr fun c _ => ?_
      rw [ih]
      cases e1 : memB c l
      · cases e2 : bad1 c l
        · rw [if_neg (by simp), if_pos ((CanS_snoc l c).2 ⟨h, e2⟩)]; simp
        · rw [if_neg (by simp), if_neg (fun h2 => by have := ((CanS_snoc l c).1 h2).2; rw [e2] at this; cases this)]; simp
      · simp
    · rw [if_neg h]
      refine (sumTo_congr fun c _ => ?_).trans (sumTo_zero n)
      rw [ih, if_neg (fun h2 => h ((CanS_snoc l c).1 h2).1)]; simp
theorem count_ordN (n : Nat) : (ordN n n).countP canN = cntT n n [] := by
  rw [ordN_extK, countP_extK, if_pos]
  intro i j k h1 h2 h3; simp at h3

/-- The reference's numbers. -/
def ctS (l : List Int) (m : Nat) : Nat → Int
  | 0 => 0
  | i + 1 => ctS l m i + nth l i * nth l (m - 1 - i)
def ctL : Nat → List Int
  | 0 => [1]
  | m + 1 => ctL m ++ [ctS (ctL m) (m + 1) (m + 1)]
theorem ctL_len (m : Nat) : (ctL m).length = m + 1 := by
  induction m with
  | zero => rfl
  | succ m ih => rw [ctL, List.length_append, ih]; rfl
theorem ctL_bd : ∀ m, m < 9 → ∀ i, i < m + 1 → 0 ≤ nth (ctL m) i ∧ nth (ctL m) i ≤ 1430 := by decide
theorem ctS_bd : ∀ m, m < 8 → ∀ i, i < m + 2 → 0 ≤ ctS (ctL m) (m + 1) i ∧ ctS (ctL m) (m + 1) i ≤ 1430 := by decide
def csV (n : Int) : Int := if 0 ≤ n ∧ n ≤ 8 then nth (ctL n.toNat) n.toNat else -1
theorem csV_no {n : Int} (h : ¬ (0 ≤ n ∧ n ≤ 8)) : csV n = -1 := by unfold csV; rw [if_neg h]
theorem csV_yes {n : Nat} (h : n ≤ 8) : csV (n : Int) = nth (ctL n) n := by unfold csV; rw [if_pos (by omega), Int.toNat_natCast]
theorem csV_count {n : Nat} (h : n ≤ 8) : csV (n : Int) = ((ordN n n).countP canN : Int) := by
  rw [csV_yes h, count_ordN]
  match n, h with
  | 0, _ => rw [cntT_0]; decide
  | 1, _ => rw [cntT_1]; decide
  | 2, _ => rw [cntT_2]; decide
  | 3, _ => rw [cntT_3]; decide
  | 4, _ => rw [cntT_4]; decide
  | 5, _ => rw [cntT_5]; decide
  | 6, _ => rw [cntT_6]; decide
  | 7, _ => rw [cntT_7]; decide
  | 8, _ => rw [cntT_8]; decide
  | n + 9, h => omega

end Go.Proofs.Ytiiijijbkacneaa

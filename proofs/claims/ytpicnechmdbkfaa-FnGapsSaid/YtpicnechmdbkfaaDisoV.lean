/- Plain lists: the measures' values, as the law asks for them. -/
import Derived.Test.YtpicnechmdbkfaaDisoL
import Derived.Test.YtpicnechmdbkfaaSortd
import Derived.Test.YtpicnechmdbkfaaFrom
import Derived.Test.YtpicnechmdbkfaaQueue
namespace Go.Proofs.Ytpicnechmdbkfaa
set_option linter.unusedVariables false

theorem far_val {xs : List Int} {n : Nat} (hl : xs.length = n) (hn : n ≤ 12) : ∃ f : Nat, farV xs = (f : Int) ∧ f ≤ sumC xs n ∧ (f = 0 ↔ sumC xs n = 0) := by
  subst hl
  have h := far_bd xs xs.length xs.length (Nat.le_refl _)
  obtain ⟨f, hf⟩ : ∃ f : Nat, farTo (ordL xs xs.length) xs.length = (f : Int) := ⟨(farTo (ordL xs xs.length) xs.length).toNat, by omega⟩
  refine ⟨f, by unfold farV; rw [if_pos hn, hf], by omega, fun h0 => ?_, fun h0 => by omega⟩
  have hO : ∀ j, j < xs.length → nth (ordL xs xs.length) j = (j : Int) := by
    intro j hj
    have := far_at (ordL xs xs.length) xs.length j hj
    omega
  refine sumC_zero (fun i hi => ?_)
  have h1 := ord_rise xs xs.length xs.length (Nat.le_refl _) i (i + 1) (by omega) hi
  have e1 := hO i (by omega)
  have e2 := hO (i + 1) hi
  unfold ordL at e1 e2
  rw [e1, e2] at h1
  simpa [keyP] using h1
theorem rem_val {xs : List Int} {n : Nat} (hl : xs.length = n) (hn : n ≤ 12) : ∃ r b : Nat, remV xs = (r : Int) ∧ longV leB xs = (b : Int) ∧ r + b = n ∧ r ≤ sumC xs n ∧ (r = 0 ↔ sumC xs n = 0) := by
  subst hl
  have h1 := bestM_bd leB xs xs.length
  have h2 := best_inv xs xs.length
  have h3 := best_full xs xs.length
  obtain ⟨b, hb⟩ : ∃ b : Nat, bestM leB xs xs.length = (b : Int) := ⟨(bestM leB xs xs.length).toNat, by omega⟩
  refine ⟨xs.length - b, b, by unfold remV; rw [if_pos hn, hb]; omega, by unfold longV; rw [if_pos hn, hb], by omega, by omega, fun h => h3 (by omega), fun h => by omega⟩
theorem along_val {xs : List Int} {n : Nat} (hl : xs.length = n) : (ordL xs n).map (keyP xs) = sortTo ltI xs n := sortTo_map xs n n (Nat.le_refl _)

theorem idn_nth {n k : Nat} (h : k < n) : nth (idn n) k = (k : Int) := nth_rangeI h
theorem key_ord {q : List Int} {n : Nat} (h : isPerm q = true) (hl : q.length = n) (x : Nat) (hx : x < n) : nth q (nth (ordL q n) x).toNat = (x : Int) := by
  have h1 := sortTo_map q n n (Nat.le_refl _)
  rw [sort_order h hl] at h1
  have h2 := nth_mapF (keyP q) (sortTo (ltK q) (rangeI n) n) x (by rw [sortTo_len]; exact hx)
  rw [h1, idn_nth hx] at h2
  exact h2.symm
theorem inv2_ord {q : List Int} {n : Nat} (h : isPerm q = true) (hl : q.length = n) : Inv2 (fnO q) (fnO (ordL q n)) n := by
  have hb := fun j hj => isPerm_bd h j hj
  have hi := isPerm_inj h
  rw [hl] at hb hi
  have inj : ∀ i j, i < n → j < n → fnO q i = fnO q j → i = j := by
    intro i j h1 h2 e
    have b1 := hb i h1
    have b2 := hb j h2
    unfold fnO at e
    have e2 : nth q i = nth q j := by omega
    rcases Nat.lt_trichotomy i j with h3 | h3 | h3
    · exact absurd e2 (hi i j h3 h2)
    · exact h3
    · exact absurd e2.symm (hi j i h3 h1)
  have qo : ∀ x, x < n → fnO q (fnO (ordL q n) x) = x := by
    intro x hx
    have := key_ord h hl x hx
    unfold fnO; rw [this]; rfl
  have ob : ∀ x, x < n → fnO (ordL q n) x < n := by
    intro x hx
    obtain ⟨p, hp, e⟩ := pos_of (lt := ltK q) (n := n) (k := n) (j := x) (Nat.le_refl _) hx
    unfold fnO ordL; rw [e]; simpa using hp
  intro i hi'
  have b1 := hb i hi'
  have qb : fnO q i < n := by unfold fnO; omega
  exact ⟨qb, ob i hi', inj _ _ (ob _ qb) hi' (qo _ qb), qo i hi'⟩
theorem sumC_inv {q : List Int} {n : Nat} (hb : ∀ j, j < n → 0 ≤ nth q j) : sumC q n = invN (fnO q) n := by
  have h1 : ∀ k, k < n → ∀ m, m ≤ k → cntG q (nth q k) m = Sm (fun j => out1 (fnO q) j k) m := by
    intro k hk m
    induction m with
    | zero => intro _; rfl
    | succ m ih =>
      intro hm
      simp only [cntG, Sm]
      rw [ih (by omega)]
      have a := hb k hk
      have b := hb m (by omega)
      unfold out1 fnO
      by_cases e : nth q k < nth q m
      · rw [if_pos e, if_pos (by omega)]
      · rw [if_neg e, if_neg (by omega)]
  have h2 : ∀ k, k ≤ n → sumC q k = invN (fnO q) k := by
    intro k
    induction k with
    | zero => intro _; rfl
    | succ k ih =>
      intro hk
      have e : invN (fnO q) (k + 1) = invN (fnO q) k + Sm (fun j => out1 (fnO q) j k) k := rfl
      rw [e, ← ih (by omega)]
      simp only [sumC]
      rw [h1 k (by omega) k (Nat.le_refl _)]
  exact h2 n (Nat.le_refl _)
theorem ex_val {q : List Int} {n : Nat} (h : isPerm q = true) (hl : q.length = n) : ∃ e t : Nat, exV q = (e : Int) ∧ sumC q n = e + 2 * t ∧ (n = 0 ∨ e + 1 ≤ n) := by
  have hn := isPerm_len h
  have h2 := inv2_ord h hl
  obtain ⟨t, ht⟩ := inv_cyc n _ _ h2
  have h3 := (cycF_spec (ordL q n) n (fun i hi => (h2 i hi).2.1) (fun i j hi hj e => by
    have a := (h2 i hi).2.2.2
    have b := (h2 j hj).2.2.2
    rw [e] at a; rw [a] at b; exact b) n (Nat.le_refl _)).2
  have h4 := cyc_le (fnO (ordL q n)) n n
  have h5 := sumC_inv (q := q) (n := n) (fun j hj => (isPerm_bd h j (by omega)).1)
  have h6 : noDup q (ordL q q.length) q.length := by
    rw [hl]
    intro j h1 hj
    have a := key_ord h hl j hj
    have b := key_ord h hl (j - 1) (by omega)
    unfold keyAt; rw [a, b]; omega
  refine ⟨n - cyc (fnO (ordL q n)) n n, t, ?_, by omega, ?_⟩
  · unfold exV
    rw [if_pos (by omega), if_pos h6, hl, h3]; omega
  · rcases Nat.eq_zero_or_pos n with h7 | h7
    · exact Or.inl h7
    · have := cyc_pos h2 h7
      exact Or.inr (by omega)
theorem byL_ord {q : List Int} {n m : Nat} (hm : m ≤ n) : byL (leftC q n) m = sortTo (ltK q) (rangeI n) m := by
  induction m with
  | zero => rfl
  | succ m ih =>
    have hs := slot_ord q n m (by omega)
    simp only [byL, sortTo, insS]
    rw [ih (by omega), nth_rangeI (by omega), sortTo_len]
    have : goes (leftC q n) m = slotD (ltK q) (sortTo (ltK q) (rangeI n) m) (m : Int) m := by
      unfold goes; rw [leftC_nth _ _ _ (by omega), Int.toNat_natCast]; omega
    rw [this]
theorem left_val {q : List Int} {n : Nat} (hl : q.length = n) (hn : n ≤ 12) : leftV q = leftC q n := by unfold leftV; rw [hl, if_pos hn]
theorem back_val {q : List Int} {n : Nat} (h : isPerm q = true) (hl : q.length = n) : frB (leftC q n) = true ∧ frL (leftC q n) = q := by
  have hn := isPerm_len h
  have hv : (leftC q n).length ≤ 12 ∧ validC (leftC q n) (leftC q n).length := by
    rw [leftC_len]
    refine ⟨by omega, fun i hi => ?_⟩
    rw [leftC_nth _ _ _ hi]
    have := cntG_le q (nth q i) i
    omega
  refine ⟨by unfold frB; rw [if_pos hv], ?_⟩
  unfold frL; rw [if_pos hv, leftC_len]
  refine (outT_unique (leftC q n) n q hl (fun x hx => ?_)).symm
  rw [byL_ord (Nat.le_refl _)]
  exact key_ord h hl x hx
theorem que_val {q : List Int} {n : Nat} (h : isPerm q = true) (hl : q.length = n) : ∃ b : Nat, quV q = (b : Int) ∧ b ≤ sumC q n + 1 := by
  have h1 := fall_inv q n n (Nat.le_refl _)
  have h2 := bestM_bd gtB q n
  refine ⟨(bestM gtB q n).toNat, by unfold quV; rw [if_pos h, hl]; omega, by omega⟩
/-- The sum of a list, as the laws reckon it. -/
def sumI (xs : List Int) : Nat → Int
  | 0 => 0
  | k + 1 => sumI xs k + nth xs k
theorem sumI_left (xs : List Int) (n k : Nat) (h : k ≤ n) : sumI (leftC xs n) k = (sumC xs k : Int) := by
  induction k with
  | zero => rfl
  | succ k ih =>
    simp only [sumI, sumC]
    rw [ih (by omega), leftC_nth _ _ _ (by omega)]; omega
theorem wf_left (xs : List Int) (n : Nat) (hn : n ≤ 12) : WfI (leftC xs n) := by
  intro x hx
  obtain ⟨i, hi, rfl⟩ := List.mem_iff_getElem.1 hx
  rw [leftC_len] at hi
  rw [← nth_eq (by rw [leftC_len]; exact hi), leftC_nth _ _ _ hi]
  have := cntG_le xs (nth xs i) i
  omega

end Go.Proofs.Ytpicnechmdbkfaa

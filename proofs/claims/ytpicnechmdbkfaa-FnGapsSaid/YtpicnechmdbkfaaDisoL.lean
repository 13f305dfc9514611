/- Plain lists: what the measures of disorder have to do with one another. -/
import Derived.Test.YtpicnechmdbkfaaDis7
import Derived.Test.YtpicnechmdbkfaaCycF
import Derived.Test.YtpicnechmdbkfaaSrtL
import Derived.Test.YtpicnechmdbkfaaFromL
import Derived.Test.YtpicnechmdbkfaaLong
namespace Go.Proofs.Ytpicnechmdbkfaa
set_option linter.unusedVariables false

def keyP (xs : List Int) (p : Int) : Int := nth xs p.toNat
theorem insAt_map (f : Int → Int) (ys : List Int) (k : Nat) (x : Int) : (insAt ys k x).map f = insAt (ys.map f) k (f x) := by
  simp [insAt, List.map_take, List.map_drop]
theorem nth_mapF (f : Int → Int) (ys : List Int) (j : Nat) (h : j < ys.length) : nth (ys.map f) j = f (nth ys j) := by
  rw [nth_eq (by simpa using h), nth_eq h]; simp
theorem slotD_map (xs ys : List Int) (q : Int) (k : Nat) (hk : k ≤ ys.length) : slotD (ltK xs) ys q k = slotD ltD (ys.map (keyP xs)) (keyP xs q) k := by
  induction k with
  | zero => rfl
  | succ k ih =>
    have h := ih (by omega)
    have e : ltD (keyP xs q) (nth (ys.map (keyP xs)) k) = ltK xs q (nth ys k) := by rw [nth_mapF _ _ _ (by omega)]; rfl
    simp only [slotD]; rw [e, h]
theorem sortTo_map (xs : List Int) (n m : Nat) (h : m ≤ n) : (sortTo (ltK xs) (rangeI n) m).map (keyP xs) = sortTo ltD xs m := by
  induction m with
  | zero => rfl
  | succ m ih =>
    have hm := ih (by omega)
    simp only [sortTo, insS]
    rw [insAt_map, slotD_map _ _ _ _ (Nat.le_refl _), hm, nth_rangeI (by omega), sortTo_len, sortTo_len]
    have : keyP xs (m : Int) = nth xs m := by simp [keyP]
    rw [this]
theorem ord_rise (xs : List Int) (n m : Nat) (hm : m ≤ n) (i j : Nat) (hij : i < j) (hj : j < m) : keyP xs (nth (sortTo (ltK xs) (rangeI n) m) i) ≤ keyP xs (nth (sortTo (ltK xs) (rangeI n) m) j) := by
  have hs := srt_sortTo xs m i j hij (by rw [sortTo_len]; exact hj)
  rw [← sortTo_map xs n m hm, nth_mapF _ _ _ (by rw [sortTo_len]; omega), nth_mapF _ _ _ (by rw [sortTo_len]; omega)] at hs
  exact hs
theorem mem_take_nth {ys : List Int} {k : Nat} {a : Int} (h : a ∈ ys.take k) : ∃ i, i < k ∧ i < ys.length ∧ nth ys i = a := by
  obtain ⟨i, hi, rfl⟩ := List.mem_iff_getElem.1 h
  rw [List.length_take] at hi
  exact ⟨i, by omega, by omega, by rw [nth_eq (by omega)]; simp⟩
theorem slot_count (lt : Int → Int → Bool) (ys : List Int) (x : Int) (k : Nat) (hk : k ≤ ys.length) (hm : ∀ i j, i < j → j < k → lt x (nth ys i) = true → lt x (nth ys j) = true) :
    slotD lt ys x k + (ys.take k).countP (lt x) = k := by
  induction k with
  | zero => simp [slotD]
  | succ k ih =>
    have h := ih (by omega) (fun i j a b => hm i j a (by omega))
    rw [take_nth (by omega), List.countP_append]
    cases e : lt x (nth ys k)
    · rw [slotD_miss e]
      have h0 : (ys.take k).countP (lt x) = 0 := by
        rw [List.countP_eq_zero]
        intro a ha h1
        obtain ⟨i, hi, _, rfl⟩ := mem_take_nth ha
        have := hm i k hi (by omega) h1
        rw [this] at e; cases e
      simp [h0, e]
    · rw [slotD_hit e]; simp [e]; omega
theorem cntG_count (xs : List Int) (x : Int) (n m : Nat) (h : m ≤ n) : ((rangeI n).take m).countP (fun p => decide (x < keyP xs p)) = cntG xs x m := by
  induction m with
  | zero => simp [cntG]
  | succ m ih =>
    rw [take_nth (by rw [rangeI_len]; omega), List.countP_append, ih (by omega), nth_rangeI (by omega)]
    have : keyP xs (m : Int) = nth xs m := by simp [keyP]
    simp only [cntG, List.countP_cons, List.countP_nil, this, decide_eq_true_eq]
    omega
theorem slot_ord (xs : List Int) (n m : Nat) (h : m < n) : slotD (ltK xs) (sortTo (ltK xs) (rangeI n) m) (m : Int) m + cntG xs (nth xs m) m = m := by
  have h1 := slot_count (ltK xs) (sortTo (ltK xs) (rangeI n) m) (m : Int) m (by rw [sortTo_len]; omega) (fun i j hij hj hl => by
    have h2 := ord_rise xs n m (by omega) i j hij hj
    unfold keyP at h2
    simp [ltK] at hl ⊢; omega)
  rw [List.take_of_length_le (by rw [sortTo_len]; omega)] at h1
  have h2 := (sortTo_perm (ltK xs) (rangeI n) m (by rw [rangeI_len]; omega)).countP_eq (ltK xs (m : Int))
  have h3 := cntG_count xs (nth xs m) n m (by omega)
  have e : (fun p => decide (nth xs m < keyP xs p)) = ltK xs (m : Int) := by
    funext p; unfold ltK keyP; rw [Int.toNat_natCast]
  rw [e] at h3
  omega

/-- Where place i stands among the first m. -/
def rk (xs : List Int) (i m : Nat) : Nat := i - cntG xs (nth xs i) i + cntL xs i m
theorem rk_at (xs : List Int) (n m : Nat) (h : m ≤ n) : ∀ i, i < m → rk xs i m < m ∧ nth (sortTo (ltK xs) (rangeI n) m) (rk xs i m) = (i : Int) := by
  induction m with
  | zero => intro i hi; omega
  | succ m ih =>
    intro i hi
    have hs := slot_ord xs n m (by omega)
    have hsp := slotD_spec (sortTo ltD xs m) (nth xs m) m
    have em := slotD_map xs (sortTo (ltK xs) (rangeI n) m) (m : Int) m (by rw [sortTo_len]; omega)
    rw [sortTo_map xs n m (by omega)] at em
    have ek : keyP xs (m : Int) = nth xs m := by simp [keyP]
    rw [ek] at em
    rw [← em] at hsp
    obtain ⟨s, hse⟩ : ∃ s, slotD (ltK xs) (sortTo (ltK xs) (rangeI n) m) (m : Int) m = s := ⟨_, rfl⟩
    rw [hse] at hs hsp
    have e1 : sortTo (ltK xs) (rangeI n) (m + 1) = insAt (sortTo (ltK xs) (rangeI n) m) s (m : Int) := by
      simp only [sortTo, insS]
      rw [nth_rangeI (by omega), sortTo_len, hse]
    rw [e1]
    have hsm : s ≤ (sortTo (ltK xs) (rangeI n) m).length := by rw [sortTo_len]; omega
    by_cases e : i = m
    · subst e
      have : rk xs i (i + 1) = s := by unfold rk; rw [cntL_zero _ _ _ (by omega)]; omega
      rw [this, nth_insAt hsm, if_neg (by omega), if_pos rfl]
      exact ⟨by omega, rfl⟩
    · obtain ⟨h1, h2⟩ := ih (by omega) i (by omega)
      have hk : nth (sortTo ltD xs m) (rk xs i m) = nth xs i := by
        rw [← sortTo_map xs n m (by omega), nth_mapF _ _ _ (by rw [sortTo_len]; omega), h2]; simp [keyP]
      by_cases hlt : nth xs m < nth xs i
      · have hge : s ≤ rk xs i m := by
          apply Classical.byContradiction
          intro hn
          have h3 := hsp.2 (by omega)
          rcases Nat.lt_or_ge (rk xs i m) (s - 1) with h4 | h4
          · have h5 := srt_sortTo xs m _ _ h4 (by rw [sortTo_len]; omega)
            omega
          · have h6 : rk xs i m = s - 1 := by omega
            rw [h6] at hk; omega
        have : rk xs i (m + 1) = rk xs i m + 1 := by unfold rk; rw [cntL_hit (by omega) hlt]; omega
        rw [this, nth_insAt hsm, if_neg (by omega), if_neg (by omega), Nat.add_sub_cancel]
        exact ⟨by omega, h2⟩
      · have hlt2 : rk xs i m < s := by
          apply Classical.byContradiction
          intro hn
          have h3 := hsp.1 (rk xs i m) (by omega) h1
          omega
        have : rk xs i (m + 1) = rk xs i m := by unfold rk; rw [cntL_miss hlt]
        rw [this, nth_insAt hsm, if_pos hlt2]
        exact ⟨by omega, h2⟩
theorem rangeI_nodup (n : Nat) : (rangeI n).Nodup := by
  unfold rangeI
  exact List.pairwise_map.2 (List.nodup_range.imp (fun h e => h (by omega)))
theorem nodup_nth {l : List Int} (h : l.Nodup) {i j : Nat} (hi : i < l.length) (hj : j < l.length) (e : nth l i = nth l j) : i = j := by
  rw [nth_eq hi, nth_eq hj] at e
  have h1 := List.pairwise_iff_getElem.1 h
  rcases Nat.lt_trichotomy i j with h2 | h2 | h2
  · exact absurd e (h1 i j hi hj h2)
  · exact h2
  · exact absurd e.symm (h1 j i hj hi h2)
theorem ordL_perm (xs : List Int) (n : Nat) : (ordL xs n).Perm (rangeI n) := by
  have h := sortTo_perm (ltK xs) (rangeI n) n (by rw [rangeI_len]; omega)
  rwa [List.take_of_length_le (by rw [rangeI_len]; omega)] at h
theorem ordL_nodup (xs : List Int) (n : Nat) : (ordL xs n).Nodup := (ordL_perm xs n).nodup_iff.2 (rangeI_nodup n)
theorem ordL_ln (xs : List Int) (n : Nat) : (ordL xs n).length = n := sortTo_len _ _ _
/-- What stands at place j of the order. -/
theorem ordL_rk (xs : List Int) (n j : Nat) (hj : j < n) : ∃ i, i < n ∧ nth (ordL xs n) j = (i : Int) ∧ rk xs i n = j := by
  obtain ⟨i, hi, he⟩ := pos_of (lt := ltK xs) (n := n) (k := n) (j := j) (Nat.le_refl _) hj
  obtain ⟨h1, h2⟩ := rk_at xs n n (Nat.le_refl _) i hi
  refine ⟨i, hi, he, nodup_nth (ordL_nodup xs n) (by rw [ordL_ln]; exact h1) (by rw [ordL_ln]; exact hj) ?_⟩
  have h3 : nth (ordL xs n) (rk xs i n) = (i : Int) := h2
  rw [h3]; exact he.symm

theorem cntG_sum (xs : List Int) (n k : Nat) (h : k < n) : cntG xs (nth xs k) k ≤ sumC xs n := by
  induction n with
  | zero => omega
  | succ n ih =>
    simp only [sumC]
    by_cases e : k = n
    · subst e; omega
    · have := ih (by omega); omega
theorem cntL_sumL (xs : List Int) (n m i : Nat) (h : i < m) : cntL xs i n ≤ sumL xs n m := by
  induction m with
  | zero => omega
  | succ m ih =>
    simp only [sumL]
    by_cases e : i = m
    · subst e; omega
    · have := ih (by omega); omega
theorem cntL_sum (xs : List Int) (n i : Nat) (h : i < n) : cntL xs i n ≤ sumC xs n := by
  rw [← sumL_eq]; exact cntL_sumL xs n n i h
theorem far_bd (xs : List Int) (n k : Nat) (hk : k ≤ n) : 0 ≤ farTo (ordL xs n) k ∧ farTo (ordL xs n) k ≤ (sumC xs n : Int) := by
  induction k with
  | zero => simp [farTo]
  | succ k ih =>
    have h := ih (by omega)
    obtain ⟨i, hi, he, hr⟩ := ordL_rk xs n k (by omega)
    have h1 := cntG_sum xs n i hi
    have h2 := cntL_sum xs n i hi
    have h3 := cntG_le xs (nth xs i) i
    unfold rk at hr
    simp only [farTo]
    rw [he]
    omega
theorem far_at (o : List Int) (k j : Nat) (h : j < k) : (j : Int) - nth o j ≤ farTo o k ∧ nth o j - (j : Int) ≤ farTo o k := by
  induction k with
  | zero => omega
  | succ k ih =>
    simp only [farTo]
    by_cases e : j = k
    · subst e; omega
    · have := ih (by omega); omega

/-- No pair out of order. -/
theorem cntG_zero {xs : List Int} {x : Int} {k : Nat} (h : ∀ j, j < k → nth xs j ≤ x) : cntG xs x k = 0 := by
  induction k with
  | zero => rfl
  | succ k ih => rw [cntG_miss (by have := h k (by omega); omega), ih (fun j hj => h j (by omega))]
theorem cntG_pos {xs : List Int} {x : Int} {k j : Nat} (hj : j < k) (h : x < nth xs j) : 1 ≤ cntG xs x k := by
  induction k with
  | zero => omega
  | succ k ih =>
    by_cases e : j = k
    · subst e; rw [cntG_hit h]; omega
    · have := ih (by omega); simp only [cntG]; omega
theorem cntG_none {xs : List Int} {x : Int} {k : Nat} (h : cntG xs x k = 0) : ∀ j, j < k → nth xs j ≤ x := by
  intro j hj
  apply Classical.byContradiction
  intro hn
  have := cntG_pos (xs := xs) (x := x) hj (by omega)
  omega
theorem sumC_zero {xs : List Int} {n : Nat} (h : ∀ i, i + 1 < n → nth xs i ≤ nth xs (i + 1)) : sumC xs n = 0 := by
  have h2 : ∀ d i, i + d < n → nth xs i ≤ nth xs (i + d) := by
    intro d
    induction d with
    | zero => intro i _; exact Int.le_refl _
    | succ d ih => intro i hi; have := ih i (by omega); have := h (i + d) (by omega); rw [show i + (d + 1) = i + d + 1 by omega]; omega
  have h3 : ∀ k, k ≤ n → sumC xs k = 0 := by
    intro k
    induction k with
    | zero => intro _; rfl
    | succ k ih =>
      intro hk
      simp only [sumC]
      rw [ih (by omega), cntG_zero (fun j hj => by have := h2 (k - j) j (by omega); rwa [show j + (k - j) = k by omega] at this)]
  exact h3 n (Nat.le_refl _)
theorem sumC_none {xs : List Int} {n : Nat} (h : sumC xs n = 0) : ∀ i j, i < j → j < n → nth xs i ≤ nth xs j := by
  intro i j hij hj
  have := cntG_sum xs n j hj
  exact cntG_none (by omega) i hij
theorem sumC_pos {xs : List Int} {n i : Nat} (hi : i + 1 < n) (h : nth xs (i + 1) < nth xs i) : 1 ≤ sumC xs n := by
  have := cntG_sum xs n (i + 1) hi
  have := cntG_pos (xs := xs) (x := nth xs (i + 1)) (k := i + 1) (j := i) (by omega) h
  omega
/-- Runs. -/
theorem runs_inv (xs : List Int) (k : Nat) : runsTo xs k ≤ sumC xs k + 1 := by
  have h : ∀ k, runsTo xs (k + 1) ≤ sumC xs (k + 1) + 1 := by
    intro k
    induction k with
    | zero => simp [runsTo]
    | succ k ih =>
      by_cases e : nth xs (k + 1) < nth xs k
      · have h1 := cntG_pos (xs := xs) (x := nth xs (k + 1)) (k := k + 1) (j := k) (by omega) e
        rw [runsTo_hit (Or.inr e)]
        show _ ≤ sumC xs (k + 1) + cntG xs (nth xs (k + 1)) (k + 1) + 1
        omega
      · rw [runsTo_miss (by omega) e]
        show _ ≤ sumC xs (k + 1) + cntG xs (nth xs (k + 1)) (k + 1) + 1
        omega
  cases k with
  | zero => simp [runsTo]
  | succ k => exact h k
/-- Chains. -/
theorem lens_nth (f : Int → Int → Bool) (xs : List Int) (k j : Nat) (h : j < k) : nth (lens f xs k) j = lenAt f xs (lens f xs j) (nth xs j) j := by
  induction k with
  | zero => omega
  | succ k ih =>
    simp only [lens]
    by_cases e : j = k
    · subst e
      have := nth_append_last (lens f xs j) (lenAt f xs (lens f xs j) (nth xs j) j)
      rw [lens_len] at this; exact this
    · rw [nth_append_left _ _ _ (by rw [lens_len]; omega)]; exact ih (by omega)
theorem lenAt_all (xs : List Int) (y : Int) (k m : Nat) (hm : m ≤ k) (h : ∀ j, j < m → nth xs j ≤ y) : bestM leB xs m + 1 ≤ lenAt leB xs (lens leB xs k) y m := by
  induction m with
  | zero => simp [bestM, lenAt]
  | succ m ih =>
    have h1 := ih (by omega) (fun j hj => h j (by omega))
    rw [lenAt_hit (by have := h m (by omega); simp [leB]; exact this)]
    simp only [bestM]
    rw [lens_nth leB xs k m (by omega)]
    omega
theorem best_inv (xs : List Int) (k : Nat) : (k : Int) ≤ bestM leB xs k + sumC xs k := by
  induction k with
  | zero => simp [bestM]
  | succ k ih =>
    simp only [bestM, sumC]
    by_cases e : cntG xs (nth xs k) k = 0
    · have := lenAt_all xs (nth xs k) k k (Nat.le_refl _) (cntG_none e)
      omega
    · omega
theorem lenAt_full (xs : List Int) (k : Nat) : lenAt leB xs (lens leB xs k) (nth xs k) k = (k : Int) + 1 → ∀ i, i < k → nth xs i ≤ nth xs (i + 1) := by
  induction k with
  | zero => intro _ i hi; omega
  | succ k ih =>
    intro h i hi
    have hb := lenAt_bd leB xs (lens leB xs (k + 1)) (nth xs (k + 1)) k (fun j hj => (lens_bd leB xs (k + 1) j (by omega)).2)
    have hb2 := lens_bd leB xs (k + 1) k (by omega)
    cases hl : leB (nth xs k) (nth xs (k + 1))
    · rw [lenAt_miss hl] at h; omega
    · rw [lenAt_hit hl] at h
      have h1 : nth (lens leB xs (k + 1)) k = (k : Int) + 1 := by omega
      rw [lens_nth leB xs (k + 1) k (by omega)] at h1
      by_cases e : i = k
      · subst e; simpa [leB] using hl
      · exact ih h1 i (by omega)
theorem best_full (xs : List Int) (n : Nat) (h : bestM leB xs n = (n : Int)) : sumC xs n = 0 := by
  cases n with
  | zero => rfl
  | succ n =>
    simp only [bestM] at h
    have hb := bestM_bd leB xs n
    have h1 := lenAt_full xs n (by omega)
    exact sumC_zero (fun i hi => h1 i (by omega))
/-- Falling chains. -/
theorem cntG_mono {xs : List Int} {x y : Int} {k j : Nat} (hj : j < k) (h : x < nth xs j) : cntG xs (nth xs j) j + 1 ≤ cntG xs x k := by
  have h1 : ∀ m, cntG xs (nth xs j) m ≤ cntG xs x m := by
    intro m
    induction m with
    | zero => simp [cntG]
    | succ m ih =>
      simp only [cntG]
      split
      · rw [if_pos (by omega)]; omega
      · omega
  have h2 : ∀ m, j + 1 ≤ m → cntG xs x (j + 1) ≤ cntG xs x m := by
    intro m hm
    induction m with
    | zero => omega
    | succ m ih =>
      by_cases e : j = m
      · subst e; omega
      · have := ih (by omega); simp only [cntG] at this ⊢; omega
  have h3 := h2 k (by omega)
  rw [cntG_hit h] at h3
  have := h1 j
  omega
theorem fall_len (xs : List Int) (k : Nat) : lenAt gtB xs (lens gtB xs k) (nth xs k) k ≤ (cntG xs (nth xs k) k : Int) + 1 := by
  induction k using Nat.strongRecOn with
  | _ k ih =>
    have h : ∀ m, m ≤ k → lenAt gtB xs (lens gtB xs k) (nth xs k) m ≤ (cntG xs (nth xs k) k : Int) + 1 := by
      intro m
      induction m with
      | zero => intro _; simp [lenAt]; omega
      | succ m ihm =>
        intro hm
        have h1 := ihm (by omega)
        cases hg : gtB (nth xs m) (nth xs k)
        · rw [lenAt_miss hg]; exact h1
        · rw [lenAt_hit hg, lens_nth gtB xs k m (by omega)]
          have h2 := ih m (by omega)
          have h3 := cntG_mono (xs := xs) (x := nth xs k) (y := 0) (k := k) (j := m) (by omega) (by simpa [gtB] using hg)
          omega
    exact h k (Nat.le_refl _)
theorem fall_inv (xs : List Int) (n : Nat) : ∀ k, k ≤ n → bestM gtB xs k ≤ (sumC xs n : Int) + 1 := by
  intro k
  induction k with
  | zero => intro _; simp [bestM]; omega
  | succ k ih =>
    intro hk
    simp only [bestM]
    have h1 := ih (by omega)
    have h2 := fall_len xs k
    have h3 := cntG_sum xs n k (by omega)
    omega

end Go.Proofs.Ytpicnechmdbkfaa

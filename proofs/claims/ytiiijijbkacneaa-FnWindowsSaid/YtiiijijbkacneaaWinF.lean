/- What the law of windows asks: plain lists. -/
import Derived.Test.YtiiijijbkacneaaWinC
import Derived.Test.YtiiijijbkacneaaWinQ
import Derived.Test.YtiiijijbkacneaaWinS
import Derived.Test.YtiiijijbkacneaaSmooth
namespace Go.Proofs.Ytiiijijbkacneaa
open Go.RowKit
set_option linter.unusedVariables false

theorem mem_nth {ys : List Int} {x : Int} (h : x ∈ ys) : ∃ j, j < ys.length ∧ nth ys j = x := by
  obtain ⟨j, hj, rfl⟩ := List.mem_iff_getElem.1 h
  exact ⟨j, hj, nth_eq hj⟩
theorem nth_memW {ys : List Int} {j : Nat} (h : j < ys.length) : nth ys j ∈ ys := by rw [nth_eq h]; exact List.getElem_mem h
theorem minF_le (ys : List Int) (j : Nat) (h : j < ys.length) : minF ys ≤ nth ys j := minUp_le ys (ys.length - 1) j (by omega)
theorem minF_mem (ys : List Int) (h : 0 < ys.length) : ∃ j, j < ys.length ∧ minF ys = nth ys j := by
  obtain ⟨i, h1, h2⟩ := minUp_mem ys (ys.length - 1)
  exact ⟨i, by omega, h2⟩
theorem maxF_ge (ys : List Int) (j : Nat) (h : j < ys.length) : nth ys j ≤ maxF ys := maxUp_le ys (ys.length - 1) j (by omega)
theorem maxF_mem (ys : List Int) (h : 0 < ys.length) : ∃ j, j < ys.length ∧ maxF ys = nth ys j := by
  obtain ⟨i, h1, h2⟩ := maxUp_mem ys (ys.length - 1)
  exact ⟨i, by omega, h2⟩
theorem srt_first {ys : List Int} (h : 0 < ys.length) : nth (srt ys) 0 = minF ys := by
  have hl := srt_len ys
  obtain ⟨j, hj, he⟩ := minF_mem ys h
  have h1 : minF ys ∈ srt ys := (srt_perm ys).mem_iff.2 (by rw [he]; exact nth_memW hj)
  obtain ⟨p, hp, hpe⟩ := mem_nth h1
  have h2 : nth (srt ys) 0 ≤ nth (srt ys) p := by
    by_cases h0 : p = 0
    · rw [h0]; omega
    · exact srt_srt ys 0 p (by omega) hp
  have h3 : nth (srt ys) 0 ∈ ys := (srt_perm ys).mem_iff.1 (nth_memW (by omega))
  obtain ⟨q, hq, hqe⟩ := mem_nth h3
  have := minF_le ys q hq
  omega
theorem srt_last {ys : List Int} (h : 0 < ys.length) : nth (srt ys) (ys.length - 1) = maxF ys := by
  have hl := srt_len ys
  obtain ⟨j, hj, he⟩ := maxF_mem ys h
  have h1 : maxF ys ∈ srt ys := (srt_perm ys).mem_iff.2 (by rw [he]; exact nth_memW hj)
  obtain ⟨p, hp, hpe⟩ := mem_nth h1
  have h2 : nth (srt ys) p ≤ nth (srt ys) (ys.length - 1) := by
    by_cases h0 : p = ys.length - 1
    · rw [h0]; omega
    · exact srt_srt ys p (ys.length - 1) (by omega) (by omega)
  have h3 : nth (srt ys) (ys.length - 1) ∈ ys := (srt_perm ys).mem_iff.1 (nth_memW (by omega))
  obtain ⟨q, hq, hqe⟩ := mem_nth h3
  have := maxF_ge ys q hq
  omega
theorem rkF_lt {ys : List Int} (h : 0 < ys.length) : ∃ r : Nat, rkF ys = (r : Int) ∧ r < ys.length ∧ r = cntP (lastB ys) ys (ys.length - 1) := by
  refine ⟨cntP (lastB ys) ys (ys.length - 1), ?_, ?_, rfl⟩
  · unfold rkF
    obtain ⟨m, hm⟩ : ∃ m, ys.length = m + 1 := ⟨ys.length - 1, by omega⟩
    rw [hm, cntP_miss]; · rfl
    unfold lastB; rw [hm]; exact decide_eq_false (by simp)
  · have := cntP_le (lastB ys) ys (ys.length - 1); omega

/-- The queue of a window. -/
theorem lessB_iff {ys : List Int} {q : Nat} : lessB ys q = true ↔ LessTo ys q ys.length := by
  constructor
  · intro h
    exact Classical.byContradiction fun hn => by rw [lessB_no hn] at h; cases h
  · exact lessB_yes
theorem lqTo_mem {ys : List Int} {at' : Nat} {x : Int} : ∀ m, x ∈ lqTo ys at' m ↔ ∃ q, q < m ∧ lessB ys q = true ∧ x = (at' : Int) + q := by
  intro m
  induction m with
  | zero => simp [lqTo]
  | succ m ih =>
    by_cases h : lessB ys m = true
    · rw [lqTo_yes h, List.mem_append, ih]
      constructor
      · rintro (⟨q, h1, h2, h3⟩ | h1)
        · exact ⟨q, by omega, h2, h3⟩
        · simp at h1; exact ⟨m, by omega, h, h1⟩
      · rintro ⟨q, h1, h2, h3⟩
        by_cases e : q = m
        · subst e; right; simp [h3]
        · left; exact ⟨q, by omega, h2, h3⟩
    · rw [lqTo_no (by simpa using h), ih]
      constructor
      · rintro ⟨q, h1, h2, h3⟩; exact ⟨q, by omega, h2, h3⟩
      · rintro ⟨q, h1, h2, h3⟩
        by_cases e : q = m
        · subst e; exact absurd h2 h
        · exact ⟨q, by omega, h2, h3⟩
theorem lqTo_pw (ys : List Int) (at' : Nat) : ∀ m, (lqTo ys at' m).Pairwise (· < ·) := by
  intro m
  induction m with
  | zero => simp [lqTo]
  | succ m ih =>
    by_cases h : lessB ys m = true
    · rw [lqTo_yes h]
      refine List.pairwise_append.2 ⟨ih, by simp, fun x hx y hy => ?_⟩
      obtain ⟨q, h1, _, h3⟩ := (lqTo_mem m).1 hx
      simp at hy; omega
    · rw [lqTo_no (by simpa using h)]; exact ih
theorem lqTo_cnt {ys : List Int} {at' : Nat} : ∀ m, m ≤ ys.length - 1 → (lqTo ys at' m).length ≤ cntP (lastB ys) ys m := by
  intro m
  induction m with
  | zero => intro _; simp [lqTo]
  | succ m ih =>
    intro hm
    have ih' := ih (by omega)
    by_cases h : lessB ys m = true
    · have h2 := (lessB_iff.1 h) (ys.length - 1) (by omega) (by omega)
      rw [lqTo_yes h, cntP_hit (by unfold lastB; exact decide_eq_true h2), List.length_append]
      simp; omega
    · rw [lqTo_no (by simpa using h), cntP]
      split <;> omega
theorem less_behind {ys : List Int} : ∀ s t, t + s + 1 = ys.length → ∃ q, t ≤ q ∧ q < ys.length ∧ lessB ys q = true ∧ nth ys q ≤ nth ys t := by
  intro s
  induction s using Nat.strongRecOn with
  | ind s ih =>
    intro t ht
    by_cases h : LessTo ys t ys.length
    · exact ⟨t, Nat.le_refl _, by omega, lessB_yes h, Int.le_refl _⟩
    · have : ∃ i, t < i ∧ i < ys.length ∧ ¬ nth ys t < nth ys i := by
        apply Classical.byContradiction
        intro hn
        exact h (fun i h1 h2 => Classical.byContradiction fun h3 => hn ⟨i, h1, h2, h3⟩)
      obtain ⟨i, h1, h2, h3⟩ := this
      obtain ⟨q, g1, g2, g3, g4⟩ := ih (ys.length - 1 - i) (by omega) i (by omega)
      exact ⟨q, by omega, g2, g3, by omega⟩
structure Lq (ys v : List Int) (i : Nat) : Prop where
  pos : 0 < v.length
  bd : ∀ k, k < v.length → ∃ q : Nat, nth v k = ((i + q : Nat) : Int) ∧ q < ys.length
  up : ∀ k, k + 1 < v.length → nth v k < nth v (k + 1)
  upv : ∀ k, k + 1 < v.length → ∀ p q : Nat, nth v k = ((i + p : Nat) : Int) → nth v (k + 1) = ((i + q : Nat) : Int) → nth ys p < nth ys q
  hd : ∀ q : Nat, nth v 0 = ((i + q : Nat) : Int) → nth ys q = minF ys
  last : nth v (v.length - 1) = ((i + (ys.length - 1) : Nat) : Int)
  len : v.length ≤ cntP (lastB ys) ys (ys.length - 1) + 1
theorem lq_ok {ys : List Int} (i : Nat) (h : 0 < ys.length) : Lq ys (lqTo ys i ys.length) i := by
  obtain ⟨m, hm⟩ : ∃ m, ys.length = m + 1 := ⟨ys.length - 1, by omega⟩
  have hlast : lessB ys m = true := lessB_yes (fun j h1 h2 => by omega)
  have hv : lqTo ys i ys.length = lqTo ys i m ++ [(i : Int) + m] := by rw [hm, lqTo_yes hlast]
  have hlen : (lqTo ys i ys.length).length = (lqTo ys i m).length + 1 := by rw [hv]; simp
  have mem : ∀ k, k < (lqTo ys i ys.length).length → ∃ q, q < ys.length ∧ lessB ys q = true ∧ nth (lqTo ys i ys.length) k = (i : Int) + q := fun k hk => (lqTo_mem _).1 (nth_memW hk)
  have pw := List.pairwise_iff_getElem.1 (lqTo_pw ys i ys.length)
  have asc : ∀ a b, a < b → b < (lqTo ys i ys.length).length → nth (lqTo ys i ys.length) a < nth (lqTo ys i ys.length) b := fun a b hab hb => by
    rw [nth_eq hb, nth_eq (by omega)]; exact pw a b (by omega) hb hab
  refine ⟨by omega, fun k hk => ?_, fun k hk => asc k (k + 1) (by omega) hk, fun k hk p q hp hq => ?_, fun q hq => ?_, ?_, ?_⟩
  · obtain ⟨q, h1, _, h3⟩ := mem k hk
    exact ⟨q, by omega, h1⟩
  · obtain ⟨p', h1, h2, h3⟩ := mem k (by omega)
    obtain ⟨q', g1, g2, g3⟩ := mem (k + 1) hk
    have := asc k (k + 1) (by omega) hk
    obtain rfl : p = p' := by omega
    obtain rfl : q = q' := by omega
    exact lessB_iff.1 h2 q (by omega) g1
  · obtain ⟨p0, h1, h2, h3⟩ := mem 0 (by omega)
    obtain rfl : q = p0 := by omega
    obtain ⟨t, ht, hte⟩ := minF_mem ys h
    obtain ⟨s, g1, g2, g3, g4⟩ := less_behind (ys := ys) (ys.length - 1 - t) t (by omega)
    have g5 := minF_le ys s g2
    have g6 : (i : Int) + s ∈ lqTo ys i ys.length := (lqTo_mem _).2 ⟨s, g2, g3, rfl⟩
    obtain ⟨k, hk, hke⟩ := mem_nth g6
    have g7 := minF_le ys q h1
    by_cases hk0 : k = 0
    · subst hk0
      have : q = s := by omega
      subst this; omega
    · have := asc 0 k (by omega) hk
      have := lessB_iff.1 h2 s (by omega) g2
      omega
  · rw [hlen, hv, Nat.add_sub_cancel, nth_appR (Nat.le_refl _), Nat.sub_self, hm]
    show (i : Int) + m = _; omega
  · rw [hlen]
    have := lqTo_cnt (ys := ys) (at' := i) m (by omega)
    rw [hm, Nat.add_sub_cancel]; omega

/-- Smoothing. -/
theorem winL_srt {xs : List Int} (hs : Srt xs) {i wd : Nat} (h : i + wd ≤ xs.length) : Srt (winL xs i wd) := fun a b hab hb => by
  rw [winL_len h] at hb
  rw [nth_winL (by omega), nth_winL hb]
  exact hs (i + a) (i + b) (by omega) (by omega)
theorem smG_srt {xs : List Int} (hs : Srt xs) {wd : Nat} (ho : wd % 2 = 1) : ∀ k, k ≤ winN xs.length wd → smG xs wd k = xs := by
  intro k
  induction k with
  | zero => intro _; rfl
  | succ k ih =>
    intro hk
    unfold winN at hk
    have hw : k + wd ≤ xs.length := by omega
    rw [smG, ih (by unfold winN; omega)]
    have e : medF (winL xs k wd) = nth xs (k + wd / 2) := by
      unfold medF
      rw [← srt_of (winL_srt hs hw) (List.Perm.refl _), winL_len hw, nth_winL (by omega)]
      congr 1; omega
    rw [e]
    apply ext_nth' (by simp)
    intro j hj
    rw [nth_set]
    split
    · rename_i h2; rw [h2.1]
    · rfl
/-- Counting. -/
theorem cntP_win (p : Int → Bool) (xs : List Int) (i wd : Nat) : ∀ k, k ≤ wd → cntP p (winL xs i wd) k + cntP p xs i = cntP p xs (i + k) := by
  intro k
  induction k with
  | zero => intro _; simp [cntP]
  | succ k ih =>
    intro hk
    have ih' := ih (by omega)
    rw [show i + (k + 1) = (i + k) + 1 by omega, cntP, cntP, nth_winL (by omega)]
    split <;> omega
theorem cntP_up (p : Int → Bool) (xs : List Int) {a b : Nat} (h : a ≤ b) : cntP p xs a ≤ cntP p xs b := by
  induction b with
  | zero => obtain rfl : a = 0 := by omega
            exact Nat.le_refl _
  | succ b ih =>
    rcases Nat.lt_or_ge b a with h1 | h1
    · obtain rfl : a = b + 1 := by omega
      exact Nat.le_refl _
    · have := ih h1; rw [cntP]; split <;> omega
theorem cntP_none (p : Int → Bool) (xs : List Int) (h : ∀ x, p x = false) (k : Nat) : cntP p xs k = 0 := by
  induction k with
  | zero => rfl
  | succ k ih => rw [cntP_miss (h _), ih]
theorem okWin_12 {n wd : Nat} (hn : n ≤ 12) (h1 : 1 ≤ wd) (h5 : wd ≤ 5) : okWin n (wd : Int) = true := by
  unfold okWin; rw [decide_eq_true (by omega), decide_eq_true (by omega)]; rfl
theorem cw_ok {xs : List Int} {wd : Nat} (hn : xs.length ≤ 12) (h1 : 1 ≤ wd) (h5 : wd ≤ 5) : ∃ c : Nat, cwV xs (wd : Int) 0 5 = (c : Int) ∧ c ≤ wd ∧ c ≤ cntP (inB 0 5) xs xs.length := by
  refine ⟨maxTo (cwF xs wd 0 5) (winN xs.length wd), ?_, ?_, ?_⟩
  · unfold cwV; rw [if_pos (okWin_12 hn h1 h5), Int.toNat_natCast]
  · exact maxTo_le _ _ _ (fun i hi => cntP_le _ _ _)
  · refine maxTo_le _ _ _ (fun i hi => ?_)
    unfold winN at hi
    have h2 := cntP_win (inB 0 5) xs i wd wd (Nat.le_refl _)
    have h3 := cntP_up (inB 0 5) xs (show i + wd ≤ xs.length by omega)
    unfold cwF; omega
theorem cw_none {xs : List Int} {wd : Nat} (hn : xs.length ≤ 12) (h1 : 1 ≤ wd) (h5 : wd ≤ 5) : cwV xs (wd : Int) 3 2 = 0 := by
  have : maxTo (cwF xs wd 3 2) (winN xs.length wd) ≤ 0 := maxTo_le _ _ _ (fun i hi => by
    unfold cwF
    rw [cntP_none _ _ (fun x => by unfold inB; exact decide_eq_false (by omega))]; exact Nat.le_refl _)
  unfold cwV; rw [if_pos (okWin_12 hn h1 h5), Int.toNat_natCast]; omega
theorem med_one {xs : List Int} (hn : xs.length ≤ 12) : wmV medF xs 1 = xs := by
  have e : wmV medF xs 1 = winMap medF xs 1 xs.length := by
    unfold wmV
    rw [if_pos (show okWin xs.length 1 = true from okWin_12 (wd := 1) hn (by omega) (by omega))]
    rfl
  rw [e]
  apply ext_nth' (by simp [winMap])
  intro j hj
  have hj' : j < xs.length := by simpa [winMap] using hj
  rw [nth_eq hj]
  simp only [winMap, List.getElem_map, List.getElem_range]
  have hl : (winL xs j 1).length = 1 := winL_len (by omega)
  unfold medF
  rw [hl]
  have h0 := srt_first (ys := winL xs j 1) (by omega)
  obtain ⟨q, hq, he⟩ := minF_mem (winL xs j 1) (by omega)
  obtain rfl : q = 0 := by omega
  show nth (srt (winL xs j 1)) 0 = _
  rw [h0, he, nth_winL (by omega), Nat.add_zero]

end Go.Proofs.Ytiiijijbkacneaa

/- What the law of prefix reversals asks: plain lists. -/
import Derived.Test.YtfnkddplmpcbgaaDistR
import Derived.Test.YtfnkddplmpcbgaaBest
import Derived.Test.YtfnkddplmpcbgaaGreedy
import Derived.Test.YtfnkddplmpcbgaaRunF
import Derived.Test.YtfnkddplmpcbgaaFlipP
namespace Go.Proofs.Ytfnkddplmpcbgaa
open Go.RowKit
set_option linter.unusedVariables false

/-- One flip after the other. -/
def runL (xs ys : List Int) : List Int := ys.foldl (fun l k => flipL l k.toNat) xs
theorem runL_snoc (xs ys : List Int) (k : Int) : runL xs (ys ++ [k]) = flipL (runL xs ys) k.toNat := by simp [runL]
theorem flips_take (xs ys : List Int) : ∀ k, k ≤ ys.length → flips xs ys k = runL xs (ys.take k)
  | 0, _ => rfl
  | k + 1, h => by rw [flips, flips_take xs ys k (by omega), take_nth (by omega), runL_snoc]
theorem flips_all (xs ys : List Int) : flips xs ys ys.length = runL xs ys := by rw [flips_take xs ys _ (Nat.le_refl _), List.take_length]
/-- Entries from 1 to n. -/
def InB (ys : List Int) (n : Nat) : Prop := ∀ y ∈ ys, 1 ≤ y ∧ y ≤ n
theorem InB.nth {ys : List Int} {n : Nat} (h : InB ys n) (j : Nat) (hj : j < ys.length) : 0 ≤ Go.Proofs.Ytfnkddplmpcbgaa.nth ys j ∧ Go.Proofs.Ytfnkddplmpcbgaa.nth ys j ≤ n := by
  rw [nth_eq hj]; have := h _ (List.getElem_mem hj); omega
theorem runL_order {n : Nat} : ∀ (ys xs : List Int), Order xs n → InB ys n → Order (runL xs ys) n
  | [], xs, h, _ => h
  | y :: ys, xs, h, hy => runL_order ys _ (h.flip y.toNat (by have := hy y (by simp); omega)) (fun z hz => hy z (by simp [hz]))
theorem runL_dv {n : Nat} (hn : n ≤ 8) : ∀ (ys xs : List Int), Order xs n → InB ys n → dv n xs ≤ dv n (runL xs ys) + ys.length
  | [], xs, _, _ => by simp [runL]
  | y :: ys, xs, h, hy => by
    have hb : y.toNat ≤ n := by have := hy y (by simp); omega
    have h1 := runL_dv hn ys _ (h.flip y.toNat hb) (fun z hz => hy z (by simp [hz]))
    have h2 := dv_back hn h y.toNat hb
    rw [List.length_cons]
    have e : runL xs (y :: ys) = runL (flipL xs y.toNat) ys := rfl
    rw [e]; omega
theorem grd_run {xs : List Int} {n : Nat} (h : Order xs n) (s : Nat) (hs : s ≤ n) : runL xs (grd xs n s).2 = (grd xs n s).1 ∧ InB (grd xs n s).2 n := by
  induction s with
  | zero => exact ⟨rfl, fun y hy => by cases hy⟩
  | succ s ih =>
    obtain ⟨h1, h2⟩ := ih (by omega)
    have hp := posX_spec (grd_order h s (by omega)) (x := n - 1 - s) (by omega)
    simp only [grd, grdStep]
    split
    · exact ⟨h1, h2⟩
    · split
      · rename_i h3 h4
        refine ⟨?_, fun y hy => ?_⟩
        · rw [runL_snoc, runL_snoc, h1]
          congr 1 <;> omega
        · rcases List.mem_append.1 hy with h5 | h5
          · rcases List.mem_append.1 h5 with h6 | h6
            · exact h2 y h6
            · simp at h6; omega
          · simp at h5; omega
      · rename_i h3 h4
        refine ⟨?_, fun y hy => ?_⟩
        · rw [runL_snoc, h1]
          congr 1
        · rcases List.mem_append.1 hy with h5 | h5
          · exact h2 y h5
          · simp at h5; omega
theorem grd_suf {xs : List Int} {n : Nat} (h : Order xs n) (s : Nat) (hs : s ≤ n) : ∀ j, n - s ≤ j → j < n → nth (grd xs n s).1 j = j := by
  induction s with
  | zero => intro j h1 h2; omega
  | succ s ih =>
    intro j h1 h2
    have ih' := ih (by omega)
    have ho := grd_order h s (by omega)
    have hp := posX_spec ho (x := n - 1 - s) (by omega)
    have hl := ho.1
    generalize posX (grd xs n s).1 n (n - 1 - s) = p at *
    have hple : p ≤ n - 1 - s := by
      rcases Nat.lt_or_ge (n - 1 - s) p with h3 | h3
      · have := ih' p (by omega) hp.1; omega
      · exact h3
    simp only [grd, grdStep]
    have hpe : posX (grd xs n s).1 n (n - 1 - s) = p := posX_eq ho hp.1 hp.2 (by omega)
    rw [hpe]
    split
    · rename_i h3
      rcases Nat.lt_or_ge (n - 1 - s) j with h4 | h4
      · exact ih' j (by omega) h2
      · obtain rfl : j = n - 1 - s := by omega
        have := hp.2; rw [h3] at this; exact this
    · split
      · rename_i h3 h4
        have ho1 := ho.flip (p + 1) (by omega)
        show nth (flipL (flipL (grd xs n s).1 (p + 1)) (n - 1 - s + 1)) j = j
        rw [nth_flipL (by rw [flipL_len]; omega) (by rw [flipL_len]; omega)]
        split
        · obtain rfl : j = n - 1 - s := by omega
          rw [nth_flipL (by omega) (by omega), if_pos (by omega), show p + 1 - 1 - (n - 1 - s + 1 - 1 - (n - 1 - s)) = p by omega]
          exact hp.2
        · rw [nth_flipL (by omega) (by omega), if_neg (by omega)]
          exact ih' j (by omega) h2
      · rename_i h3 h4
        show nth (flipL (grd xs n s).1 (n - 1 - s + 1)) j = j
        rw [nth_flipL (by omega) (by omega)]
        split
        · obtain rfl : j = n - 1 - s := by omega
          rw [show n - 1 - s + 1 - 1 - (n - 1 - s) = p by omega]
          exact hp.2
        · exact ih' j (by omega) h2
theorem grd_sorts {xs : List Int} {n : Nat} (h : Order xs n) : (grd xs n (n - 1)).1 = idn n := by
  have ho := grd_order h (n - 1) (by omega)
  have hs := grd_suf h (n - 1) (by omega)
  refine ho.eq_idn (fun j hj => ?_)
  by_cases h0 : j = 0
  · subst h0
    obtain ⟨p, hp, hx⟩ := take_sub ho 0 hj
    by_cases hp0 : p = 0
    · subst hp0; exact hx
    · have := hs p (by omega) hp; omega
  · exact hs j (by omega) hj
theorem Best.run {n : Nat} {x l : List Int} (h : Best n x l) : runL x l = idn n ∧ InB l n := by
  induction h with
  | nil => exact ⟨rfl, fun y hy => by cases hy⟩
  | cons x k l h1 h2 _ _ _ ih =>
    refine ⟨?_, fun y hy => ?_⟩
    · have e : runL x ((k : Int) :: l) = runL (flipL x k) l := rfl
      rw [e]; exact ih.1
    · rcases List.mem_cons.1 hy with h5 | h5
      · omega
      · exact ih.2 y h5

/-- An order of at most 5 numbers: what the law's first half asks. -/
structure FlF (xs : List Int) (k : Nat) : Prop where
  ord : Order xs k
  six : sixB xs = true
  per : isPerm xs = true
  g1 : rfB xs (grV xs) = true
  g2 : rfL xs (grV xs) = idn k
  b1 : rfB xs (bfL xs) = true
  b2 : rfL xs (bfL xs) = idn k
  bl : (bfL xs).length = dv k xs
  gap : gapC xs k k ≤ dv k xs
  gl : dv k xs ≤ (grV xs).length
  gu : (grV xs).length ≤ 2 * (k - 1)
theorem order_isPerm {xs : List Int} {k : Nat} (h : Order xs k) (hk : k ≤ 8) : isPerm xs = true := by
  obtain ⟨h1, h2, h3⟩ := h
  subst h1
  exact isPerm_of hk h2 h3
theorem flF {xs : List Int} {k : Nat} (h : Order xs k) (hk : k ≤ 5) : FlF xs k := by
  have hp := order_isPerm h (by omega)
  have hl := h.1
  have hs : sixB xs = true := by unfold sixB; rw [hp, hl, decide_eq_true (show k ≤ 6 by omega)]; rfl
  have hgv : grV xs = (grd xs k (k - 1)).2 := by unfold grV; rw [hp, hl]; rfl
  have hbv : bfL xs = bestL k xs := by unfold bfL; rw [hs, hl]; rfl
  have hgr := grd_run h (k - 1) (by omega)
  have hgs := grd_sorts h
  have hgu := grd_len xs k (k - 1)
  have hbs := bestL_spec (n := k) (by omega) h
  have hbr := hbs.run
  have hbl := hbs.len (by omega)
  have hrd := runL_dv (n := k) (by omega) _ xs h hgr.2
  rw [hgr.1, hgs, (dv_zero (by omega) (idn_order k)).2 rfl] at hrd
  have hG := rf_yes (xs := xs) (ys := grV xs) hp (by rw [hgv]; omega) (fun j hj => by rw [hgv] at hj ⊢; rw [hl]; exact hgr.2.nth j hj)
  have hB := rf_yes (xs := xs) (ys := bfL xs) hp (by rw [hbv, hbl]; omega) (fun j hj => by rw [hbv] at hj ⊢; rw [hl]; exact hbr.2.nth j hj)
  refine ⟨h, hs, hp, hG.1, ?_, hB.1, ?_, by rw [hbv, hbl], gap_dv (by omega) _ xs h rfl, by rw [hgv]; omega, by rw [hgv]; exact hgu⟩
  · rw [hG.2, flips_all, hgv, hgr.1, hgs]
  · rw [hB.2, flips_all, hbv, hbr.1]
theorem dv_max {n : Nat} (hn : n ≤ 8) {x : List Int} (h : Order x n) : dv n x ≤ maxD (dst n) := by
  obtain ⟨i, hi, rfl⟩ := dst_all hn x h
  rw [dv_at hn hi]
  exact (dst_ok n hn).max i hi

/-- The counts, reckoned. -/
def chkD (es : List Ent) (n N : Nat) : Bool := es.length == N && (List.range 11).all (fun x => decide (0 < cntD es x) == decide (x ≤ maxD es)) && cntD es 0 == 1 && cntD es 1 == n - 1 && decide (maxD es ≤ 10)
set_option maxRecDepth 100000 in
theorem chk_all : chkD (srch 0 1) 0 1 = true ∧ chkD (srch 1 1) 1 1 = true ∧ chkD (srch 2 2) 2 2 = true ∧ chkD (srch 3 6) 3 6 = true ∧ chkD (srch 4 24) 4 24 = true ∧ chkD (srch 5 120) 5 120 = true := by decide +kernel
def facN : Nat → Nat
  | 0 => 1
  | n + 1 => (n + 1) * facN n
structure ChkF (n : Nat) : Prop where
  len : (dst n).length = facN n
  pos : ∀ x, x ≤ 10 → (0 < cntD (dst n) x ↔ x ≤ maxD (dst n))
  c0 : cntD (dst n) 0 = 1
  c1 : cntD (dst n) 1 = n - 1
  mx : maxD (dst n) ≤ 10
theorem chkF_of {n N : Nat} (hn : n ≤ 5) (hN : facN n = N) (h : chkD (srch n N) n N = true) : ChkF n := by
  unfold chkD at h
  simp only [Bool.and_eq_true, beq_iff_eq, List.all_eq_true, List.mem_range, decide_eq_true_eq] at h
  obtain ⟨⟨⟨⟨h1, h2⟩, h3⟩, h4⟩, h5⟩ := h
  have e : dst n = srch n N := by
    obtain ⟨b, g1, g2, g3, g4⟩ := srch_bf n N
    have hb : b = (srch n b).length := by
      by_cases hlt : b < N
      · exact g4 hlt
      · obtain rfl : b = N := by omega
        exact h1.symm
    rw [g2]; exact (dst_of (by omega) g3 hb).symm
  rw [← e] at h1 h2 h3 h4 h5
  refine ⟨by rw [h1, hN], fun x hx => ?_, h3, h4, h5⟩
  have := h2 x (by omega)
  by_cases hp : 0 < cntD (dst n) x <;> by_cases hq : x ≤ maxD (dst n) <;> simp_all
theorem chkF {n : Nat} (hn : n ≤ 5) : ChkF n := by
  obtain ⟨h0, h1, h2, h3, h4, h5⟩ := chk_all
  rcases (show n = 0 ∨ n = 1 ∨ n = 2 ∨ n = 3 ∨ n = 4 ∨ n = 5 by omega) with rfl | rfl | rfl | rfl | rfl | rfl
  · exact chkF_of hn rfl h0
  · exact chkF_of hn rfl h1
  · exact chkF_of hn rfl h2
  · exact chkF_of hn rfl h3
  · exact chkF_of hn rfl h4
  · exact chkF_of hn rfl h5
theorem cnt_step (es : List Ent) (m : Nat) : es.countP (fun e => decide (e.2 < m + 1)) = es.countP (fun e => decide (e.2 < m)) + cntD es m := by
  unfold cntD
  induction es with
  | nil => rfl
  | cons e es ih =>
    rw [List.countP_cons, List.countP_cons, List.countP_cons, ih]
    rcases Nat.lt_trichotomy e.2 m with h | h | h
    · have h1 : decide (e.2 < m + 1) = true := decide_eq_true (by omega)
      have h2 : decide (e.2 < m) = true := decide_eq_true h
      have h3 : (e.2 == m) = false := by simp; omega
      rw [h1, h2, h3]; simp; omega
    · have h1 : decide (e.2 < m + 1) = true := decide_eq_true (by omega)
      have h2 : decide (e.2 < m) = false := decide_eq_false (by omega)
      have h3 : (e.2 == m) = true := by simp; omega
      rw [h1, h2, h3]; simp; omega
    · have h1 : decide (e.2 < m + 1) = false := decide_eq_false (by omega)
      have h2 : decide (e.2 < m) = false := decide_eq_false (by omega)
      have h3 : (e.2 == m) = false := by simp; omega
      rw [h1, h2, h3]; simp
theorem sum_cnt (es : List Ent) (m : Nat) : smN (cntD es) m = es.countP fun e => decide (e.2 < m) := by
  induction m with
  | zero => simp [smN]
  | succ m ih => rw [smN, ih, cnt_step]
theorem sum_all {n : Nat} (hn : n ≤ 5) : smN (cntD (dst n)) 11 = facN n := by
  have h := chkF hn
  rw [sum_cnt, ← h.len, List.countP_eq_length]
  intro e he
  obtain ⟨i, hi, rfl⟩ := List.mem_iff_getElem.1 he
  have h1 := (dst_ok n (by omega)).max i hi
  have h2 := h.mx
  rw [en_eq hi] at h1
  exact decide_eq_true (by omega)

end Go.Proofs.Ytfnkddplmpcbgaa

/- Sorting by gaps, plain lists: a list that is sorted by a gap stays so; bubbles by a gap sort by it. -/
import Derived.Test.YtpicnechmdbkfaaShellL
import Derived.Test.YtpicnechmdbkfaaDisoL
namespace Go.Proofs.Ytpicnechmdbkfaa
open Go.RowKit
set_option linter.unusedVariables false

def HS (xs : List Int) (h : Nat) : Prop := ∀ i, i + h < xs.length → nth xs i ≤ nth xs (i + h)
theorem nth_setG (l : List Int) (i j : Nat) (x : Int) (hi : i < l.length) : nth (l.set i x) j = if i = j then x else nth l j := by
  unfold nth List.getD
  rw [List.getElem?_set]
  by_cases e : i = j
  · subst e; rw [if_pos rfl, if_pos rfl, if_pos hi]; rfl
  · rw [if_neg e, if_neg e]
theorem row_mod {r q h : Nat} (hr : r < h) : (r + q * h) % h = r := by rw [Nat.add_mul_mod_self_right, Nat.mod_eq_of_lt hr]
theorem row_div {r q h : Nat} (hr : r < h) : (r + q * h) / h = q := by
  rw [Nat.add_mul_div_right _ _ (by omega), Nat.div_eq_of_lt hr]; omega
theorem row_of (i h : Nat) : i = i % h + i / h * h := by have := Nat.mod_add_div i h; rw [Nat.mul_comm] at this; omega
theorem row_inj {r r' q q' h : Nat} (hr : r < h) (hr' : r' < h) (e : r + q * h = r' + q' * h) : r = r' ∧ q = q' := by
  have a := row_mod (q := q) hr
  have b := row_mod (q := q') hr'
  have c := row_div (q := q) hr
  have d := row_div (q := q') hr'
  rw [e] at a c
  omega
theorem nth_stG_miss (ys out : List Int) (h r m p : Nat) (hb : ∀ q, q < m → r + q * h < out.length) (hp : ∀ q, q < m → p ≠ r + q * h) : nth (stG ys out h r m) p = nth out p := by
  induction m with
  | zero => rfl
  | succ m ih =>
    rw [stG, nth_setG _ _ _ _ (by rw [stG_len]; exact hb m (by omega)), if_neg (fun e => hp m (by omega) e.symm)]
    exact ih (fun q hq => hb q (by omega)) (fun q hq => hp q (by omega))
theorem nth_stG_hit (ys out : List Int) (h r m q : Nat) (hr : r < h) (hb : ∀ q, q < m → r + q * h < out.length) (hq : q < m) : nth (stG ys out h r m) (r + q * h) = nth ys q := by
  induction m with
  | zero => omega
  | succ m ih =>
    rw [stG, nth_setG _ _ _ _ (by rw [stG_len]; exact hb m (by omega))]
    by_cases e : q = m
    · subst e; rw [if_pos rfl]
    · rw [if_neg (fun e2 => e (row_inj hr hr e2).2.symm)]
      exact ih (fun q hq => hb q (by omega)) (by omega)
theorem nth_gsG (xs : List Int) (h : Nat) (hh : 1 ≤ h) (R : Nat) (hR : R ≤ h) (r q : Nat) (hr : r < h) (hq : q < cnGp xs.length h r) :
    nth (gsG xs h R) (r + q * h) = if r < R then nth (srt (ptG xs h r (cnGp xs.length h r))) q else nth xs (r + q * h) := by
  induction R with
  | zero => rw [if_neg (by omega)]; rfl
  | succ R ih =>
    have hb : ∀ q, q < cnGp xs.length h R → R + q * h < (gsG xs h R).length := fun q hq => by rw [gsG_len]; exact (cnGp_lt hh).1 hq
    rw [gsG]
    by_cases e : r = R
    · subst e
      rw [nth_stG_hit _ _ _ _ _ _ hr hb hq, if_pos (by omega)]
    · rw [nth_stG_miss _ _ _ _ _ _ hb (fun q' _ e2 => e (row_inj hr (by omega) e2).1), ih (by omega)]
      by_cases e3 : r < R
      · rw [if_pos e3, if_pos (by omega)]
      · rw [if_neg e3, if_neg (by omega)]
theorem gs_at (xs : List Int) (h : Nat) (hh : 1 ≤ h) (r q : Nat) (hr : r < h) (hq : q < cnGp xs.length h r) : nth (gsG xs h h) (r + q * h) = nth (srt (ptG xs h r (cnGp xs.length h r))) q := by
  rw [nth_gsG xs h hh h (Nat.le_refl _) r q hr hq, if_pos hr]
theorem nth_ptG (xs : List Int) (h r m q : Nat) (hq : q < m) : nth (ptG xs h r m) q = nth xs (r + q * h) := by
  rw [nth_eq (by rw [ptG_len]; exact hq)]; simp [ptG]
theorem ptG_gs (xs : List Int) (h : Nat) (hh : 1 ≤ h) (r : Nat) (hr : r < h) : ptG (gsG xs h h) h r (cnGp xs.length h r) = srt (ptG xs h r (cnGp xs.length h r)) := by
  apply List.ext_getElem (by rw [ptG_len, srt_len, ptG_len])
  intro q h1 h2
  rw [ptG_len] at h1
  rw [← nth_eq, ← nth_eq, nth_ptG _ _ _ _ _ h1, gs_at xs h hh r q hr h1]
theorem gs_HS (xs : List Int) (h : Nat) (hh : 1 ≤ h) : HS (gsG xs h h) h := by
  intro i hi
  rw [gsG_len] at hi
  have hr : i % h < h := Nat.mod_lt _ (by omega)
  have e1 := row_of i h
  have e2 : i + h = i % h + (i / h + 1) * h := by rw [Nat.succ_mul]; omega
  have q2 : i / h + 1 < cnGp xs.length h (i % h) := (cnGp_lt hh).2 (by omega)
  rw [e2]
  rw [gs_at xs h hh _ _ hr q2]
  have : nth (gsG xs h h) i = nth (gsG xs h h) (i % h + i / h * h) := by rw [← e1]
  rw [this, gs_at xs h hh _ _ hr (by omega)]
  exact srt_srt _ _ _ (by omega) (by rw [srt_len, ptG_len]; exact q2)

def clt (f : Nat → Int) (x : Int) : Nat → Nat
  | 0 => 0
  | m + 1 => clt f x m + if f m < x then 1 else 0
theorem clt_le (f : Nat → Int) (x : Int) (m : Nat) : clt f x m ≤ m := by
  induction m with
  | zero => simp [clt]
  | succ m ih => simp only [clt]; split <;> omega
theorem clt_mono (f : Nat → Int) (x : Int) {m k : Nat} (h : m ≤ k) : clt f x m ≤ clt f x k := by
  induction k with
  | zero => obtain rfl : m = 0 := by omega
            exact Nat.le_refl _
  | succ k ih =>
    by_cases e : m = k + 1
    · rw [e]; exact Nat.le_refl _
    · have := ih (by omega); simp only [clt]; omega
theorem clt_congr {f g : Nat → Int} {x : Int} {m : Nat} (h : ∀ k, k < m → f k = g k) : clt f x m = clt g x m := by
  induction m with
  | zero => rfl
  | succ m ih => simp only [clt]; rw [ih (fun k hk => h k (by omega)), h m (by omega)]
theorem clt_ptG (xs : List Int) (h r : Nat) (x : Int) (m : Nat) : (ptG xs h r m).countP (fun y => decide (y < x)) = clt (fun q => nth xs (r + q * h)) x m := by
  induction m with
  | zero => rfl
  | succ m ih =>
    rw [ptG_succ, List.countP_append, ih]
    simp [clt, List.countP_cons]
theorem srt_lo {ys : List Int} (hs : Srt ys) {q : Nat} (hq : q < ys.length) : ys.countP (fun y => decide (y < nth ys q)) ≤ q := by
  have e : ys.countP (fun y => decide (y < nth ys q)) = (ys.take q).countP (fun y => decide (y < nth ys q)) + (ys.drop q).countP (fun y => decide (y < nth ys q)) := by
    rw [← List.countP_append, List.take_append_drop]
  have h1 : (ys.take q).countP (fun y => decide (y < nth ys q)) ≤ q := Nat.le_trans (List.countP_le_length) (by rw [List.length_take]; omega)
  have h2 : (ys.drop q).countP (fun y => decide (y < nth ys q)) = 0 := by
    rw [List.countP_eq_zero]
    intro a ha
    obtain ⟨i, hi, rfl⟩ := List.mem_iff_getElem.1 ha
    rw [List.length_drop] at hi
    rw [List.getElem_drop, ← nth_eq (by omega)]
    by_cases e : i = 0
    · subst e; simp
    · have := hs q (q + i) (by omega) (by omega)
      simp; omega
  omega
theorem srt_hi {ys : List Int} (hs : Srt ys) {q : Nat} {x : Int} (hq : q < ys.length) (h : ys.countP (fun y => decide (y < x)) ≤ q) : x ≤ nth ys q := by
  apply Classical.byContradiction
  intro hn
  have e : ys.countP (fun y => decide (y < x)) = (ys.take (q + 1)).countP (fun y => decide (y < x)) + (ys.drop (q + 1)).countP (fun y => decide (y < x)) := by
    rw [← List.countP_append, List.take_append_drop]
  have h1 : (ys.take (q + 1)).countP (fun y => decide (y < x)) = (ys.take (q + 1)).length := by
    rw [List.countP_eq_length]
    intro a ha
    obtain ⟨i, hi, hil, rfl⟩ := mem_take_nth ha
    by_cases e : i = q
    · subst e; simp; omega
    · have := hs i q (by omega) hq
      simp; omega
  rw [List.length_take] at h1
  omega
theorem srt_same {ys zs : List Int} (h1 : Srt ys) (h2 : Srt zs) (hl : ys.length = zs.length) (hc : ∀ x, ys.countP (fun y => decide (y < x)) = zs.countP (fun y => decide (y < x))) : ys = zs := by
  apply List.ext_getElem hl
  intro q a b
  have c := srt_hi h2 b (x := nth ys q) (by rw [← hc]; exact srt_lo h1 a)
  have d := srt_hi h1 a (x := nth zs q) (by rw [hc]; exact srt_lo h2 b)
  rw [← nth_eq a, ← nth_eq b]; omega

theorem gs_keep (xs : List Int) (h k : Nat) (hh : 1 ≤ h) (hs : HS xs k) : HS (gsG xs h h) k := by
  intro i hi
  rw [gsG_len] at hi
  obtain ⟨r, hr⟩ : ∃ r, i % h = r := ⟨_, rfl⟩
  obtain ⟨q, hq⟩ : ∃ q, i / h = q := ⟨_, rfl⟩
  obtain ⟨r', hr'⟩ : ∃ r', (i + k) % h = r' := ⟨_, rfl⟩
  obtain ⟨q', hq'⟩ : ∃ q', (i + k) / h = q' := ⟨_, rfl⟩
  have e1 := row_of i h
  have e2 := row_of (i + k) h
  have hrh : r < h := by rw [← hr]; exact Nat.mod_lt _ (by omega)
  have hrh' : r' < h := by rw [← hr']; exact Nat.mod_lt _ (by omega)
  have hqq : q ≤ q' := by rw [← hq, ← hq']; exact Nat.div_le_div_right (by omega)
  rw [hr, hq] at e1
  rw [hr', hq'] at e2
  obtain ⟨d, hd⟩ : ∃ d, q' = q + d := ⟨q' - q, by omega⟩
  have hdh : q' * h = q * h + d * h := by rw [hd, Nat.add_mul]
  have c1 : q < cnGp xs.length h r := (cnGp_lt hh).2 (by omega)
  have c2 : q' < cnGp xs.length h r' := (cnGp_lt hh).2 (by omega)
  have g1 := gs_at xs h hh r q hrh c1
  have g2 := gs_at xs h hh r' q' hrh' c2
  rw [← e1] at g1
  rw [← e2] at g2
  rw [g1, g2]
  refine srt_hi (srt_srt _) (by rw [srt_len, ptG_len]; exact c2) ?_
  rw [(srt_perm (ptG xs h r' (cnGp xs.length h r'))).countP_eq, clt_ptG]
  have lo := srt_lo (srt_srt (ptG xs h r (cnGp xs.length h r))) (q := q) (by rw [srt_len, ptG_len]; exact c1)
  rw [(srt_perm (ptG xs h r (cnGp xs.length h r))).countP_eq, clt_ptG] at lo
  generalize nth (srt (ptG xs h r (cnGp xs.length h r))) q = x at lo
  have sh : ∀ m, m ≤ cnGp xs.length h r' → clt (fun q => nth xs (r' + q * h)) x m ≤ d + clt (fun q => nth xs (r + q * h)) x (m - d) := by
    intro m
    induction m with
    | zero => intro _; simp [clt]
    | succ m ih =>
      intro hm
      have h1 := ih (by omega)
      rcases Nat.lt_or_ge m d with h2 | h2
      · have := clt_le (fun q => nth xs (r' + q * h)) x (m + 1); omega
      · rw [show m + 1 - d = (m - d) + 1 by omega]
        have h3 := (cnGp_lt hh).1 (show m < cnGp xs.length h r' by omega)
        have h4 : m * h = (m - d) * h + d * h := by rw [← Nat.add_mul]; congr 1; omega
        have h5 := hs (r + (m - d) * h) (by omega)
        rw [show r + (m - d) * h + k = r' + m * h by omega] at h5
        simp only [clt]
        by_cases h6 : nth xs (r' + m * h) < x
        · rw [if_pos h6, if_pos (by omega)]; omega
        · rw [if_neg h6]; omega
  have h7 := sh _ (Nat.le_refl _)
  have h8 : cnGp xs.length h r' - d ≤ cnGp xs.length h r := by
    apply Classical.byContradiction
    intro hn
    have h9 := (cnGp_lt hh).1 (show cnGp xs.length h r + d < cnGp xs.length h r' by omega)
    rw [Nat.add_mul] at h9
    have h10 := (cnGp_lt (n := xs.length) (r := r) (k := cnGp xs.length h r) hh).2 (by omega)
    omega
  have h11 := clt_mono (fun q => nth xs (r + q * h)) x h8
  omega

theorem set_perm {l : List Int} {i : Nat} {x : Int} (hi : i < l.length) : (nth l i :: l.set i x).Perm (x :: l) := by
  induction l generalizing i with
  | nil => simp at hi
  | cons b t ih =>
    cases i with
    | zero => exact List.Perm.swap _ _ _
    | succ i =>
      have h := ih (i := i) (by simpa using hi)
      have e : nth (b :: t) (i + 1) = nth t i := rfl
      rw [e, List.set_cons_succ]
      exact (List.Perm.swap _ _ _).trans ((h.cons b).trans (List.Perm.swap _ _ _))
theorem st_perm (ys out : List Int) (h r m : Nat) (hr : r < h) (hb : ∀ q, q < m → r + q * h < out.length) (hm : m ≤ ys.length) : (ptG out h r m ++ stG ys out h r m).Perm (ys.take m ++ out) := by
  induction m with
  | zero => exact List.Perm.refl _
  | succ m ih =>
    have h1 := ih (fun q hq => hb q (by omega)) (by omega)
    have h2 := nth_stG_miss ys out h r m (r + m * h) (fun q hq => hb q (by omega)) (fun q hq e => by have := (row_inj hr hr e).2; omega)
    have h3 := set_perm (l := stG ys out h r m) (i := r + m * h) (x := nth ys m) (by rw [stG_len]; exact hb m (by omega))
    rw [h2] at h3
    rw [ptG_succ, stG, take_nth (by omega), List.append_assoc, List.append_assoc]
    refine (h3.append_left (ptG out h r m)).trans ?_
    refine List.perm_middle.trans ?_
    refine (h1.cons (nth ys m)).trans ?_
    exact List.perm_middle.symm
theorem ptG_gsG (xs : List Int) (h : Nat) (hh : 1 ≤ h) (R : Nat) (hR : R < h) : ptG (gsG xs h R) h R (cnGp xs.length h R) = ptG xs h R (cnGp xs.length h R) := by
  apply List.ext_getElem (by rw [ptG_len, ptG_len])
  intro q h1 h2
  rw [ptG_len] at h1
  rw [← nth_eq, ← nth_eq, nth_ptG _ _ _ _ _ h1, nth_ptG _ _ _ _ _ h1, nth_gsG xs h hh R (by omega) R q hR h1, if_neg (by omega)]
theorem gs_perm (xs : List Int) (h : Nat) (hh : 1 ≤ h) : ∀ R, R ≤ h → (gsG xs h R).Perm xs := by
  intro R
  induction R with
  | zero => intro _; exact List.Perm.refl _
  | succ R ih =>
    intro hR
    rw [gsG]
    have h1 := st_perm (srt (ptG xs h R (cnGp xs.length h R))) (gsG xs h R) h R (cnGp xs.length h R) hR (fun q hq => by rw [gsG_len]; exact (cnGp_lt hh).1 hq) (by rw [srt_len, ptG_len]; exact Nat.le_refl _)
    rw [List.take_of_length_le (by rw [srt_len, ptG_len]; exact Nat.le_refl _), ptG_gsG xs h hh R hR] at h1
    have h2 := ((srt_perm (ptG xs h R (cnGp xs.length h R))).append_right (gsG xs h R))
    have h3 := h1.trans h2
    exact ((List.perm_append_left_iff _).1 h3).trans (ih (by omega))

theorem HS_add {xs : List Int} {a b : Nat} (h1 : HS xs a) (h2 : HS xs b) : HS xs (a + b) := by
  intro i hi
  have := h1 i (by omega)
  have := h2 (i + a) (by omega)
  rw [← Nat.add_assoc]; omega
theorem HS_zero (xs : List Int) : HS xs 0 := fun i _ => Int.le_refl _
theorem HS_mul {xs : List Int} {a : Nat} (h : HS xs a) (k : Nat) : HS xs (k * a) := by
  induction k with
  | zero => rw [Nat.zero_mul]; exact HS_zero xs
  | succ k ih => rw [Nat.succ_mul]; exact HS_add ih h
theorem HS_srt {xs : List Int} (h : HS xs 1) : Srt xs := by
  intro i j hij hj
  have := HS_mul h (j - i) i (by omega)
  rwa [show i + (j - i) * 1 = j by omega] at this

/-! ### Bubbles -/
def cxL (y : List Int) (i j : Nat) : List Int := (y.set i (min (nth y i) (nth y j))).set j (max (nth y i) (nth y j))
theorem cxL_len (y : List Int) (i j : Nat) : (cxL y i j).length = y.length := by simp [cxL]
theorem nth_cxL (y : List Int) (i j p : Nat) (hi : i < y.length) (hj : j < y.length) (hij : i ≠ j) : nth (cxL y i j) p = if p = j then max (nth y i) (nth y j) else if p = i then min (nth y i) (nth y j) else nth y p := by
  unfold cxL
  rw [nth_setG _ _ _ _ (by simpa using hj), nth_setG _ _ _ _ hi]
  by_cases e1 : j = p
  · subst e1; rw [if_pos rfl, if_pos rfl]
  · rw [if_neg e1, if_neg (show ¬ p = j from fun e => e1 e.symm)]
    by_cases e2 : i = p
    · subst e2; simp
    · rw [if_neg e2, if_neg (show ¬ p = i from fun e => e2 e.symm)]
def bub (y : List Int) (g : Nat) : Nat → List Int
  | 0 => y
  | i + 1 => cxL (bub y g i) i (i + g)
def bubs (y : List Int) (g m : Nat) : Nat → List Int
  | 0 => y
  | t + 1 => bub (bubs y g m t) g m
theorem bub_len (y : List Int) (g i : Nat) : (bub y g i).length = y.length := by
  induction i with
  | zero => rfl
  | succ i ih => rw [bub, cxL_len, ih]
theorem bubs_len (y : List Int) (g m t : Nat) : (bubs y g m t).length = y.length := by
  induction t with
  | zero => rfl
  | succ t ih => rw [bubs, bub_len, ih]
theorem cls {a b g : Nat} (hab : a < b) (e : a % g = b % g) : a + g ≤ b := by
  have h1 := Nat.sub_mod_eq_zero_of_mod_eq e.symm
  have h2 := Nat.dvd_of_mod_eq_zero h1
  have := Nat.le_of_dvd (by omega) h2
  omega
def cond (y : List Int) (g p : Nat) : Prop := ∀ p', p' < p → p' % g = p % g → nth y p' ≤ nth y p
def Top (y : List Int) (g t : Nat) : Prop := ∀ p, p < y.length → y.length ≤ p + t * g → cond y g p
theorem bub_inv (y : List Int) (g t : Nat) (hg : 1 ≤ g) (h0 : Top y g t) : ∀ i, i + g ≤ y.length →
    Top (bub y g i) g t ∧ (∀ p, p < i + g → p < y.length → y.length ≤ p + (t + 1) * g → cond (bub y g i) g p) ∧ ∀ p, i ≤ p → p < i + g → p < y.length → cond (bub y g i) g p := by
  intro i
  induction i with
  | zero =>
    intro _
    have hc : ∀ p, p < g → cond y g p := fun p hp p' hp' e => by
      have := cls hp' e; omega
    exact ⟨h0, fun p hp _ _ => hc p (by omega), fun p _ hp _ => hc p (by omega)⟩
  | succ i ih =>
    intro hi
    obtain ⟨ha, hb, hc⟩ := ih (by omega)
    obtain ⟨z, hz⟩ : ∃ z, bub y g i = z := ⟨_, rfl⟩
    have hzl : z.length = y.length := by rw [← hz, bub_len]
    rw [bub]
    rw [hz] at ha hb hc ⊢
    have nx := fun p => nth_cxL z i (i + g) p (by omega) (by omega) (by omega)
    have mi : (i + g) % g = i % g := Nat.add_mod_right _ _
    -- where the later of the two is at the top nothing happens
    have still : y.length ≤ i + g + t * g → nth z i ≤ nth z (i + g) := fun h => ha (i + g) (by omega) (by rw [hzl]; exact h) i (by omega) mi.symm
    -- a condition at a place other than the two
    have far : ∀ p, p < y.length → p ≠ i → p ≠ i + g → cond z g p → cond (cxL z i (i + g)) g p := by
      intro p hp n1 n2 hcp p' hp' e
      rw [nx p, if_neg n2, if_neg n1, nx p']
      by_cases e1 : p' = i + g
      · rw [if_pos e1]
        subst e1
        have h1 := hcp (i + g) hp' e
        have h2 := hcp i (by omega) (by rw [← mi]; exact e)
        omega
      · rw [if_neg e1]
        by_cases e2 : p' = i
        · rw [if_pos e2]
          subst e2
          have h2 := hcp p' hp' e
          omega
        · rw [if_neg e2]; exact hcp p' hp' e
    have atI : (nth z i ≤ nth z (i + g)) → cond z g i → cond (cxL z i (i + g)) g i := by
      intro hle hcp p' hp' e
      rw [nx i, if_neg (by omega), if_pos rfl, nx p', if_neg (by omega), if_neg (by omega)]
      have := hcp p' hp' e
      omega
    have atG : cond z g i → cond (cxL z i (i + g)) g (i + g) := by
      intro hcp p' hp' e
      rw [nx (i + g), if_pos rfl, nx p', if_neg (by omega)]
      by_cases e2 : p' = i
      · rw [if_pos e2]; omega
      · rw [if_neg e2]
        rcases Nat.lt_trichotomy p' i with h1 | h1 | h1
        · have := hcp p' h1 (by rw [e, mi]); omega
        · exact absurd h1 e2
        · have := cls h1 (by rw [e, mi]); omega
    have ci := hc i (Nat.le_refl _) (by omega) (by omega)
    refine ⟨?_, ?_, ?_⟩
    · intro p hp hpt
      rw [cxL_len, hzl] at hp hpt
      by_cases e1 : p = i
      · subst e1
        exact atI (still (by omega)) ci
      · by_cases e2 : p = i + g
        · subst e2; exact atG ci
        · exact far p hp e1 e2 (ha p (by omega) (by omega))
    · intro p hp hpl hpt
      by_cases e1 : p = i
      · subst e1
        rw [Nat.succ_mul] at hpt
        exact atI (still (by omega)) ci
      · by_cases e2 : p = i + g
        · subst e2; exact atG ci
        · exact far p hpl e1 e2 (hb p (by omega) hpl hpt)
    · intro p h1 h2 hpl
      by_cases e2 : p = i + g
      · subst e2; exact atG ci
      · exact far p hpl (by omega) e2 (hc p (by omega) (by omega) hpl)
theorem bubs_top (y : List Int) (g m : Nat) (hg : 1 ≤ g) (hm : m + g = y.length) : ∀ t, Top (bubs y g m t) g t := by
  intro t
  induction t with
  | zero => intro p hp h; omega
  | succ t ih =>
    obtain ⟨_, h2, _⟩ := bub_inv (bubs y g m t) g t hg ih m (by rw [bubs_len]; omega)
    intro p hp hpt
    rw [bubs, bub_len, bubs_len] at hp hpt
    exact h2 p (by omega) (by rw [bubs_len]; exact hp) (by rw [bubs_len]; exact hpt)
theorem bubs_HS (y : List Int) (g m t : Nat) (hg : 1 ≤ g) (hm : m + g = y.length) (ht : y.length ≤ t * g) : HS (bubs y g m t) g := by
  intro i hi
  have h := bubs_top y g m hg hm t (i + g) hi (by rw [bubs_len]; omega)
  exact h i (by omega) (Nat.add_mod_right _ _).symm

theorem clt_swap {f f' : Nat → Int} {x : Int} {q m : Nat} (h1 : f' q = f (q + 1)) (h2 : f' (q + 1) = f q) (h3 : ∀ k, k ≠ q → k ≠ q + 1 → f' k = f k) (hm : q + 1 < m) : clt f' x m = clt f x m := by
  induction m with
  | zero => omega
  | succ m ih =>
    by_cases e : m = q + 1
    · subst e
      simp only [clt]
      rw [h1, h2, clt_congr (f := f') (g := f) (m := q) (fun k hk => h3 k (by omega) (by omega))]
      omega
    · simp only [clt]
      rw [ih (by omega), h3 m (by omega) (by omega)]
theorem clt_cx (z : List Int) (g i r : Nat) (x : Int) (hg : 1 ≤ g) (hr : r < g) (hi : i + g < z.length) :
    clt (fun q => nth (cxL z i (i + g)) (r + q * g)) x (cnGp z.length g r) = clt (fun q => nth z (r + q * g)) x (cnGp z.length g r) := by
  have nx := fun p => nth_cxL z i (i + g) p (by omega) (by omega) (by omega)
  by_cases hle : nth z i ≤ nth z (i + g)
  · refine clt_congr (fun q _ => ?_)
    rw [nx]
    by_cases e1 : r + q * g = i + g
    · rw [if_pos e1, e1]; omega
    · rw [if_neg e1]
      by_cases e2 : r + q * g = i
      · rw [if_pos e2, e2]; omega
      · rw [if_neg e2]
  · by_cases hri : i % g = r
    · have e1 := row_of i g
      rw [hri] at e1
      have e2 : i + g = r + (i / g + 1) * g := by rw [Nat.succ_mul]; omega
      refine clt_swap (q := i / g) ?_ ?_ ?_ ((cnGp_lt hg).2 (by omega))
      · rw [← e1, ← e2, nx, if_neg (by omega), if_pos rfl]; omega
      · rw [← e1, ← e2, nx, if_pos rfl]; omega
      · intro k k1 k2
        rw [nx, if_neg (fun e => k2 (row_inj hr hr (by rw [e, e2])).2), if_neg (fun e => k1 (row_inj hr hr (by rw [e, ← e1])).2)]
    · refine clt_congr (fun q _ => ?_)
      have m1 := row_mod (q := q) hr
      rw [nx, if_neg (fun e => hri (by rw [e, Nat.add_mod_right] at m1; exact m1)), if_neg (fun e => hri (by rw [e] at m1; exact m1))]
theorem clt_bub (y : List Int) (g r : Nat) (x : Int) (hg : 1 ≤ g) (hr : r < g) (i : Nat) (hi : i + g ≤ y.length) :
    clt (fun q => nth (bub y g i) (r + q * g)) x (cnGp y.length g r) = clt (fun q => nth y (r + q * g)) x (cnGp y.length g r) := by
  induction i with
  | zero => rfl
  | succ i ih =>
    have h := clt_cx (bub y g i) g i r x hg hr (by rw [bub_len]; omega)
    rw [bub_len] at h
    rw [bub, h, ih (by omega)]
theorem clt_bubs (y : List Int) (g m r : Nat) (x : Int) (hg : 1 ≤ g) (hr : r < g) (hm : m + g = y.length) (t : Nat) :
    clt (fun q => nth (bubs y g m t) (r + q * g)) x (cnGp y.length g r) = clt (fun q => nth y (r + q * g)) x (cnGp y.length g r) := by
  induction t with
  | zero => rfl
  | succ t ih =>
    have h := clt_bub (bubs y g m t) g r x hg hr m (by rw [bubs_len]; omega)
    rw [bubs_len] at h
    rw [bubs, h, ih]
theorem ptG_srt {z : List Int} {g r n : Nat} (h : HS z g) (hl : z.length = n) (hg : 1 ≤ g) : Srt (ptG z g r (cnGp n g r)) := by
  intro i j hij hj
  rw [ptG_len] at hj
  rw [nth_ptG _ _ _ _ _ (by omega), nth_ptG _ _ _ _ _ hj]
  have h1 := (cnGp_lt hg).1 hj
  have h2 := HS_mul h (j - i) (r + i * g) (by rw [Nat.add_assoc, ← Nat.add_mul, show i + (j - i) = j by omega, hl]; exact h1)
  rwa [Nat.add_assoc, ← Nat.add_mul, show i + (j - i) = j by omega] at h2
/-- Enough bubbles sort by the gap. -/
theorem bubs_gs (y : List Int) (g m t : Nat) (hg : 1 ≤ g) (hm : m + g = y.length) (ht : y.length ≤ t * g) : bubs y g m t = gsG y g g := by
  apply List.ext_getElem (by rw [bubs_len, gsG_len])
  intro p h1 h2
  rw [bubs_len] at h1
  have e := row_of p g
  have hr : p % g < g := Nat.mod_lt _ (by omega)
  have hq : p / g < cnGp y.length g (p % g) := (cnGp_lt hg).2 (by omega)
  have hs : ptG (bubs y g m t) g (p % g) (cnGp y.length g (p % g)) = srt (ptG y g (p % g) (cnGp y.length g (p % g))) := by
    refine srt_same (ptG_srt (bubs_HS y g m t hg hm ht) (bubs_len y g m t) hg) (srt_srt _) (by rw [ptG_len, srt_len, ptG_len]) (fun x => ?_)
    rw [(srt_perm _).countP_eq, clt_ptG, clt_ptG, clt_bubs y g m _ x hg hr hm t]
  have k1 := nth_ptG (bubs y g m t) g (p % g) _ _ hq
  rw [hs, ← gs_at y g hg _ _ hr hq, ← e] at k1
  rw [← nth_eq, ← nth_eq]; exact k1.symm

end Go.Proofs.Ytpicnechmdbkfaa

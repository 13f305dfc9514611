/- The cheapest merge, plain: the list of runs, the depths and the cost after some merges. -/
import Derived.Test.YtaffokicnabkiaaRepQ
namespace Go.Proofs.Ytaffokicnabkiaa
open Go.RowKit
set_option linter.unusedVariables false
set_option linter.unusedSimpArgs false

abbrev Rn := Int × List Int
def rAt (l : List Rn) (j : Nat) : Rn := l.getD j (0, [])
def vals (l : List Rn) : List Int := l.map (·.1)
theorem vals_len (l : List Rn) : (vals l).length = l.length := by simp [vals]
theorem vals_nth (l : List Rn) (j : Nat) : nth (vals l) j = (rAt l j).1 := by
  unfold vals rAt nth
  rw [List.getD, List.getD, List.getElem?_map]
  cases l[j]? <;> rfl
/-- The first of the shortest. -/
def lst (l : List Rn) : Nat := lq (vals l) l.length
theorem lst_lt {l : List Rn} (h : 0 < l.length) : lst l < l.length := by
  have h1 := lq_lt (vals l) (by rw [vals_len]; exact h) l.length (by rw [vals_len]; exact Nat.le_refl _)
  rwa [vals_len] at h1
theorem lst_le {l : List Rn} {j : Nat} (h : j < l.length) : (rAt l (lst l)).1 ≤ (rAt l j).1 := by
  have h1 := lq_le (vals l) l.length j h
  rwa [vals_nth, vals_nth] at h1
def rmL {α : Type} (l : List α) (p : Nat) : List α := l.take p ++ l.drop (p + 1)
theorem rmL_len {α : Type} {l : List α} {p : Nat} (h : p < l.length) : (rmL l p).length = l.length - 1 := by
  unfold rmL; rw [List.length_append, List.length_take, List.length_drop]; omega
theorem rmL_map {α β : Type} (f : α → β) (l : List α) (p : Nat) : (rmL l p).map f = rmL (l.map f) p := by
  unfold rmL; rw [List.map_append, List.map_take, List.map_drop]
theorem rmL_int (l : List Int) (p : Nat) : rmL l p = rmAt l p := rfl
theorem rAt_some {l : List Rn} {j : Nat} (h : j < l.length) : l[j]? = some (rAt l j) := by
  unfold rAt; rw [List.getD, List.getElem?_eq_getElem h]; rfl
theorem rmL_perm {l : List Rn} {p : Nat} (h : p < l.length) : l.Perm (rAt l p :: rmL l p) := by
  have h1 : l = l.take p ++ rAt l p :: l.drop (p + 1) := by
    have e : rAt l p = l[p] := by unfold rAt; rw [List.getD, List.getElem?_eq_getElem h]; rfl
    rw [e, List.getElem_cons_drop, List.take_append_drop]
  have h2 : (l.take p ++ rAt l p :: l.drop (p + 1)).Perm (rAt l p :: rmL l p) := List.perm_middle
  rwa [← h1] at h2
def bumpN (d ms : List Int) : Nat → List Int
  | 0 => d
  | j + 1 => (bumpN d ms j).set (nth ms j).toNat (nth (bumpN d ms j) (nth ms j).toNat + 1)
theorem bumpN_len (d ms : List Int) : ∀ j, (bumpN d ms j).length = d.length
  | 0 => rfl
  | j + 1 => by rw [bumpN, List.length_set, bumpN_len d ms j]
theorem bumpN_range {d ms : List Int} {B : Int} (h : ∀ v ∈ d, 0 ≤ v ∧ v ≤ B) (hB : 0 ≤ B) : ∀ j, ∀ v ∈ bumpN d ms j, 0 ≤ v ∧ v ≤ B + j
  | 0, v, hv => by have := h v hv; omega
  | j + 1, v, hv => by
    have ih := bumpN_range (ms := ms) h hB j
    rw [bumpN] at hv
    rcases List.mem_or_eq_of_mem_set hv with h1 | h1
    · have := ih v h1; omega
    · rcases Nat.lt_or_ge (nth ms j).toNat (bumpN d ms j).length with h2 | h2
      · have := ih _ (by rw [nth_eq h2]; exact List.getElem_mem h2 : nth (bumpN d ms j) (nth ms j).toNat ∈ bumpN d ms j); omega
      · have : ∀ (l : List Int) (q : Nat), l.length ≤ q → nth l q = 0 := fun l q h => by unfold nth; rw [List.getD, List.getElem?_eq_none h]; rfl
        have := this _ _ h2
        omega
/-- The run taken second; what both are; what stays. -/
def one1 (l : List Rn) : Rn := rAt l (lst l)
def two1 (l : List Rn) : Rn := rAt (rmL l (lst l)) (lst (rmL l (lst l)))
def both (l : List Rn) : Rn := ((one1 l).1 + (two1 l).1, (one1 l).2 ++ (two1 l).2)
def rest2 (l : List Rn) : List Rn := rmL (rmL l (lst l)) (lst (rmL l (lst l)))
theorem two_perm {l : List Rn} (h : 2 ≤ l.length) : l.Perm (one1 l :: two1 l :: rest2 l) := by
  have h1 := rmL_perm (lst_lt (l := l) (by omega))
  have h2 := rmL_len (lst_lt (l := l) (by omega))
  have h3 := rmL_perm (lst_lt (l := rmL l (lst l)) (by omega))
  exact h1.trans (h3.cons _)
structure HS where
  l : List Rn
  d : List Int
  c : Int
def hstep (s : HS) : HS := ⟨rest2 s.l ++ [both s.l], bumpN s.d (both s.l).2 (both s.l).2.length, s.c + (both s.l).1⟩
def leafs (xs : List Int) (k : Nat) : List Rn := (List.range k).map fun i => (nth xs i, [(i : Int)])
theorem leafs_len (xs : List Int) (k : Nat) : (leafs xs k).length = k := by simp [leafs]
theorem leafs_succ (xs : List Int) (k : Nat) : leafs xs (k + 1) = leafs xs k ++ [(nth xs k, [(k : Int)])] := by
  unfold leafs; rw [List.range_succ, List.map_append]; rfl
def hst (xs : List Int) : Nat → HS
  | 0 => ⟨leafs xs xs.length, List.replicate xs.length 0, 0⟩
  | k + 1 => hstep (hst xs k)

def isum : List Int → Int
  | [] => 0
  | x :: xs => x + isum xs
theorem isum_app : ∀ a b : List Int, isum (a ++ b) = isum a + isum b
  | [], b => by simp [isum]
  | x :: a, b => by rw [List.cons_append, isum, isum, isum_app a b]; omega
theorem isum_perm {a b : List Int} (h : a.Perm b) : isum a = isum b := by
  induction h with
  | nil => rfl
  | cons x _ ih => rw [isum, isum, ih]
  | swap x y l => rw [isum, isum, isum, isum]; omega
  | trans _ _ h1 h2 => rw [h1, h2]
theorem isum_nonneg : ∀ {l : List Int}, (∀ x ∈ l, 0 ≤ x) → 0 ≤ isum l
  | [], _ => Int.le_refl _
  | x :: l, h => by
    have h1 := h x (List.mem_cons_self ..)
    have h2 := isum_nonneg (l := l) (fun y hy => h y (List.mem_cons_of_mem _ hy))
    rw [isum]; omega
theorem isum_mem : ∀ {l : List Int} {x : Int}, (∀ x ∈ l, 0 ≤ x) → x ∈ l → x ≤ isum l
  | [], x, _, h => by cases h
  | y :: l, x, h, hx => by
    have h0 := h y (List.mem_cons_self ..)
    have h3 := isum_nonneg (l := l) (fun z hz => h z (List.mem_cons_of_mem _ hz))
    rw [isum]
    rcases List.mem_cons.1 hx with e | h1
    · subst e; omega
    · have h2 := isum_mem (l := l) (fun z hz => h z (List.mem_cons_of_mem _ hz)) h1
      omega
theorem isum_le : ∀ {l : List Int} {B : Int}, (∀ x ∈ l, x ≤ B) → isum l ≤ B * l.length
  | [], B, _ => by simp [isum]
  | y :: l, B, h => by
    have h1 := h y (List.mem_cons_self ..)
    have h2 := isum_le (l := l) (B := B) (fun z hz => h z (List.mem_cons_of_mem _ hz))
    have e : B * ((y :: l).length : Int) = B * (l.length : Int) + B := by rw [List.length_cons, Int.natCast_add, Int.mul_add]; simp
    rw [isum, e]; omega
def mlens (l : List Rn) : List Int := l.map fun r => (r.2.length : Int)
/-- What holds after k merges. -/
structure HI (n : Nat) (S : Int) (k : Nat) (s : HS) : Prop where
  len : s.l.length + k = n
  pos : ∀ r ∈ s.l, 1 ≤ r.1
  sum : isum (vals s.l) = S
  mem : ∀ r ∈ s.l, ∀ i ∈ r.2, 0 ≤ i ∧ i < (n : Int)
  cnt : isum (mlens s.l) = n
  dl : s.d.length = n
  db : ∀ v ∈ s.d, 0 ≤ v ∧ v ≤ (n : Int) * k
  c0 : 0 ≤ s.c
  c1 : s.c ≤ S * k
theorem HI.low {n : Nat} {S : Int} {k : Nat} {s : HS} (h : HI n S k s) {r : Rn} (hr : r ∈ s.l) : r.1 ≤ S := by
  rw [← h.sum]
  refine isum_mem (fun x hx => ?_) (List.mem_map.2 ⟨r, hr, rfl⟩)
  obtain ⟨r', h1, rfl⟩ := List.mem_map.1 hx
  have := h.pos r' h1; omega
theorem HI.short {n : Nat} {S : Int} {k : Nat} {s : HS} (h : HI n S k s) {r : Rn} (hr : r ∈ s.l) : r.2.length ≤ n := by
  have h1 := isum_mem (l := mlens s.l) (x := (r.2.length : Int)) (fun x hx => by
    obtain ⟨r', h1, rfl⟩ := List.mem_map.1 hx; omega) (List.mem_map.2 ⟨r, hr, rfl⟩)
  rw [h.cnt] at h1; omega
theorem HI.step {n : Nat} {S : Int} {k : Nat} {s : HS} (h : HI n S k s) (h2 : 2 ≤ s.l.length) : HI n S (k + 1) (hstep s) := by
  have hp := two_perm h2
  have ha : one1 s.l ∈ s.l := hp.mem_iff.2 (List.mem_cons_self ..)
  have hb : two1 s.l ∈ s.l := hp.mem_iff.2 (List.mem_cons_of_mem _ (List.mem_cons_self ..))
  have hr : ∀ r ∈ rest2 s.l, r ∈ s.l := fun r hr => hp.mem_iff.2 (List.mem_cons_of_mem _ (List.mem_cons_of_mem _ hr))
  have hl := hp.length_eq
  have hs := isum_perm (hp.map (·.1))
  have hc := isum_perm (hp.map fun r => (r.2.length : Int))
  simp only [List.length_cons] at hl
  simp only [List.map_cons, isum] at hs hc
  have e1 : isum (s.l.map (·.1)) = S := h.sum
  have e2 : isum (s.l.map fun r => (r.2.length : Int)) = n := h.cnt
  rw [e1] at hs
  rw [e2] at hc
  have hpa := h.pos _ ha
  have hpb := h.pos _ hb
  have hrn : 0 ≤ isum ((rest2 s.l).map (·.1)) := isum_nonneg fun x hx => by
    obtain ⟨r, h1, rfl⟩ := List.mem_map.1 hx
    have := h.pos r (hr r h1); omega
  have hrl : 0 ≤ isum ((rest2 s.l).map fun r => (r.2.length : Int)) := isum_nonneg fun x hx => by
    obtain ⟨r, h1, rfl⟩ := List.mem_map.1 hx; omega
  have hll := h.len
  have hbl : (both s.l).2.length ≤ n := by unfold both; rw [List.length_append]; omega
  have ek : (n : Int) * ((k + 1 : Nat) : Int) = (n : Int) * (k : Int) + n := by rw [Int.natCast_add, Int.mul_add]; simp
  have ek2 : S * ((k + 1 : Nat) : Int) = S * (k : Int) + S := by rw [Int.natCast_add, Int.mul_add]; simp
  have hnk : (0 : Int) ≤ (n : Int) * (k : Int) := by rw [← Int.natCast_mul]; omega
  refine ⟨?_, ?_, ?_, ?_, ?_, ?_, ?_, ?_, ?_⟩
  · simp only [hstep, List.length_append, List.length_singleton]; omega
  · intro r hr'
    simp only [hstep] at hr'
    rcases List.mem_append.1 hr' with h1 | h1
    · exact h.pos r (hr r h1)
    · simp at h1; subst h1
      simp only [both]; omega
  · simp only [hstep, vals, List.map_append, isum_app, List.map_cons, List.map_nil, isum, both]; omega
  · intro r hr' i hi
    simp only [hstep] at hr'
    rcases List.mem_append.1 hr' with h1 | h1
    · exact h.mem r (hr r h1) i hi
    · simp at h1; subst h1
      simp only [both] at hi
      rcases List.mem_append.1 hi with h3 | h3
      · exact h.mem _ ha i h3
      · exact h.mem _ hb i h3
  · simp only [hstep, mlens, List.map_append, isum_app, List.map_cons, List.map_nil, isum, both, List.length_append]; omega
  · simp only [hstep]; rw [bumpN_len]; exact h.dl
  · intro v hv
    simp only [hstep] at hv
    have h1 := bumpN_range (ms := (both s.l).2) h.db hnk (both s.l).2.length v hv
    rw [ek]; omega
  · simp only [hstep, both]; have := h.c0; omega
  · simp only [hstep, both]; have := h.c1; rw [ek2]; omega
theorem vals_leafs (xs : List Int) : vals (leafs xs xs.length) = xs := by
  unfold vals leafs
  rw [List.map_map]
  apply List.ext_getElem (by simp)
  intro i h1 h2
  simp [nth, List.getD, h2]
theorem HI.start {xs : List Int} (h : ∀ x ∈ xs, 1 ≤ x ∧ x ≤ 1000) : HI xs.length (isum xs) 0 (hst xs 0) := by
  refine ⟨by simp [hst, leafs_len], ?_, ?_, ?_, ?_, ?_, ?_, ?_, ?_⟩
  · intro r hr
    simp only [hst, leafs] at hr
    obtain ⟨i, hi, rfl⟩ := List.mem_map.1 hr
    have hi' : i < xs.length := by simpa using hi
    exact (h (nth xs i) (by rw [nth_eq hi']; exact List.getElem_mem hi')).1
  · simp only [hst]; rw [vals_leafs]
  · intro r hr i hi
    simp only [hst, leafs] at hr
    obtain ⟨j, hj, rfl⟩ := List.mem_map.1 hr
    simp at hi hj; omega
  · simp only [hst, mlens, leafs, List.map_map]
    generalize xs.length = m
    induction m with
    | zero => rfl
    | succ m ih => rw [List.range_succ, List.map_append, isum_app, ih]; simp [isum]
  · simp [hst]
  · intro v hv; simp only [hst] at hv; have := List.eq_of_mem_replicate hv; simp [this]
  · simp [hst]
  · simp [hst]
theorem HI.all {xs : List Int} (h : ∀ x ∈ xs, 1 ≤ x ∧ x ≤ 1000) : ∀ k, k + 1 ≤ xs.length ∨ k = 0 → HI xs.length (isum xs) k (hst xs k)
  | 0, _ => HI.start h
  | k + 1, hk => by
    have ih := HI.all h k (by omega)
    exact ih.step (by have := ih.len; omega)
theorem isum_ok {xs : List Int} (hl : xs.length ≤ 8) (h : ∀ x ∈ xs, 1 ≤ x ∧ x ≤ 1000) : 0 ≤ isum xs ∧ isum xs ≤ 8000 := by
  have h1 := isum_nonneg (l := xs) (fun x hx => by have := h x hx; omega)
  have h2 := isum_le (l := xs) (B := 1000) (fun x hx => (h x hx).2)
  omega
/-- What the cheapest merge comes to. -/
def hufC (xs : List Int) : Int := (hst xs (xs.length - 1)).c
def hufD (xs : List Int) : List Int := (hst xs (xs.length - 1)).d

/-! the sorted list -/
theorem srt_vals {l : List Rn} (h : 2 ≤ l.length) : ∃ t, srt (vals l) = (one1 l).1 :: (two1 l).1 :: t ∧ t.Perm (vals (rest2 l)) := by
  have hl1 := rmL_len (lst_lt (l := l) (by omega))
  have p1 := rmL_perm (lst_lt (l := l) (by omega))
  have p2 := rmL_perm (lst_lt (l := rmL l (lst l)) (by omega))
  refine ⟨srt (vals (rest2 l)), ?_, srt_perm _⟩
  have hs : Srt ((one1 l).1 :: (two1 l).1 :: srt (vals (rest2 l))) := by
    have hall : ∀ r ∈ rest2 l, (two1 l).1 ≤ r.1 := fun r hr => by
      have hm : r ∈ rmL l (lst l) := p2.mem_iff.2 (List.mem_cons_of_mem _ hr)
      obtain ⟨j, hj, e⟩ := List.mem_iff_getElem.1 hm
      have h3 := lst_le hj
      have e2 : rAt (rmL l (lst l)) j = r := by unfold rAt; rw [List.getD, List.getElem?_eq_getElem hj, e]; rfl
      rw [e2] at h3
      exact h3
    have hall1 : ∀ r ∈ rmL l (lst l), (one1 l).1 ≤ r.1 := fun r hr => by
      have hm : r ∈ l := p1.mem_iff.2 (List.mem_cons_of_mem _ hr)
      obtain ⟨j, hj, e⟩ := List.mem_iff_getElem.1 hm
      have h3 := lst_le hj
      have e2 : rAt l j = r := by unfold rAt; rw [List.getD, List.getElem?_eq_getElem hj, e]; rfl
      rw [e2] at h3
      exact h3
    have h12 : (one1 l).1 ≤ (two1 l).1 := hall1 _ (p2.mem_iff.2 (List.mem_cons_self ..))
    have h1r : ∀ y ∈ srt (vals (rest2 l)), (two1 l).1 ≤ y := fun y hy => by
      have hy' := (srt_perm (vals (rest2 l))).mem_iff.1 hy
      obtain ⟨r, hr, rfl⟩ := List.mem_map.1 hy'
      exact hall r hr
    have hS := srt_srt (vals (rest2 l))
    intro i j hij hj
    rcases i with _ | _ | i
    · rcases j with _ | _ | j
      · omega
      · exact h12
      · have hj' : j < (srt (vals (rest2 l))).length := by simp at hj; omega
        have := h1r _ (List.getElem_mem hj')
        show (one1 l).1 ≤ nth (srt (vals (rest2 l))) j
        rw [nth_eq hj']; omega
    · rcases j with _ | _ | j
      · omega
      · omega
      · have hj' : j < (srt (vals (rest2 l))).length := by simp at hj; omega
        have := h1r _ (List.getElem_mem hj')
        show (two1 l).1 ≤ nth (srt (vals (rest2 l))) j
        rw [nth_eq hj']; omega
    · rcases j with _ | _ | j
      · omega
      · omega
      · exact hS i j (by omega) (by simp at hj; omega)
  refine Srt.eq (srt_srt _) hs ?_
  have hq : (vals l).Perm ((one1 l).1 :: (two1 l).1 :: vals (rest2 l)) := (two_perm h).map (fun r : Rn => r.1)
  exact (srt_perm _).trans (hq.trans (((srt_perm (vals (rest2 l))).symm.cons _).cons _))
/-- The reference's list ahead of a merge, and behind it. -/
theorem srt_next {s : HS} (h : 2 ≤ s.l.length) : nth (srt (vals s.l)) 0 + nth (srt (vals s.l)) 1 = (both s.l).1 ∧ srt ((srt (vals s.l)).drop 2 ++ [(both s.l).1]) = srt (vals (hstep s).l) := by
  obtain ⟨t, ht, hp⟩ := srt_vals h
  rw [ht]
  refine ⟨rfl, Srt.eq (srt_srt _) (srt_srt _) ?_⟩
  refine (srt_perm _).trans (List.Perm.trans ?_ (srt_perm _).symm)
  simp only [hstep, vals, List.map_append, List.map_cons, List.map_nil, List.drop_succ_cons, List.drop_zero]
  exact hp.append_right _
end Go.Proofs.Ytaffokicnabkiaa

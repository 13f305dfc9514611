/- Merging the two shortest runs is never dearer than merging neighbors; depths pay for it (plain). -/
import Derived.Test.YtaffokicnabkiaaHufL
import Derived.Test.YtaffokicnabkiaaRun2
namespace Go.Proofs.Ytaffokicnabkiaa
open Go.RowKit
set_option linter.unusedVariables false
set_option linter.unusedSimpArgs false

/-- The depths of the leaves of a tree, in any order. -/
inductive Dep : List Nat → Prop
  | one : Dep [0]
  | split {d : Nat} {ds : List Nat} : Dep (d :: ds) → Dep ((d + 1) :: (d + 1) :: ds)
  | perm {l l' : List Nat} : l.Perm l' → Dep l → Dep l'
theorem Dep.deep {l : List Nat} (h : Dep l) : ∀ D, D ∈ l → (∀ d ∈ l, d ≤ D) → 2 ≤ l.length → ∃ E rest, D = E + 1 ∧ l.Perm (D :: D :: rest) ∧ Dep (E :: rest) := by
  induction h with
  | one => intro D _ _ h; simp at h
  | @split d ds h ih =>
    intro D hD hm hl
    by_cases e : D = d + 1
    · subst e; exact ⟨d, ds, rfl, List.Perm.refl _, h⟩
    · have hD' : D ∈ ds := by
        rcases List.mem_cons.1 hD with h1 | h1
        · exact absurd h1 e
        · rcases List.mem_cons.1 h1 with h2 | h2
          · exact absurd h2 e
          · exact h2
      have hd1 := hm (d + 1) (List.mem_cons_self ..)
      have hl' : 2 ≤ (d :: ds).length := by
        have := List.length_pos_of_mem hD'
        rw [List.length_cons]; omega
      obtain ⟨E, rest, hE, hp, hdep⟩ := ih D (List.mem_cons_of_mem _ hD') (fun x hx => by
        rcases List.mem_cons.1 hx with h1 | h1
        · omega
        · exact hm x (List.mem_cons_of_mem _ (List.mem_cons_of_mem _ h1))) hl'
      have hdr : d ∈ rest := by
        have h1 : d ∈ D :: D :: rest := hp.mem_iff.1 (List.mem_cons_self ..)
        rcases List.mem_cons.1 h1 with h2 | h2
        · omega
        · rcases List.mem_cons.1 h2 with h3 | h3
          · omega
          · exact h3
      have hr := List.perm_cons_erase hdr
      have hds : ds.Perm (D :: D :: rest.erase d) := by
        have h1 : (d :: ds).Perm (d :: D :: D :: rest.erase d) := by
          refine hp.trans ((((hr.cons D).cons D)).trans ?_)
          exact ((List.Perm.swap d D _).cons D).trans (List.Perm.swap d D _)
        exact h1.cons_inv
      refine ⟨E, (d + 1) :: (d + 1) :: rest.erase d, hE, ?_, ?_⟩
      · have h1 := (hds.cons (d + 1)).cons (d + 1)
        refine h1.trans ?_
        have h2 : ((d + 1) :: (d + 1) :: D :: D :: rest.erase d).Perm (D :: (d + 1) :: (d + 1) :: D :: rest.erase d) :=
          ((List.Perm.swap D (d + 1) _).cons _).trans (List.Perm.swap D (d + 1) _)
        have h3 : ((d + 1) :: (d + 1) :: D :: rest.erase d).Perm (D :: (d + 1) :: (d + 1) :: rest.erase d) :=
          ((List.Perm.swap D (d + 1) _).cons _).trans (List.Perm.swap D (d + 1) _)
        exact h2.trans (h3.cons D)
      · have h1 : Dep (d :: E :: rest.erase d) := Dep.perm ((hr.cons E).trans (List.Perm.swap d E _)) hdep
        have h2 := Dep.split h1
        refine Dep.perm ?_ h2
        exact ((List.Perm.swap E (d + 1) _).cons _).trans (List.Perm.swap E (d + 1) _)
  | perm p _ ih =>
    intro D hD hm hl
    obtain ⟨E, rest, hE, hp, hdep⟩ := ih D (p.mem_iff.2 hD) (fun d hd => hm d (p.mem_iff.1 hd)) (by rw [p.length_eq]; exact hl)
    exact ⟨E, rest, hE, p.symm.trans hp, hdep⟩
theorem Dep.graft {ds : List Nat} (h : Dep ds) : ∀ c rest, Dep (c :: rest) → Dep (ds.map (· + c) ++ rest) := by
  induction h with
  | one => intro c rest h; simpa using h
  | @split d ds h ih =>
    intro c rest hc
    have h1 := ih c rest hc
    rw [List.map_cons, List.cons_append] at h1
    have h2 := Dep.split h1
    rw [List.map_cons, List.map_cons, show d + 1 + c = d + c + 1 by omega]
    exact h2
  | perm p _ ih =>
    intro c rest hc
    exact Dep.perm ((p.map _).append_right _) (ih c rest hc)
theorem Dep.join {a b : List Nat} (ha : Dep a) (hb : Dep b) : Dep (a.map (· + 1) ++ b.map (· + 1)) := by
  have h1 : Dep [0 + 1, 0 + 1] := Dep.split Dep.one
  have h2 := ha.graft 1 [1] h1
  have h3 : Dep (1 :: a.map (· + 1)) := Dep.perm List.perm_append_comm h2
  have h4 := hb.graft 1 _ h3
  exact Dep.perm List.perm_append_comm h4

/-- Weights times depths. -/
def wc (P : List (Int × Nat)) : Int := isum (P.map fun p => p.1 * (p.2 : Int))
theorem wc_perm {P Q : List (Int × Nat)} (h : P.Perm Q) : wc P = wc Q := isum_perm (h.map _)
theorem wc_cons (p : Int × Nat) (P : List (Int × Nat)) : wc (p :: P) = p.1 * (p.2 : Int) + wc P := rfl
theorem pairs_of {P : List (Int × Nat)} {w : Int} {t : List Int} (hp : (P.map (·.1)).Perm (w :: t)) : ∃ d Q, P.Perm ((w, d) :: Q) ∧ (Q.map (·.1)).Perm t := by
  have hm : w ∈ P.map (·.1) := hp.mem_iff.2 (List.mem_cons_self ..)
  obtain ⟨⟨w', d⟩, hq, rfl⟩ := List.mem_map.1 hm
  have h1 := List.perm_cons_erase hq
  refine ⟨d, P.erase (w', d), h1, ?_⟩
  have h2 := (h1.map (·.1)).symm.trans hp
  exact h2.cons_inv
theorem pairs_at {P : List (Int × Nat)} {D : Nat} (h : D ∈ P.map (·.2)) : ∃ u Q, P.Perm ((u, D) :: Q) := by
  obtain ⟨⟨u, d⟩, hq, rfl⟩ := List.mem_map.1 h
  exact ⟨u, P.erase (u, d), List.perm_cons_erase hq⟩
theorem swapW {P : List (Int × Nat)} {w : Int} {t : List Int} {D : Nat} (hp : (P.map (·.1)).Perm (w :: t)) (hw : ∀ x ∈ t, w ≤ x) (hD : D ∈ P.map (·.2)) (hm : ∀ d ∈ P.map (·.2), d ≤ D) :
    ∃ Q : List (Int × Nat), (Q.map (·.1)).Perm t ∧ (D :: Q.map (·.2)).Perm (P.map (·.2)) ∧ w * (D : Int) + wc Q ≤ wc P := by
  obtain ⟨d, Q, h1, h2⟩ := pairs_of hp
  have e1 := wc_perm h1
  rw [wc_cons] at e1
  have e2 := h1.map (·.2)
  simp only [List.map_cons] at e2
  by_cases e : d = D
  · subst e
    exact ⟨Q, h2, e2.symm, by rw [e1]; exact Int.le_refl _⟩
  · have hDQ : D ∈ Q.map (·.2) := by
      rcases List.mem_cons.1 (e2.mem_iff.1 hD) with h3 | h3
      · exact absurd h3.symm e
      · exact h3
    obtain ⟨u, R, h3⟩ := pairs_at hDQ
    have hu : w ≤ u := hw u (h2.mem_iff.1 (by rw [List.mem_map]; exact ⟨(u, D), h3.mem_iff.2 (List.mem_cons_self ..), rfl⟩))
    have hd : d ≤ D := hm d (e2.mem_iff.2 (List.mem_cons_self ..))
    have e3 := wc_perm h3
    rw [wc_cons] at e3
    refine ⟨(u, d) :: R, ?_, ?_, ?_⟩
    · exact (h3.map (·.1)).symm.trans h2
    · have h4 := (h3.map (·.2))
      simp only [List.map_cons] at h4 ⊢
      exact (List.Perm.swap d D _).trans (((h4.symm).cons d).trans e2.symm)
    · rw [wc_cons, e1, e3]
      have h5 := Int.mul_nonneg (show 0 ≤ u - w by omega) (show 0 ≤ (D : Int) - (d : Int) by omega)
      rw [Int.sub_mul, Int.mul_sub, Int.mul_sub] at h5
      simp only
      omega
theorem max_of : ∀ (l : List Nat), 0 < l.length → ∃ D, D ∈ l ∧ ∀ d ∈ l, d ≤ D
  | [], h => by simp at h
  | [x], _ => ⟨x, by simp, by simp⟩
  | x :: y :: l, _ => by
    obtain ⟨D, h1, h2⟩ := max_of (y :: l) (by simp)
    by_cases h : D ≤ x
    · refine ⟨x, List.mem_cons_self .., fun d hd => ?_⟩
      rcases List.mem_cons.1 hd with e | h3
      · omega
      · have := h2 d h3; omega
    · refine ⟨D, List.mem_cons_of_mem _ h1, fun d hd => ?_⟩
      rcases List.mem_cons.1 hd with e | h3
      · omega
      · exact h2 d h3
/-- The cost out of a sorted list. -/
def hc : Nat → List Int → Int
  | 0, _ => 0
  | f + 1, s => if s.length < 2 then 0 else (nth s 0 + nth s 1) + hc f (srt (s.drop 2 ++ [nth s 0 + nth s 1]))
theorem wc_nonneg {P : List (Int × Nat)} (h : ∀ p ∈ P, 0 ≤ p.1) : 0 ≤ wc P := isum_nonneg fun x hx => by
  obtain ⟨p, hp, rfl⟩ := List.mem_map.1 hx
  exact Int.mul_nonneg (h p hp) (by omega)
theorem huf_low : ∀ (f : Nat) (P : List (Int × Nat)), P.length = f + 1 → Dep (P.map (·.2)) → (∀ p ∈ P, 0 ≤ p.1) → hc f (srt (P.map (·.1))) ≤ wc P
  | 0, P, _, _, h => wc_nonneg h
  | f + 1, P, hl, hdep, h0 => by
    have hsl : (srt (P.map (·.1))).length = f + 2 := by rw [srt_len, List.length_map, hl]
    have hsS := srt_srt (P.map (·.1))
    have hsP := srt_perm (P.map (·.1))
    obtain ⟨s, hs⟩ : ∃ s, s = srt (P.map (·.1)) := ⟨_, rfl⟩
    rw [← hs] at hsl hsS hsP ⊢
    match s, hsl with
    | w1 :: w2 :: t, hsl =>
    have h12 : w1 ≤ w2 := hsS 0 1 (by omega) (by simp)
    have h2t : ∀ x ∈ t, w2 ≤ x := fun x hx => by
      obtain ⟨j, hj, e⟩ := List.mem_iff_getElem.1 hx
      have h3 := hsS 1 (j + 2) (by omega) (by simp; omega)
      have e1 : nth (w1 :: w2 :: t) 1 = w2 := rfl
      have e2 : nth (w1 :: w2 :: t) (j + 2) = nth t j := rfl
      rw [e1, e2, nth_eq hj, e] at h3
      exact h3
    have hm1 : w1 ∈ P.map (·.1) := hsP.mem_iff.1 (List.mem_cons_self ..)
    have hm2 : w2 ∈ P.map (·.1) := hsP.mem_iff.1 (List.mem_cons_of_mem _ (List.mem_cons_self ..))
    have hw1 : 0 ≤ w1 := by
      obtain ⟨p, hp, rfl⟩ := List.mem_map.1 hm1; exact h0 p hp
    have ht0 : ∀ x ∈ t, 0 ≤ x := fun x hx => by have := h2t x hx; omega
    obtain ⟨D, hD, hDm⟩ := max_of (P.map (·.2)) (by rw [List.length_map, hl]; omega)
    obtain ⟨Q, q1, q2, q3⟩ := swapW hsP.symm (fun x hx => by
      rcases List.mem_cons.1 hx with e | h3
      · omega
      · have := h2t x h3; omega) hD hDm
    have hDQ : Dep (D :: Q.map (·.2)) := Dep.perm q2.symm hdep
    obtain ⟨E, rest, hE, r1, r2⟩ := hDQ.deep D (List.mem_cons_self ..) (fun d hd => hDm d (q2.mem_iff.1 hd)) (by
      have h3 := q2.length_eq
      rw [List.length_map, hl] at h3; omega)
    have r3 : (Q.map (·.2)).Perm (D :: rest) := r1.cons_inv
    obtain ⟨R, s1, s2, s3⟩ := swapW q1 h2t (r3.mem_iff.2 (List.mem_cons_self ..)) (fun d hd => hDm d (q2.mem_iff.1 (List.mem_cons_of_mem _ hd)))
    have s4 : (R.map (·.2)).Perm rest := (s2.trans r3).cons_inv
    have ih := huf_low f ((w1 + w2, E) :: R) (by
      have h3 := s1.length_eq
      rw [List.length_map] at h3
      simp only [List.length_cons] at hsl ⊢; omega) (Dep.perm ((s4.symm).cons E) r2) (fun p hp => by
        rcases List.mem_cons.1 hp with e | h3
        · subst e; show 0 ≤ w1 + w2; omega
        · exact ht0 p.1 (s1.mem_iff.1 (List.mem_map.2 ⟨p, h3, rfl⟩)))
    have e1 : srt (((w1 + w2, E) :: R).map (·.1)) = srt ((w1 :: w2 :: t).drop 2 ++ [nth (w1 :: w2 :: t) 0 + nth (w1 :: w2 :: t) 1]) := by
      refine Srt.eq (srt_srt _) (srt_srt _) ((srt_perm _).trans (List.Perm.trans ?_ (srt_perm _).symm))
      show ((w1 + w2) :: R.map (·.1)).Perm (t ++ [w1 + w2])
      exact (s1.cons _).trans (List.perm_append_comm (l₁ := [w1 + w2]))
    rw [e1, wc_cons] at ih
    rw [hc, if_neg (by simp)]
    have e2 : nth (w1 :: w2 :: t) 0 = w1 := rfl
    have e3 : nth (w1 :: w2 :: t) 1 = w2 := rfl
    rw [e2, e3] at ih ⊢
    simp only at ih
    have e4 : w1 * (D : Int) = w1 * (E : Int) + w1 := by rw [hE, Int.natCast_add, Int.mul_add]; simp
    have e5 : w2 * (D : Int) = w2 * (E : Int) + w2 := by rw [hE, Int.natCast_add, Int.mul_add]; simp
    rw [Int.add_mul] at ih
    omega
theorem hc_hst {xs : List Int} (h : ∀ x ∈ xs, 1 ≤ x ∧ x ≤ 1000) : ∀ k, k + 1 ≤ xs.length → (hst xs k).c + hc (xs.length - 1 - k) (srt (vals (hst xs k).l)) = hc (xs.length - 1) (srt xs)
  | 0, _ => by simp only [hst]; rw [vals_leafs]; simp
  | k + 1, hk => by
    have ih := hc_hst h k (by omega)
    have hi := HI.all h k (by omega)
    have h2 : 2 ≤ (hst xs k).l.length := by have := hi.len; omega
    obtain ⟨e1, e2⟩ := srt_next h2
    have e3 : xs.length - 1 - k = (xs.length - 1 - (k + 1)) + 1 := by omega
    rw [e3, hc, if_neg (by rw [srt_len, vals_len]; omega), e1, e2] at ih
    show (hst xs k).c + (both (hst xs k).l).1 + hc (xs.length - 1 - (k + 1)) (srt (vals (hstep (hst xs k)).l)) = _
    omega
theorem hufC_is {xs : List Int} (h : ∀ x ∈ xs, 1 ≤ x ∧ x ≤ 1000) (h0 : 0 < xs.length) : hufC xs = hc (xs.length - 1) (srt xs) := by
  have h1 := hc_hst h (xs.length - 1) (by omega)
  rw [Nat.sub_self] at h1
  unfold hufC
  rw [← h1]; simp [hc]

/-! neighbors -/
theorem isum_sumTo (xs : List Int) : ∀ k, k ≤ xs.length → sumTo xs k = isum (xs.take k)
  | 0, _ => rfl
  | k + 1, hk => by
    rw [sumTo, isum_sumTo xs k (by omega), List.take_add_one, List.getElem?_eq_getElem (by omega), isum_app, nth_eq (by omega)]
    simp [isum]
theorem best_is (g : Nat → Int) : ∀ m, 1 ≤ m → ∃ k, 1 ≤ k ∧ k ≤ m ∧ bestTo g m = g k
  | 0, h => by omega
  | m + 1, _ => by
    rw [bestTo]
    split
    · exact ⟨m + 1, by omega, by omega, rfl⟩
    · rename_i h
      rcases Nat.eq_zero_or_pos m with h0 | h0
      · subst h0; exact absurd (.inl (by simp [bestTo])) h
      · obtain ⟨k, h1, h2, h3⟩ := best_is g m h0
        exact ⟨k, h1, by omega, h3⟩
theorem best_le (g : Nat → Int) (h : ∀ j, 0 ≤ g j) : ∀ m j, 1 ≤ j → j ≤ m → 0 ≤ bestTo g m ∧ bestTo g m ≤ g j
  | 0, j, h1, h2 => by omega
  | m + 1, j, h1, h2 => by
    rw [bestTo]
    have hm := h (m + 1)
    split
    · rename_i h3
      refine ⟨hm, ?_⟩
      rcases Nat.lt_or_ge m j with h4 | h4
      · have : j = m + 1 := by omega
        subst this; exact Int.le_refl _
      · have ih := best_le g h m j h1 h4
        omega
    · rename_i h3
      rcases Nat.lt_or_ge m j with h4 | h4
      · have : j = m + 1 := by omega
        subst this; omega
      · exact best_le g h m j h1 h4
def up1 (P : List (Int × Nat)) : List (Int × Nat) := P.map fun p => (p.1, p.2 + 1)
theorem up1_fst (P : List (Int × Nat)) : (up1 P).map (·.1) = P.map (·.1) := by simp [up1]
theorem up1_snd (P : List (Int × Nat)) : (up1 P).map (·.2) = (P.map (·.2)).map (· + 1) := by simp [up1]
theorem wc_up1 (P : List (Int × Nat)) : wc (up1 P) = wc P + isum (P.map (·.1)) := by
  induction P with
  | nil => rfl
  | cons p P ih =>
    have e : up1 (p :: P) = (p.1, p.2 + 1) :: up1 P := rfl
    rw [e, wc_cons, ih, wc_cons, List.map_cons, isum, Int.natCast_add, Int.mul_add]
    simp; omega
theorem wc_app (P Q : List (Int × Nat)) : wc (P ++ Q) = wc P + wc Q := by unfold wc; rw [List.map_append, isum_app]
theorem nb_dep : ∀ (f : Nat) (xs : List Int), 0 < xs.length → xs.length ≤ f → ∃ P : List (Int × Nat), P.map (·.1) = xs ∧ Dep (P.map (·.2)) ∧ wc P = nbF f xs
  | 0, xs, h1, h2 => by omega
  | f + 1, xs, h1, h2 => by
    rw [nbF]
    by_cases h3 : xs.length < 2
    · rw [if_pos h3]
      match xs, h1, h3 with
      | [x], _, _ => exact ⟨[(x, 0)], rfl, Dep.one, by simp [wc, isum]⟩
    · rw [if_neg h3]
      obtain ⟨k, hk1, hk2, hk3⟩ := best_is (fun k => nbF f (xs.take k) + nbF f (xs.drop k)) (xs.length - 1) (by omega)
      rw [hk3]
      obtain ⟨P, p1, p2, p3⟩ := nb_dep f (xs.take k) (by rw [List.length_take]; omega) (by rw [List.length_take]; omega)
      obtain ⟨Q, q1, q2, q3⟩ := nb_dep f (xs.drop k) (by rw [List.length_drop]; omega) (by rw [List.length_drop]; omega)
      refine ⟨up1 P ++ up1 Q, by rw [List.map_append, up1_fst, up1_fst, p1, q1, List.take_append_drop], ?_, ?_⟩
      · rw [List.map_append, up1_snd, up1_snd]; exact p2.join q2
      · rw [wc_app, wc_up1, wc_up1, p1, q1, p3, q3, isum_sumTo xs xs.length (Nat.le_refl _), List.take_length]
        have e : isum xs = isum (xs.take k) + isum (xs.drop k) := by rw [← isum_app, List.take_append_drop]
        omega
theorem huf_nb {xs : List Int} (hl : xs.length ≤ 8) (h : ∀ x ∈ xs, 1 ≤ x ∧ x ≤ 1000) : hufC xs ≤ nbF 8 xs := by
  rcases Nat.eq_zero_or_pos xs.length with h0 | h0
  · obtain rfl := List.eq_nil_of_length_eq_zero h0
    simp [hufC, hst, nbF]
  · obtain ⟨P, p1, p2, p3⟩ := nb_dep 8 xs h0 hl
    have hpl : P.length = xs.length := by rw [← p1, List.length_map]
    have h1 := huf_low (xs.length - 1) P (by omega) p2 (fun p hp => by
      have := h p.1 (by rw [← p1]; exact List.mem_map.2 ⟨p, hp, rfl⟩); omega)
    rw [p1, p3] at h1
    rw [hufC_is h h0]; exact h1
theorem nb_nonneg : ∀ (f : Nat) (xs : List Int), (∀ x ∈ xs, 0 ≤ x) → 0 ≤ nbF f xs
  | 0, xs, _ => Int.le_refl _
  | f + 1, xs, h => by
    rw [nbF]
    split
    · exact Int.le_refl _
    · obtain ⟨k, hk1, hk2, hk3⟩ := best_is (fun k => nbF f (xs.take k) + nbF f (xs.drop k)) (xs.length - 1) (by omega)
      rw [hk3, isum_sumTo xs xs.length (Nat.le_refl _), List.take_length]
      have h1 := nb_nonneg f (xs.take k) (fun x hx => h x (List.mem_of_mem_take hx))
      have h2 := nb_nonneg f (xs.drop k) (fun x hx => h x (List.mem_of_mem_drop hx))
      have h3 := isum_nonneg h
      omega
theorem nb_up : ∀ (f : Nat) (xs : List Int), xs.length ≤ f → (∀ x ∈ xs, 0 ≤ x) → nbF f xs ≤ isum xs * ((xs.length - 1 : Nat) : Int)
  | 0, xs, h1, _ => by
    obtain rfl := List.eq_nil_of_length_eq_zero (Nat.le_zero.1 h1)
    simp [nbF]
  | f + 1, xs, h1, h => by
    have h3 := isum_nonneg h
    rw [nbF]
    split
    · exact Int.mul_nonneg h3 (by omega)
    · rename_i h2
      have hb := (best_le (fun k => nbF f (xs.take k) + nbF f (xs.drop k)) (fun j => by
        have h4 := nb_nonneg f (xs.take j) (fun x hx => h x (List.mem_of_mem_take hx))
        have h5 := nb_nonneg f (xs.drop j) (fun x hx => h x (List.mem_of_mem_drop hx))
        omega) (xs.length - 1) 1 (by omega) (by omega)).2
      rw [isum_sumTo xs xs.length (Nat.le_refl _), List.take_length]
      have h4 : nbF f (xs.take 1) = 0 := by
        cases f with
        | zero => rfl
        | succ f => rw [nbF, if_pos (by rw [List.length_take]; omega)]
      have h5 := nb_up f (xs.drop 1) (by rw [List.length_drop]; omega) (fun x hx => h x (List.mem_of_mem_drop hx))
      have h6 : isum (xs.drop 1) ≤ isum xs := by
        have e : isum xs = isum (xs.take 1) + isum (xs.drop 1) := by rw [← isum_app, List.take_append_drop]
        have h7 := isum_nonneg (l := xs.take 1) (fun x hx => h x (List.mem_of_mem_take hx))
        omega
      rw [List.length_drop] at h5
      have e1 : xs.length - 1 = (xs.length - 1 - 1) + 1 := by omega
      have e2 : ((xs.length - 1 : Nat) : Int) = ((xs.length - 1 - 1 : Nat) : Int) + 1 := by omega
      have h8 := Int.mul_le_mul_of_nonneg_right h6 (show (0 : Int) ≤ ((xs.length - 1 - 1 : Nat) : Int) by omega)
      rw [e2, Int.mul_add, Int.mul_one]
      rw [h4] at hb
      omega

/-! depths pay -/
def payTo (xs d : List Int) : Nat → Int
  | 0 => 0
  | k + 1 => payTo xs d k + nth xs k * nth d k
theorem nth_setI (l : List Int) (i j : Nat) (v : Int) (hi : i < l.length) : nth (l.set i v) j = if i = j then v else nth l j := by
  unfold nth
  rw [List.getD, List.getD, List.getElem?_set]
  split
  · first | rfl | (rw [if_pos hi]; rfl)
  · rfl
theorem pay_set (xs d : List Int) (i : Nat) (hi : i < d.length) : ∀ n, payTo xs (d.set i (nth d i + 1)) n = payTo xs d n + if i < n then nth xs i else 0
  | 0 => by simp [payTo]
  | n + 1 => by
    rw [payTo, payTo, pay_set xs d i hi n, nth_setI d i n _ hi]
    rcases Nat.lt_trichotomy i n with h | h | h
    · have a1 : ¬ i = n := by omega
      have a3 : i < n + 1 := by omega
      simp only [a1, h, a3, if_true, if_false]; omega
    · subst h
      have a3 : i < i + 1 := by omega
      simp only [Nat.lt_irrefl, a3, if_true, if_false, Int.mul_add, Int.mul_one]; omega
    · have a1 : ¬ i = n := by omega
      have a2 : ¬ i < n := by omega
      have a3 : ¬ i < n + 1 := by omega
      simp only [a1, a2, a3, if_false]; omega
theorem pay_bump (xs d ms : List Int) (n : Nat) (hd : d.length = n) (hm : ∀ i ∈ ms, 0 ≤ i ∧ i < (n : Int)) : ∀ j, j ≤ ms.length → payTo xs (bumpN d ms j) n = payTo xs d n + isum ((ms.take j).map fun i => nth xs i.toNat)
  | 0, _ => by simp [bumpN, isum]
  | j + 1, hj => by
    have h1 := hm (nth ms j) (by rw [nth_eq (by omega)]; exact List.getElem_mem _)
    rw [bumpN, pay_set xs _ _ (by rw [bumpN_len, hd]; omega), pay_bump xs d ms n hd hm j (by omega), if_pos (by omega), List.take_add_one, List.getElem?_eq_getElem (by omega), List.map_append, isum_app, nth_eq (show j < ms.length by omega)]
    simp [isum]; omega
theorem pay_all {xs : List Int} (h : ∀ x ∈ xs, 1 ≤ x ∧ x ≤ 1000) : ∀ k, k + 1 ≤ xs.length ∨ k = 0 → payTo xs (hst xs k).d xs.length = (hst xs k).c ∧ ∀ r ∈ (hst xs k).l, r.1 = isum (r.2.map fun i => nth xs i.toNat)
  | 0, _ => by
    refine ⟨?_, fun r hr => ?_⟩
    · simp only [hst]
      have : ∀ n, payTo xs (List.replicate xs.length 0) n = 0 := fun n => by
        induction n with
        | zero => rfl
        | succ n ih =>
          rw [payTo, ih]
          have : nth (List.replicate xs.length (0 : Int)) n = 0 := by
            unfold nth; rw [List.getD, List.getElem?_replicate]; split <;> rfl
          rw [this]; simp
      exact this _
    · simp only [hst, leafs] at hr
      obtain ⟨i, hi, rfl⟩ := List.mem_map.1 hr
      simp [isum]
  | k + 1, hk => by
    obtain ⟨ih1, ih2⟩ := pay_all h k (by omega)
    have hi := HI.all h k (by omega)
    have h2 : 2 ≤ (hst xs k).l.length := by have := hi.len; omega
    have hp := two_perm h2
    have ha : one1 (hst xs k).l ∈ (hst xs k).l := hp.mem_iff.2 (List.mem_cons_self ..)
    have hb : two1 (hst xs k).l ∈ (hst xs k).l := hp.mem_iff.2 (List.mem_cons_of_mem _ (List.mem_cons_self ..))
    have hboth : (both (hst xs k).l).1 = isum ((both (hst xs k).l).2.map fun i => nth xs i.toNat) := by
      simp only [both]; rw [List.map_append, isum_app, ← ih2 _ ha, ← ih2 _ hb]
    refine ⟨?_, fun r hr => ?_⟩
    · simp only [hst, hstep]
      rw [pay_bump xs _ _ xs.length hi.dl (fun i hii => by
        simp only [both] at hii
        rcases List.mem_append.1 hii with h3 | h3
        · exact hi.mem _ ha i h3
        · exact hi.mem _ hb i h3) _ (Nat.le_refl _), List.take_length, ih1, hboth]
    · simp only [hst, hstep] at hr
      rcases List.mem_append.1 hr with h3 | h3
      · exact ih2 r (hp.mem_iff.2 (List.mem_cons_of_mem _ (List.mem_cons_of_mem _ h3)))
      · simp at h3; subst h3; exact hboth
theorem pay_is {xs : List Int} (h : ∀ x ∈ xs, 1 ≤ x ∧ x ≤ 1000) : payTo xs (hufD xs) xs.length = hufC xs := (pay_all h (xs.length - 1) (by omega)).1
end Go.Proofs.Ytaffokicnabkiaa

/- The runs of a list and of a store, as the law of runs asks for them (plain). -/
import Derived.Test.YtaffokicnabkiaaRunsP
import Derived.Test.YtaffokicnabkiaaDisoS
namespace Go.Proofs.Ytaffokicnabkiaa
open Go.RowKit
set_option linter.unusedVariables false

theorem risL_flat (xs : List Int) : ∀ k, k ≤ xs.length → (risL xs k).flatten = xs.take k
  | 0, _ => by simp [risL]
  | k + 1, hk => by
    have ih := risL_flat xs k (by omega)
    rw [take_nth (by omega)]
    by_cases h : starts xs k
    · rw [risL_hit h, addL_flat (by simp)]
      simp [ih]
    · have hk0 : k ≠ 0 := fun e => h (.inl e)
      rw [risL_miss h, addL_flat (by rw [risL_len]; exact runsTo_pos xs k (by omega)), ih]
theorem risL_rise (xs : List Int) (k : Nat) (hk : k ≤ xs.length) : Rows (risL xs k) := by
  rw [← (rp_one xs k hk).1]; exact rp_rows_rise xs 1 k
theorem risL_full (xs : List Int) (k : Nat) (hk : k ≤ xs.length) : ∀ r ∈ risL xs k, 0 < r.length ∧ r.length ≤ k := by
  rw [← (rp_one xs k hk).1]; exact rp_rows xs 1 k
/-- Each row but the first begins below the last number ahead of it. -/
def Falls (O : List (List Int)) : Prop := ∀ i, 0 < i → i < O.length → nth (O.getD i []) 0 < nth (O.take i).flatten ((O.take i).flatten.length - 1)
theorem Falls.more {O : List (List Int)} {v : Int} (h : Falls O) (hp : 0 < (O.getD (O.length - 1) []).length) : Falls (addL O v) := by
  intro i h0 hi
  rw [addL_len] at hi
  have e1 : (addL O v).take i = O.take i := by
    unfold addL
    rw [List.take_set, List.set_eq_of_length_le (by rw [List.length_take]; omega)]
  have e2 : nth ((addL O v).getD i []) 0 = nth (O.getD i []) 0 := by
    unfold addL
    by_cases e : O.length - 1 = i
    · rw [List.getD, List.getElem?_set, if_pos e, if_pos (by omega)]
      show nth (_ ++ [v]) 0 = _
      rw [nth_appL hp, e]
    · rw [List.getD, List.getElem?_set, if_neg e]; rfl
  rw [e1, e2]; exact h i h0 hi
theorem Falls.new {O : List (List Int)} {v : Int} (h : Falls O) (hv : 0 < O.length → v < nth O.flatten (O.flatten.length - 1)) : Falls (O ++ [[v]]) := by
  intro i h0 hi
  rw [List.length_append, List.length_singleton] at hi
  rw [List.take_append_of_le_length (by omega)]
  by_cases e : i < O.length
  · have e1 : (O ++ [[v]]).getD i [] = O.getD i [] := by rw [List.getD, List.getElem?_append_left e]; rfl
    rw [e1]; exact h i h0 e
  · obtain rfl : i = O.length := by omega
    have e1 : (O ++ [[v]]).getD O.length [] = [v] := by rw [List.getD, List.getElem?_append_right (Nat.le_refl _), Nat.sub_self]; rfl
    rw [e1, List.take_of_length_le (Nat.le_refl _)]
    exact hv h0
theorem risL_falls (xs : List Int) : ∀ k, k ≤ xs.length → Falls (risL xs k)
  | 0, _ => fun i _ h => by simp [risL] at h
  | k + 1, hk => by
    have ih := risL_falls xs k (by omega)
    by_cases h : starts xs k
    · rw [risL_hit h, addL_new]
      refine ih.new (fun h0 => ?_)
      rw [risL_flat xs k (by omega)]
      have hk0 : 0 < k := by
        rcases Nat.eq_zero_or_pos k with e | e
        · subst e; simp [risL] at h0
        · exact e
      have hl : (xs.take k).length = k := by rw [List.length_take]; omega
      rw [hl, nth_takeL _ _ _ (by omega)]
      rcases h with h | h
      · omega
      · exact h
    · have hk0 : k ≠ 0 := fun e => h (.inl e)
      rw [risL_miss h]
      exact ih.more ((risL_full xs k (by omega) _ (getD_memL (by rw [risL_len]; exact runsTo_pos xs k (by omega)))).1)

/-! merging -/
theorem flat_srt {rs : List (List Int)} (h : ∀ r ∈ rs, Srt r) (hl : rs.length ≤ 1) : Srt rs.flatten := by
  match rs, h, hl with
  | [], _, _ => intro i j _ hj; simp at hj
  | [a], h, _ =>
    have h1 := h a (by simp)
    have e : ([a] : List (List Int)).flatten = a := by simp
    rw [e]; exact h1
  | _ :: _ :: _, _, hl => simp at hl
theorem finM_srt : ∀ (f : Nat) (rs : List (List Int)), (∀ r ∈ rs, Srt r) → rs.length ≤ 2 ^ f → Srt (finM f rs).1 ∧ (finM f rs).1.Perm rs.flatten
  | 0, rs, h, hl => ⟨flat_srt h (by simpa using hl), List.Perm.refl _⟩
  | f + 1, rs, h, hl => by
    by_cases h1 : rs.length ≤ 1
    · rw [finM_stop h1]; exact ⟨flat_srt h h1, List.Perm.refl _⟩
    · rw [finM_go h1]
      obtain ⟨a, b⟩ := finM_srt f (mgS rs) (mgS_srt rs h) (by rw [mgS_len]; rw [Nat.pow_succ] at hl; omega)
      exact ⟨a, b.trans (mgS_perm rs)⟩
theorem finM_rounds : ∀ (f : Nat) (rs : List (List Int)), rs.length ≤ 2 ^ f → rs.length ≤ 2 ^ (finM f rs).2 ∧ ∀ j, j < (finM f rs).2 → 2 ^ j < rs.length
  | 0, rs, hl => ⟨hl, fun j hj => by simp [finM] at hj⟩
  | f + 1, rs, hl => by
    by_cases h1 : rs.length ≤ 1
    · rw [finM_stop h1]; exact ⟨by simpa using h1, fun j hj => by simp at hj⟩
    · rw [finM_go h1]
      obtain ⟨a, b⟩ := finM_rounds f (mgS rs) (by rw [mgS_len]; rw [Nat.pow_succ] at hl; omega)
      rw [mgS_len] at a
      refine ⟨by rw [Nat.pow_succ]; omega, fun j hj => ?_⟩
      cases j with
      | zero => simp; omega
      | succ j =>
        have := b j (by simpa using hj)
        rw [mgS_len] at this
        rw [Nat.pow_succ]; omega

/-! a store that is as large as the farthest move -/
theorem range_filter (xs : List Int) (m : Nat) : ∀ t, t ≤ xs.length → ((rangeI t).filter (fun p => decide (p < (m : Int)))).map (keyP xs) = xs.take (min t m)
  | 0, _ => by simp [rangeI]
  | t + 1, ht => by
    have ih := range_filter xs m t (by omega)
    have e : rangeI (t + 1) = rangeI t ++ [(t : Int)] := by simp [rangeI, List.range_succ]
    rw [e, List.filter_append, List.map_append, ih]
    by_cases h : t < m
    · have e1 : min t m = t := by omega
      have e2 : min (t + 1) m = t + 1 := by omega
      have e3 : [(t : Int)].filter (fun p => decide (p < (m : Int))) = [(t : Int)] := by
        simp; omega
      rw [e1, e2, e3, take_nth (by omega)]
      simp [keyP]
    · have e1 : min t m = m := by omega
      have e2 : min (t + 1) m = m := by omega
      have e3 : [(t : Int)].filter (fun p => decide (p < (m : Int))) = [] := by
        simp; omega
      rw [e1, e2, e3]; simp
theorem near_take {xs : List Int} {n k m : Nat} (hl : xs.length = n) (hk : k < n) (h : ∀ j, j ≤ k → nth (ordL xs n) j < (m : Int)) :
    ∃ R : List Int, (xs.take m).Perm (((ordL xs n).take (k + 1)).map (keyP xs) ++ R.map (keyP xs)) ∧ ∀ p ∈ R, p ∈ (ordL xs n).drop (k + 1) := by
  refine ⟨((ordL xs n).drop (k + 1)).filter (fun p => decide (p < (m : Int))), ?_, fun p hp => (List.mem_filter.1 hp).1⟩
  have e1 : ((ordL xs n).take (k + 1)).filter (fun p => decide (p < (m : Int))) = (ordL xs n).take (k + 1) := by
    rw [List.filter_eq_self]
    intro p hp
    obtain ⟨j, hj, hj2, rfl⟩ := mem_take_nth hp
    exact decide_eq_true (h j (by omega))
  have e2 : (ordL xs n).take (k + 1) ++ ((ordL xs n).drop (k + 1)).filter (fun p => decide (p < (m : Int))) = (ordL xs n).filter (fun p => decide (p < (m : Int))) := by
    have e3 : ((ordL xs n).take (k + 1) ++ (ordL xs n).drop (k + 1)).filter (fun p => decide (p < (m : Int))) = (ordL xs n).filter (fun p => decide (p < (m : Int))) := by rw [List.take_append_drop]
    rw [List.filter_append, e1] at e3
    exact e3
  rw [← List.map_append, e2]
  have e4 : xs.take m = ((rangeI n).filter (fun p => decide (p < (m : Int)))).map (keyP xs) := by
    rw [range_filter xs m n (by omega)]
    rcases Nat.le_total n m with h1 | h1
    · rw [Nat.min_eq_left h1, List.take_of_length_le (by omega), List.take_of_length_le (by omega)]
    · rw [Nat.min_eq_right h1]
  rw [e4]
  exact (((ordL_perm xs n).filter _).symm).map _
theorem mem_drop_nth {ys : List Int} {k : Nat} {a : Int} (h : a ∈ ys.drop k) : ∃ i, k ≤ i ∧ i < ys.length ∧ nth ys i = a := by
  obtain ⟨i, hi, rfl⟩ := List.mem_iff_getElem.1 h
  rw [List.length_drop] at hi
  exact ⟨k + i, by omega, by omega, by rw [nth_eq (by omega)]; simp⟩
theorem ord_srt {xs : List Int} {n : Nat} (hl : xs.length = n) : (ordL xs n).map (keyP xs) = srt xs := by
  subst hl
  rw [← srt_eq]; exact sortTo_map xs xs.length xs.length (Nat.le_refl _)
theorem near_store {xs S : List Int} {n k room : Nat} (hl : xs.length = n) (hk : k < n) (hf : farTo (ordL xs n) n < (room : Int)) (hp : ((srt xs).take k ++ S).Perm (xs.take (room + k))) :
    ∃ R : List Int, S.Perm (nth (srt xs) k :: R) ∧ ∀ r ∈ R, nth (srt xs) k ≤ r := by
  obtain ⟨R, h1, h2⟩ := near_take (xs := xs) (n := n) (k := k) (m := room + k) hl hk (fun j hj => by
    have := (far_at (ordL xs n) n j (by omega)).2
    omega)
  have hlo : (srt xs).length = n := by rw [srt_len, hl]
  rw [List.map_take, ord_srt hl, take_nth (by rw [hlo]; exact hk), List.append_assoc] at h1
  have h3 := (List.perm_append_left_iff _).1 (hp.trans h1)
  refine ⟨R.map (keyP xs), h3, fun r hr => ?_⟩
  obtain ⟨p, hp1, rfl⟩ := List.mem_map.1 hr
  obtain ⟨j, hj1, hj2, rfl⟩ := mem_drop_nth (h2 p hp1)
  rw [ordL_ln] at hj2
  have h4 : keyP xs (nth (ordL xs n) j) = nth (srt xs) j := by
    rw [← ord_srt hl, nth_mapF _ _ _ (by rw [ordL_ln]; exact hj2)]
  rw [h4]
  exact srt_srt xs k j (by omega) (by rw [hlo]; exact hj2)
theorem rp_near {xs : List Int} {n room : Nat} (hl : xs.length = n) (hroom : 1 ≤ room) (hf : farTo (ordL xs n) n < (room : Int)) : ∀ k, k ≤ n → (rp xs room k).1.flatten = (srt xs).take k ∧ (rp xs room k).1.length ≤ 1
  | 0, _ => by simp [rp]
  | k + 1, hk => by
    obtain ⟨h1, h2⟩ := rp_near hl hroom hf k (by omega)
    have hp := rp_perm xs room hroom k (by omega)
    have hsr := rp_srt xs room k
    rw [h1] at hp
    obtain ⟨R, h3, h4⟩ := near_store hl (by omega) hf hp
    have hso : (srt xs).length = n := by rw [srt_len, hl]
    simp only [rp]
    generalize hO : (rp xs room k).1 = O at *
    generalize (rp xs room k).2 = S at *
    have hS0 : 0 < S.length := by rw [h3.length_eq]; simp
    have hall : ∀ i, i < S.length → nth (srt xs) k ≤ nth S i := fun i hi => by
      have h5 : nth S i ∈ S := by rw [nth_eq hi]; exact List.getElem_mem hi
      rcases List.mem_cons.1 (h3.mem_iff.1 h5) with h6 | h6
      · rw [h6]; exact Int.le_refl _
      · exact h4 _ h6
    have hhd : nth S 0 = nth (srt xs) k := by
      have h5 : nth (srt xs) k ∈ S := h3.mem_iff.2 (List.mem_cons_self ..)
      obtain ⟨i, hi, e⟩ := List.mem_iff_getElem.1 h5
      rw [← nth_eq hi] at e
      have h6 := hall 0 hS0
      rcases Nat.eq_zero_or_pos i with e0 | e0
      · rw [← e, e0]
      · have := hsr 0 i e0 hi; omega
    have hP : rpP O S = 0 := by
      unfold rpP pkO
      split
      · rfl
      · rename_i h0
        have hk0 : 0 < k := by
          rcases Nat.eq_zero_or_pos k with e | e
          · subst e
            simp only [rp] at hO
            rw [← hO] at h0; simp at h0
          · exact e
        have hlast : lastR O ≤ nth S 0 := by
          have e : O = [O.getD 0 []] := by
            match O, h2, h0 with
            | [a], _, _ => rfl
            | [], _, h0 => simp at h0
            | _ :: _ :: _, h2, _ => simp at h2
          have e2 : O.getD 0 [] = (srt xs).take k := by
            rw [e] at h1; simpa using h1
          have e3 : O.length = 1 := by omega
          unfold lastR
          rw [e3, show 1 - 1 = 0 from rfl, e2]
          have e4 : ((srt xs).take k).length = k := by rw [List.length_take]; omega
          rw [e4, nth_takeL _ _ _ (by omega), hhd]
          exact srt_srt xs (k - 1) k (by omega) (by omega)
        rw [pk_is (j := 0) hS0 hlast (fun i hi => by omega)]; rfl
    have hF : rpF O S = true ∨ O.length = 0 := by
      rcases Nat.eq_zero_or_pos O.length with e | e
      · exact .inr e
      · left
        unfold rpF
        cases e2 : pkO O S with
        | some j => rfl
        | none =>
          unfold pkO at e2
          rw [if_neg (by omega)] at e2
          have h5 := pk_none e2 0 hS0
          have hlast : lastR O ≤ nth S 0 := by
            have e : O = [O.getD 0 []] := by
              match O, h2, e with
              | [a], _, _ => rfl
              | [], _, h0 => simp at h0
              | _ :: _ :: _, h2, _ => simp at h2
            have e2 : O.getD 0 [] = (srt xs).take k := by
              rw [e] at h1; simpa using h1
            have e3 : O.length = 1 := by omega
            have hk0 : 0 < k := by
              rcases Nat.eq_zero_or_pos k with e | e
              · subst e
                simp only [rp] at hO
                rw [← hO] at e3; simp at e3
              · exact e
            unfold lastR
            rw [e3, show 1 - 1 = 0 from rfl, e2]
            have e4 : ((srt xs).take k).length = k := by rw [List.length_take]; omega
            rw [e4, nth_takeL _ _ _ (by omega), hhd]
            exact srt_srt xs (k - 1) k (by omega) (by omega)
          omega
    rw [hP, hhd, putR_flat rpF_pos, h1, take_nth (by rw [hso]; omega)]
    refine ⟨rfl, ?_⟩
    unfold putR
    split
    · rw [addL_len]; exact h2
    · rename_i hf2
      rcases hF with h5 | h5
      · exact absurd h5 hf2
      · rw [List.length_append, h5]; simp

end Go.Proofs.Ytaffokicnabkiaa

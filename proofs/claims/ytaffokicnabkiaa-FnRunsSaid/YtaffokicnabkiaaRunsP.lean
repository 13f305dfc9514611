/- Runs that a store writes: what is in them (plain). -/
import Derived.Test.YtaffokicnabkiaaRepQ
import Derived.Test.YtaffokicnabkiaaMergeR
namespace Go.Proofs.Ytaffokicnabkiaa
open Go.RowKit
set_option linter.unusedVariables false

theorem addL_flat {O : List (List Int)} (h : 0 < O.length) (v : Int) : (addL O v).flatten = O.flatten ++ [v] := by
  have h1 : O = O.dropLast ++ [O.getLast (List.ne_nil_of_length_pos h)] := (List.dropLast_concat_getLast _).symm
  generalize O.dropLast = A at h1
  generalize O.getLast (List.ne_nil_of_length_pos h) = r at h1
  subst h1
  unfold addL
  have e : (A ++ [r]).length - 1 = A.length := by simp
  rw [e, List.set_append_right _ _ (Nat.le_refl _)]
  simp [List.getD]
theorem putR_flat {O : List (List Int)} {f : Bool} (h : 0 < O.length ∨ f = false) (v : Int) : (putR O f v).flatten = O.flatten ++ [v] := by
  unfold putR
  split
  · rename_i hf
    rcases h with h | h
    · exact addL_flat h v
    · rw [h] at hf; cases hf
  · simp
theorem rpF_pos {O : List (List Int)} {S : List Int} : 0 < O.length ∨ rpF O S = false := by
  rcases Nat.eq_zero_or_pos O.length with h | h
  · right; unfold rpF pkO; rw [if_pos h]; rfl
  · exact .inl h
theorem rp_perm (xs : List Int) (room : Nat) (hr : 1 ≤ room) : ∀ k, k ≤ xs.length → ((rp xs room k).1.flatten ++ (rp xs room k).2).Perm (xs.take (room + k))
  | 0, _ => by simp only [rp, List.flatten_nil, List.nil_append]; exact srt_perm _
  | k + 1, hk => by
    have ih := rp_perm xs room hr k (by omega)
    have hl := rp_len xs room hr k (by omega)
    simp only [rp]
    generalize (rp xs room k).1 = O at *
    generalize (rp xs room k).2 = S at *
    have hp := rpP_lt (out := O) (S := S) (by omega)
    rw [putR_flat rpF_pos, List.append_assoc]
    have e : xs.take (room + (k + 1)) = xs.take (room + k) ++ (xs.drop (room + k)).take 1 := by
      rw [show room + (k + 1) = room + k + 1 by omega, List.take_add]
    rw [e]
    have h1 : ([nth S (rpP O S)] ++ srt (rmAt S (rpP O S) ++ (xs.drop (room + k)).take 1)).Perm (S ++ (xs.drop (room + k)).take 1) := by
      refine (List.Perm.append_left _ (srt_perm _)).trans ?_
      rw [← List.append_assoc]
      exact (rmAt_perm hp).symm.append_right _
    refine (List.Perm.append_left _ h1).trans ?_
    rw [← List.append_assoc]
    exact ih.append_right _
theorem lastR_new (O : List (List Int)) (v : Int) : lastR (O ++ [[v]]) = v := by
  unfold lastR
  have e : (O ++ [[v]]).length - 1 = O.length := by simp
  rw [e]
  simp [List.getD, nth]
theorem lastR_addL {O : List (List Int)} (h : 0 < O.length) (v : Int) : lastR (addL O v) = v := by
  have h1 : O = O.dropLast ++ [O.getLast (List.ne_nil_of_length_pos h)] := (List.dropLast_concat_getLast _).symm
  generalize O.dropLast = A at h1
  generalize O.getLast (List.ne_nil_of_length_pos h) = r at h1
  subst h1
  unfold addL lastR
  have e : (A ++ [r]).length - 1 = A.length := by simp
  rw [e, List.set_append_right _ _ (Nat.le_refl _)]
  simp [List.getD, nth]
theorem lastR_putR {O : List (List Int)} {f : Bool} (h : 0 < O.length ∨ f = false) (v : Int) : lastR (putR O f v) = v := by
  unfold putR
  split
  · rename_i hf
    rcases h with h | h
    · exact lastR_addL h v
    · rw [h] at hf; cases hf
  · exact lastR_new O v
theorem risL_lastR (xs : List Int) : ∀ k, 1 ≤ k → lastR (risL xs k) = nth xs (k - 1)
  | 0, h => by omega
  | k + 1, _ => by
    by_cases h : starts xs k
    · rw [risL_hit h, lastR_addL (by simp)]; rfl
    · have hk : 0 < k := by
        rcases Nat.eq_zero_or_pos k with h0 | h0
        · exact absurd (.inl h0) h
        · exact h0
      rw [risL_miss h, lastR_addL (by rw [risL_len]; exact runsTo_pos xs k hk)]; rfl
theorem srt_one {l : List Int} (h : l.length ≤ 1) : srt l = l := Srt.eq (srt_srt l) (fun i j hij hj => by omega) (srt_perm l)
/-- A store of one number writes the runs as they stand. -/
theorem rp_one (xs : List Int) : ∀ k, k ≤ xs.length → (rp xs 1 k).1 = risL xs k ∧ (rp xs 1 k).2 = (xs.drop k).take 1
  | 0, _ => ⟨rfl, by simp only [rp, List.drop_zero]; exact srt_one (by rw [List.length_take]; omega)⟩
  | k + 1, hk => by
    obtain ⟨h1, h2⟩ := rp_one xs k (by omega)
    have hd : (xs.drop k).take 1 = [nth xs k] := by rw [drop_nth (by omega)]; rfl
    rw [hd] at h2
    simp only [rp, h1, h2]
    have hp : rpP (risL xs k) [nth xs k] = 0 := by
      have := rpP_lt (out := risL xs k) (S := [nth xs k]) (by simp)
      simp at this; exact this
    rw [hp]
    have hv : nth [nth xs k] 0 = nth xs k := rfl
    rw [hv]
    refine ⟨?_, ?_⟩
    · by_cases h : starts xs k
      · have hf : rpF (risL xs k) [nth xs k] = false := by
          unfold rpF pkO
          split
          · rfl
          · rename_i h0
            have hk0 : 0 < k := by
              rcases Nat.eq_zero_or_pos k with e | e
              · subst e; exact absurd rfl h0
              · exact e
            have hlt : nth xs k < nth xs (k - 1) := by
              rcases h with h | h
              · omega
              · exact h
            rw [risL_lastR xs k hk0, pk_isNone (fun i hi => by
              simp at hi; subst hi; exact hlt)]; rfl
        unfold putR
        rw [hf, risL_hit h, addL_new]; simp
      · have hk0 : 0 < k := by
          rcases Nat.eq_zero_or_pos k with e | e
          · exact absurd (.inl e) h
          · exact e
        have hge : nth xs (k - 1) ≤ nth xs k := by
          have : ¬ nth xs k < nth xs (k - 1) := fun e => h (.inr e)
          omega
        have hf : rpF (risL xs k) [nth xs k] = true := by
          unfold rpF pkO
          have hpos := runsTo_pos xs k hk0
          rw [if_neg (by rw [risL_len]; omega), risL_lastR xs k hk0, pk_is (j := 0) (by simp) hge (fun i hi => by omega)]; rfl
        unfold putR
        rw [hf, risL_miss h]; simp
    · have hr : rmAt [nth xs k] 0 = [] := rfl
      rw [hr, List.nil_append, Nat.add_comm 1 k]
      exact srt_one (by rw [List.length_take]; omega)
/-- A row does not fall. -/
def Rows (O : List (List Int)) : Prop := ∀ r ∈ O, ∀ j, j + 1 < r.length → nth r j ≤ nth r (j + 1)
theorem nth_snoc (r : List Int) (v : Int) (j : Nat) : nth (r ++ [v]) j = if j < r.length then nth r j else if j = r.length then v else 0 := by
  unfold nth
  rw [List.getD, List.getD]
  by_cases h : j < r.length
  · rw [if_pos h, List.getElem?_append_left h]
  · rw [if_neg h, List.getElem?_append_right (by omega)]
    by_cases e : j = r.length
    · rw [if_pos e, e, Nat.sub_self]; rfl
    · rw [if_neg e, List.getElem?_eq_none (by simp; omega)]; rfl
theorem Rows.putR {O : List (List Int)} {f : Bool} {v : Int} (h : Rows O) (hf : f = true → 0 < O.length ∧ lastR O ≤ v) : Rows (putR O f v) := by
  intro r hr j hj
  unfold Go.Proofs.Ytaffokicnabkiaa.putR at hr
  split at hr
  · rename_i hf2
    obtain ⟨h1, h2⟩ := hf hf2
    unfold addL at hr
    rcases List.mem_or_eq_of_mem_set hr with h3 | h3
    · exact h r h3 j hj
    · subst h3
      rw [List.length_append, List.length_singleton] at hj
      rw [nth_snoc, nth_snoc, if_pos (by omega)]
      split
      · rename_i h4
        refine h _ ?_ j h4
        rw [List.getD, List.getElem?_eq_getElem (by omega)]
        exact List.getElem_mem _
      · rename_i h4
        rw [if_pos (by omega)]
        unfold lastR at h2
        have e : j = (O.getD (O.length - 1) []).length - 1 := by omega
        rw [e]; exact h2
  · rcases List.mem_append.1 hr with h3 | h3
    · exact h r h3 j hj
    · simp at h3; subst h3; simp at hj
theorem rp_rows_rise (xs : List Int) (room : Nat) : ∀ k, Rows (rp xs room k).1
  | 0 => fun r h => by simp [rp] at h
  | k + 1 => by
    simp only [rp]
    refine (rp_rows_rise xs room k).putR (fun hf => ?_)
    generalize (rp xs room k).1 = O at *
    generalize (rp xs room k).2 = S at *
    unfold rpF at hf
    unfold rpP
    cases e : pkO O S with
    | none => rw [e] at hf; cases hf
    | some p =>
      unfold pkO at e
      split at e
      · cases e
      · exact ⟨by omega, (pk_some e).2.1⟩
end Go.Proofs.Ytaffokicnabkiaa

/- What the law of stacks asks: the facts, put together. -/
import Derived.Test.YtiiijijbkacneaaStkL
import Derived.Test.YtiiijijbkacneaaDraw
import Derived.Test.YtiiijijbkacneaaSortd
import Derived.Test.YtiiijijbkacneaaOrd
import Derived.Test.YtiiijijbkacneaaStackV
import Derived.Test.YtiiijijbkacneaaWord
import Derived.Test.YtiiijijbkacneaaPop
import Derived.Test.YtiiijijbkacneaaQueue
import Derived.Test.YtiiijijbkacneaaRounds
import Derived.Test.YtiiijijbkacneaaCount
namespace Go.Proofs.Ytiiijijbkacneaa
open Go.RowKit
set_option linter.unusedVariables false

theorem Al.all {xs : List Int} {n : Nat} (h : Al xs n) : ∃ l, l ∈ allN n ∧ xs = toI l := by
  induction h with
  | nil => exact ⟨[], by simp [allN], rfl⟩
  | ins xs k p _ hp ih =>
    obtain ⟨l, hl, rfl⟩ := ih
    refine ⟨l.take p ++ k :: l.drop p, ?_, ?_⟩
    · rw [allN]
      exact List.mem_flatMap.2 ⟨l, hl, List.mem_map.2 ⟨p, List.mem_range.2 (by omega), rfl⟩⟩
    · unfold insO; simp [List.map_take, List.map_drop]
set_option maxRecDepth 1000000 in
theorem chkS_7 : (allN 7).all (chkS 7) = true := by decide +kernel
set_option maxRecDepth 1000000 in
theorem chkS_small : (allN 0).all (chkS 0) = true ∧ (allN 1).all (chkS 1) = true ∧ (allN 2).all (chkS 2) = true ∧ (allN 3).all (chkS 3) = true ∧ (allN 4).all (chkS 4) = true ∧ (allN 5).all (chkS 5) = true := by decide +kernel
theorem chkS_all {n : Nat} (hn : n ≤ 7) {l : List Nat} (hl : l ∈ allN n) : chkS n l = true := by
  obtain ⟨h0, h1, h2, h3, h4, h5⟩ := chkS_small
  rcases (show n = 0 ∨ n = 1 ∨ n = 2 ∨ n = 3 ∨ n = 4 ∨ n = 5 ∨ n = 6 ∨ n = 7 by omega) with rfl | rfl | rfl | rfl | rfl | rfl | rfl | rfl
  · exact List.all_eq_true.1 h0 l hl
  · exact List.all_eq_true.1 h1 l hl
  · exact List.all_eq_true.1 h2 l hl
  · exact List.all_eq_true.1 h3 l hl
  · exact List.all_eq_true.1 h4 l hl
  · exact List.all_eq_true.1 h5 l hl
  · exact List.all_eq_true.1 chkS_6 l hl
  · exact List.all_eq_true.1 chkS_7 l hl
theorem lastN_nth : ∀ l : List Nat, nth (toI l) (l.length - 1) = lastN l
  | [] => rfl
  | [x] => rfl
  | x :: y :: l => by
    have ih := lastN_nth (y :: l)
    have e : (x :: y :: l).length - 1 = ((y :: l).length - 1) + 1 := by simp
    rw [e]
    exact ih
theorem popS_perm (xs : List Int) (k : Nat) (hk : k ≤ xs.length) : ((popS xs k).1).Perm (xs.take (popS xs k).2) := by
  induction k with
  | zero => simp [popS]
  | succ k ih =>
    have h1 := ih (by omega)
    have h2 := popS_from xs k
    rw [popS]
    split
    · have h3 : xs.take k = xs.take (popS xs k).2 ++ segL xs (popS xs k).2 k := by
        unfold segL
        rw [show xs.take (popS xs k).2 = (xs.take k).take (popS xs k).2 by rw [List.take_take, Nat.min_eq_left (by omega)], List.take_append_drop]
      have h4 := h1.append (List.reverse_perm (segL xs (popS xs k).2 k))
      rw [← h3] at h4
      exact h4
    · exact h1
theorem popF_perm (xs : List Int) : (popF xs xs.length).Perm xs := by
  have h1 := popS_perm xs xs.length (Nat.le_refl _)
  have h3 : xs = xs.take (popS xs xs.length).2 ++ segL xs (popS xs xs.length).2 xs.length := by
    unfold segL; rw [List.take_length, List.take_append_drop]
  unfold popF
  have h4 := h1.append (List.reverse_perm (segL xs (popS xs xs.length).2 xs.length))
  rwa [← h3] at h4
/-- A word, run, does as the stack does. -/
theorem bt_left {s : ByteArray} {u : UInt8} {k : Nat} (h : k < s.size) : bt (s ++ (⟨#[u]⟩ : ByteArray)) k = bt s k := by
  unfold bt
  rw [ByteArray.getElem?_lt' _ _ (by rw [ba_size]; omega), ByteArray.getElem?_lt' _ _ h, ByteArray.getElem_append_left h]
theorem bt_last (s : ByteArray) (u : UInt8) : bt (s ++ (⟨#[u]⟩ : ByteArray)) s.size = (u.toNat : Int) := by
  unfold bt
  rw [ByteArray.getElem?_lt' _ _ (by rw [ba_size]; omega), ByteArray.getElem_append_right (Nat.le_refl _)]
  simp
  rfl
theorem rwS_left (xs : List Int) (s : ByteArray) (u : UInt8) : ∀ k, k ≤ s.size → rwS xs (s ++ (⟨#[u]⟩ : ByteArray)) k = rwS xs s k
  | 0, _ => rfl
  | k + 1, h => by rw [rwS, rwS, rwS_left xs s u k (by omega), bt_left (by omega)]
theorem rwS_snoc (xs : List Int) (s : ByteArray) (u : UInt8) : rwS xs (s ++ (⟨#[u]⟩ : ByteArray)) (s ++ (⟨#[u]⟩ : ByteArray)).size = (rwS xs s s.size).bind (rwO xs (u.toNat : Int)) := by
  rw [ba_size, rwS, rwS_left xs s u _ (Nat.le_refl _), bt_last]
theorem run_tk {xs : List Int} {x : Int} {k : Nat} : ∀ (st out : List Int) (s : ByteArray), rwS xs s s.size = some ⟨out, st, k⟩ → rwS xs (tkW x st s) (tkW x st s).size = some ⟨(tkS x out st).1, (tkS x out st).2, k⟩
  | [], out, s, h => by rw [tkW, tkS]; exact h
  | y :: st, out, s, h => by
    rw [tkW, tkS]
    split
    · refine run_tk st (out ++ [y]) _ ?_
      rw [rwS_snoc, h]; rfl
    · exact h
theorem run_st {xs : List Int} : ∀ k, k ≤ xs.length → rwS xs (stW xs k) (stW xs k).size = some ⟨(stS xs k).1, (stS xs k).2, k⟩
  | 0, _ => rfl
  | k + 1, hk => by
    rw [stW, rwS_snoc, run_tk _ _ _ (run_st k (by omega))]
    show rwO xs 112 _ = _
    rw [rwO, if_pos ⟨rfl, by show k < _; omega⟩]; rfl
theorem run_dr {xs : List Int} {k : Nat} : ∀ (st out : List Int) (s : ByteArray), rwS xs s s.size = some ⟨out, st, k⟩ → rwS xs (drW st s) (drW st s).size = some ⟨out ++ st, [], k⟩
  | [], out, s, h => by rw [drW, List.append_nil]; exact h
  | y :: st, out, s, h => by
    rw [drW]
    have := run_dr (xs := xs) (k := k) st (out ++ [y]) (s ++ (⟨#[116]⟩ : ByteArray)) (by rw [rwS_snoc, h]; rfl)
    rw [this]; simp
theorem drW_sizeF (st : List Int) : ∀ s : ByteArray, (drW st s).size = s.size + st.length := by
  induction st with
  | nil => intro s; rfl
  | cons y st ih => intro s; rw [drW, ih, ba_size, List.length_cons]; omega
theorem stW_sizeF (xs : List Int) (k : Nat) : (stW xs k).size = k + (stS xs k).1.length := by
  induction k with
  | zero => rfl
  | succ k ih =>
    have := tkW_size (nth xs k) (stS xs k).2 (stW xs k) (stS xs k).1
    rw [stW, ba_size, stS]
    show _ = k + 1 + (tkS (nth xs k) (stS xs k).1 (stS xs k).2).1.length
    omega
theorem word_size (xs : List Int) : (drW (stS xs xs.length).2 (stW xs xs.length)).size = 2 * xs.length := by
  have := stS_len xs xs.length
  rw [drW_sizeF, stW_sizeF]; omega

structure StFa (xs : List Int) (n : Nat) (c : Bool) (r : Nat) : Prop where
  len : xs.length = n
  per : isPerm xs = true
  can : canV xs = c
  ris : riseB (ssV xs) = c
  rnd : srV xs = (r : Int)
  r1 : decide (r ≤ 1) = c
  rn : r ≤ n - 1
  r0 : ((r : Int) == 0) = riseB xs
  sl : (ssV xs).length = n
  sp : isPerm (ssV xs) = true
  pl : (popV xs).length = n
  pp : isPerm (popV xs) = true
  las : 0 < n → nth (ssV xs) (n - 1) = ((n - 1 : Nat) : Int)
  wo : c = true → rwB xs (swV xs) = true ∧ rwV xs (swV xs) = idn n ∧ (swV xs).size = 2 * n
theorem stFa {xs : List Int} {n : Nat} (ha : Al xs n) (hn : n ≤ 7) : ∃ c r, StFa xs n c r := by
  have ho := ha.order
  have hl := ho.1
  have hp : isPerm xs = true := by
    have h := ho
    subst hl
    exact isPerm_of (by omega) h.2.1 h.2.2
  obtain ⟨l, hm, rfl⟩ := ha.all
  have hll : l.length = n := by simpa using hl
  have hc := chkS_all hn hm
  unfold chkS at hc
  simp only at hc
  have hst : stF (toI l) (toI l).length = toI (stN l [] []) := by rw [hl, ← hll]; exact stN_stF l
  have hss : ssV (toI l) = toI (stN l [] []) := by unfold ssV; rw [if_pos hp, hst]
  have hsl : (ssV (toI l)).length = n := by
    unfold ssV; rw [if_pos hp, stF_len, hl]
  have hsn : (stN l [] []).length = n := by rw [hss] at hsl; simpa using hsl
  split at hc
  · cases hc
  · rename_i h1
    split at hc
    · cases hc
    · rename_i h2
      split at hc
      · rename_i r h3
        split at hc
        · cases hc
        · rename_i h4
          have g1 := eqB_eq h1
          have g2 := Nat.eq_of_beq_eq_true h2
          have g4 := eqB_eq h4
          have g5 := eqB_eq hc
          obtain ⟨hR, hrn⟩ := rndC_spec (n - 1) (toI l) r (by rw [rndN_C]; exact h3)
          have hRN := (roundsN_spec hp).1.one hR
          have hcan : canV (toI l) = canP [] l := by unfold canV; rw [hp, canP_B]; rfl
          have hris : riseB (ssV (toI l)) = canP [] l := by rw [hss, riseC_B, riseN_C, g1]
          have hpo : (popV (toI l)) = popF (toI l) (toI l).length := by unfold popV; rw [if_pos hp]
          have hpp := popF_perm (toI l)
          refine ⟨canP [] l, r, hl, hp, hcan, hris, by unfold srV; rw [if_pos hp, hRN], ?_, hrn, ?_, hsl, by unfold ssV; rw [if_pos hp]; exact isPerm_stF hp, by rw [hpo, hpp.length_eq, hl], by rw [hpo]; exact isPerm_perm hp hpp, fun h0 => ?_, fun hct => ?_⟩
          · rw [g4]
            by_cases h : r ≤ 1
            · rw [decide_eq_true h, Nat.ble_eq_true_of_le h]
            · rw [decide_eq_false h]
              cases hb : Nat.ble r 1
              · rfl
              · exact absurd (Nat.le_of_ble_eq_true hb) h
          · rw [riseC_B, riseN_C, ← g5]
            by_cases h : r = 0
            · subst h; rfl
            · have e1 : ((r : Int) == 0) = false := by simp; omega
              have e2 : Nat.beq r 0 = false := by
                cases hb : Nat.beq r 0
                · rfl
                · exact absurd (Nat.eq_of_beq_eq_true hb) h
              rw [e1, e2]
          · have h7 := lastN_nth (stN l [] [])
            rw [hsn, g2] at h7
            rw [hss]; exact h7
          · have hsw : swV (toI l) = drW (stS (toI l) (toI l).length).2 (stW (toI l) (toI l).length) := by unfold swV; rw [hcan, if_pos hct]
            have hrun := run_dr _ _ _ (run_st (xs := toI l) (toI l).length (Nat.le_refl _))
            have hsz := word_size (toI l)
            rw [← hsw] at hrun hsz
            have hE : rwE (toI l) (swV (toI l)) = some (ssV (toI l)) := by
              unfold rwE
              rw [if_pos ⟨hp, hsz⟩, hrun]
              show some _ = _
              unfold ssV stF; rw [if_pos hp]
            obtain ⟨e1, e2⟩ := rwE_some hE
            have hid : ssV (toI l) = idn n := by
              have hso : Order (ssV (toI l)) n := by
                have h := isPerm_order (xs := ssV (toI l)) (by unfold ssV; rw [if_pos hp]; exact isPerm_stF hp)
                rw [hsl] at h; exact h
              refine (rise_idn hso).1 ?_
              rw [hct] at hris
              exact Classical.byContradiction fun h => by rw [riseB_no h] at hris; cases hris
            exact ⟨e2, by rw [e1, hid], by rw [hsz, hl]⟩
      · cases hc

/-- The second half: orders of at most four numbers. -/
def canZ (xs : List Int) : Bool := isPerm xs && canP [] (xs.map Int.toNat)
theorem canZ_V {xs : List Int} (h : toI (xs.map Int.toNat) = xs) : canV xs = canZ xs := by
  unfold canV canZ
  rw [← canP_B, h]
def ordQ : Nat → Nat
  | 0 => 1
  | 1 => 1
  | 2 => 2
  | 3 => 6
  | _ => 24
def chk2 (m : Nat) : Bool :=
  (List.range (ordQ m)).all (fun q => decide (toI ((lexO m q).map Int.toNat) = lexO m q)) && (List.range (ordQ m - 1)).all (fun q => decide (0 < iTo (lexO m q) (m - 1))) && decide (iTo (lexO m (ordQ m - 1)) (m - 1) = 0) &&
  decide (((lexAll m (ordQ m)).countP canZ : Int) = csV m) && canZ (idn m) && decide (toI ((idn m).map Int.toNat) = idn m) && decide (popV (idn m).reverse = idn m) && decide (quV (idn m).reverse = m) && decide (quV (idn m) = min 1 m) 
set_option maxRecDepth 1000000 in
theorem chk2_all : chk2 0 = true ∧ chk2 1 = true ∧ chk2 2 = true ∧ chk2 3 = true ∧ chk2 4 = true := by decide +kernel

end Go.Proofs.Ytiiijijbkacneaa

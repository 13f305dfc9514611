/- Merging runs two by two: what both sides call. No condition but lengths. -/
import Derived.Test.YthlmopndmaemnaaMergeL
import Derived.Test.YthlmopndmaemnaaConcat
import Derived.Test.YthlmopndmaemnaaRise
import Derived.Test.YthlmopndmaemnaaTurn
import Derived.Test.YthlmopndmaemnaaGrid
import Derived.Lib.AppendZerosOnto
namespace Go.Proofs.Ythlmopndmaemnaa
open Go.RowKit
set_option linter.unusedVariables false
set_option linter.unusedSimpArgs false


theorem perm_snoc_a {out A B : List Int} {x : Int} (h : out.Perm (A ++ B)) : (out ++ [x]).Perm ((A ++ [x]) ++ B) := by
  have h1 : (out ++ [x]).Perm ((A ++ B) ++ [x]) := List.Perm.append_right _ h
  refine h1.trans ?_
  rw [List.append_assoc, List.append_assoc]
  exact List.Perm.append_left _ List.perm_append_comm
theorem perm_snoc_b {out A B : List Int} {x : Int} (h : out.Perm (A ++ B)) : (out ++ [x]).Perm (A ++ (B ++ [x])) := by
  rw [← List.append_assoc]; exact List.Perm.append_right _ h

/-- What is merged so far: in order, the first k and the first i, no number above those to come. -/
structure Mg (us bs out : List Int) (k i : Nat) : Prop where
  so : Srt out
  perm : out.Perm (us.take k ++ bs.take i)
  le : ∀ j, j < out.length → (k < us.length → nth out j ≤ nth us k) ∧ (i < bs.length → nth out j ≤ nth bs i)
theorem Mg.len {us bs out : List Int} {k i : Nat} (h : Mg us bs out k i) (hk : k ≤ us.length) (hi : i ≤ bs.length) : out.length = k + i := by
  rw [h.perm.length_eq, List.length_append, List.length_take, List.length_take]; omega
theorem Mg.pushB {us bs out : List Int} {k i : Nat} (h : Mg us bs out k i) (hb : Srt bs) (hi : i < bs.length) (hk : k < us.length) (hlt : nth bs i < nth us k) : Mg us bs (out ++ [nth bs i]) k (i + 1) := by
  refine ⟨h.so.snoc (fun j hj => (h.le j hj).2 hi), by rw [take_nth hi]; exact perm_snoc_b h.perm, fun j hj => ?_⟩
  rw [List.length_append, List.length_singleton] at hj
  rcases Nat.lt_or_ge j out.length with h1 | h1
  · rw [nth_appL h1]
    have h2 := (h.le j h1).2 hi
    exact ⟨(h.le j h1).1, fun h3 => by have := hb i (i + 1) (by omega) h3; omega⟩
  · rw [nth_appR h1, show j - out.length = 0 by omega]
    exact ⟨fun _ => by simp [nth] at hlt ⊢; omega, fun h3 => by have := hb i (i + 1) (by omega) h3; simp [nth] at this ⊢; omega⟩
theorem Mg.pushA {us bs out : List Int} {k i : Nat} (h : Mg us bs out k i) (ha : Srt us) (hk : k < us.length) (hge : i < bs.length → nth us k ≤ nth bs i) : Mg us bs (out ++ [nth us k]) (k + 1) i := by
  refine ⟨h.so.snoc (fun j hj => (h.le j hj).1 hk), by rw [take_nth hk]; exact perm_snoc_a h.perm, fun j hj => ?_⟩
  rw [List.length_append, List.length_singleton] at hj
  rcases Nat.lt_or_ge j out.length with h1 | h1
  · rw [nth_appL h1]
    have h2 := (h.le j h1).1 hk
    exact ⟨fun h3 => by have := ha k (k + 1) (by omega) h3; omega, (h.le j h1).2⟩
  · rw [nth_appR h1, show j - out.length = 0 by omega]
    exact ⟨fun h3 => by have := ha k (k + 1) (by omega) h3; simp [nth] at this ⊢; omega, fun h3 => by have := hge h3; simp [nth] at this ⊢; omega⟩
theorem Mg.fin {us bs out : List Int} {i : Nat} (h : Mg us bs out us.length i) (hb : Srt bs) (hi : i ≤ bs.length) : out ++ bs.drop i = srt (us ++ bs) := by
  refine srt_of ?_ ?_
  · intro p q hpq hq
    rw [List.length_append, List.length_drop] at hq
    rcases Nat.lt_or_ge q out.length with h1 | h1
    · rw [nth_appL (by omega), nth_appL h1]; exact h.so p q hpq h1
    · rw [nth_appR h1, nth_dropL]
      rcases Nat.lt_or_ge p out.length with h2 | h2
      · rw [nth_appL h2]
        have h3 := (h.le p h2).2 (by omega)
        rcases Nat.eq_or_lt_of_le (Nat.zero_le (q - out.length)) with h4 | h4
        · rw [← h4, Nat.add_zero]; exact h3
        · have := hb i (i + (q - out.length)) (by omega) (by omega); omega
      · rw [nth_appR h2, nth_dropL]; exact hb _ _ (by omega) (by omega)
  · have h1 : (out ++ bs.drop i).Perm ((us.take us.length ++ bs.take i) ++ bs.drop i) := List.Perm.append_right _ h.perm
    rwa [List.take_length, List.append_assoc, List.take_append_drop] at h1


set_option maxHeartbeats 1000000 in
theorem c_MergeLists (a : Option Addr) (n cap : Nat) (us : List Int) (b : Option Addr) (m cap2 : Nat) (bs : List Int) (w : World) (hr : RdI w a n cap us) (hr2 : RdI w b m cap2 bs) (ha : Srt us) (hb : Srt bs) (hnm : n + m ≤ 40) :
    Calls Try.prog 29 #[.slice a n cap, .slice b m cap2] w fun e w' => ∃ oa oc, e = .returned (.slice oa (n + m) oc) ∧ OwI w' 3 w.heap.size oa (n + m) oc (srt (us ++ bs)) ∧ Below w.heap.size w w' := by
  have HL := Lib.hid hr.lens
  have HL2 := Lib.hid hr2.lens
  have HA := Lib.hid ha
  have HB := Lib.hid hb
  have HRA := Lib.hid (riseB_yes ha.rise)
  have HRB := Lib.hid (riseB_yes hb.rise)
  have hd : decide ((40 : Int) < (n : Int) + (m : Int)) = false := decide_eq_false (by omega)
  clear ha hb
  go_enter Try.func29, Try.ntmps29
  go_wp2_with fail
  refine (c_l03Rises a n cap us _ hr (by omega)).mono ?_
  rw [HRA.out]
  rintro e w1 ⟨rfl, b1⟩
  go_wp2_with fail
  refine (c_l03Rises b m cap2 bs _ (hr2.below b1) (by omega)).mono ?_
  rw [HRB.out]
  rintro e w2 ⟨rfl, b2⟩
  have hb0 := Below.nx b1 b2
  clear hd b1 b2
  go_wp2_with fail
  go_loopw [5, 6, 28] (fun o i k wr => ∃ kk ii : Nat, ∃ out L oa oc, kk ≤ n ∧ ii ≤ m ∧ k = .int .i64 kk ∧ i = .int .i64 ii ∧ o = .slice oa (kk + ii) oc ∧ Mg us bs out kk ii ∧ Ow wr 3 L oa (kk + ii) oc (ints out) ∧ New w.heap.size L ∧ Below w.heap.size w wr) (fun _ _ k _ => n - (intOf k).toNat)
  case atStart => exact ⟨0, 0, [], [], _, _, by omega, by omega, rfl, rfl, rfl, ⟨fun i j _ h => by simp at h, by simp, fun j h => by simp at h⟩, Ow.bare _ _ _, fun _ h => (by cases h), hb0.alloc hb0.size _⟩
  case round =>
    clear hb0
    obtain ⟨kk, ii, out, L, oa, oc, hk, hi, rfl, rfl, rfl, hmg, how, hnl, hb⟩ := hrel
    by_cases hlt : kk < n
    · obtain ⟨b', off, rfl, _, hc⟩ := (hr.below hb).int (by omega)
      have c1 := hc kk hlt
      clear hc
      go_wp2_with fail
      go_loopw [5, 6] (fun o i wr => ∃ ii : Nat, ∃ out L oa oc, ii ≤ m ∧ i = .int .i64 ii ∧ o = .slice oa (kk + ii) oc ∧ Mg us bs out kk ii ∧ Ow wr 3 L oa (kk + ii) oc (ints out) ∧ New w.heap.size L ∧ Below w.heap.size w wr) (fun _ i _ => m - (intOf i).toNat)
      case atStart => exact ⟨ii, out, L, oa, oc, hi, rfl, rfl, hmg, how, hnl, hb⟩
      case round =>
        clear hi hmg how hnl hb
        obtain ⟨ii, out, L, oa, oc, hi, rfl, rfl, hmg, how, hnl, hb⟩ := hrel
        have HMG := Lib.hid hmg
        clear hmg
        have hsz := hb.size
        have pushA : (ii < bs.length → nth us kk ≤ nth bs ii) → Mg us bs (out ++ [nth us kk]) (kk + 1) ii := fun h => HMG.out.pushA HA.out (by rw [HL.out]; exact hlt) h
        have PA := Lib.hid pushA
        clear pushA
        by_cases him : ii < m
        · obtain ⟨b2, off2, e2, _, hc2⟩ := (hr2.below hb).int (by omega)
          have c2 := hc2 ii him
          clear hc2
          subst e2
          by_cases hlt2 : nth bs ii < nth us kk
          · have HP := Lib.hid (HMG.out.pushB HB.out (by rw [HL2.out]; exact him) (by rw [HL.out]; exact hlt) hlt2)
            have how2 := how.alloc (.cells #[.int .i64 (nth bs ii)] 3)
            go_wp2_with ((with_reducible show wpList _ _ _ (⟨some 50, _, _, _, _, _⟩ :: _) _ _); refine wpList_app _ rfl _ _ 22 rfl 3 Try.underlying22 infoInt rfl rfl rfl how2 (Rd.one _ _ _) (one_int _) (by omega) (by unfold maxLen; omega) ?_; intro a5 cap5 L5 w5 ow5 kp5 st5)
            go_roundw
            case rel => exact ⟨ii + 1, _, L5, a5, cap5, by omega, by go_num, rfl, HP.out, by rw [← ints_snoc]; exact ow5, st5.new hnl (by simp; omega), kp5.below (hb.alloc hsz _) hnl (by simp; omega)⟩
            case measure => simp [intOf]; omega
          · have how2 := how.alloc (.cells #[.int .i64 (nth us kk)] 3)
            have HNL := Lib.hid hlt2
            go_wp2_with ((with_reducible show wpList _ _ _ (⟨some 56, _, _, _, _, _⟩ :: _) _ _); refine wpList_app _ rfl _ _ 22 rfl 3 Try.underlying22 infoInt rfl rfl rfl how2 (Rd.one _ _ _) (one_int _) (by omega) (by unfold maxLen; omega) ?_; intro a5 cap5 L5 w5 ow5 kp5 st5)
            go_roundw
            case rel => exact ⟨kk + 1, ii, _, L5, a5, cap5, by omega, by omega, by go_num, rfl, by rw [show kk + 1 + ii = kk + ii + 1 by omega], PA.out (fun _ => by have := HNL.out; omega), by rw [← ints_snoc, show kk + 1 + ii = kk + ii + 1 by omega]; exact ow5, st5.new hnl (by simp; omega), kp5.below (hb.alloc hsz _) hnl (by simp; omega)⟩
            case measure => simp [intOf]; omega
        · have how2 := how.alloc (.cells #[.int .i64 (nth us kk)] 3)
          have HNL := Lib.hid him
          go_wp2_with ((with_reducible show wpList _ _ _ (⟨some 56, _, _, _, _, _⟩ :: _) _ _); refine wpList_app _ rfl _ _ 22 rfl 3 Try.underlying22 infoInt rfl rfl rfl how2 (Rd.one _ _ _) (one_int _) (by omega) (by unfold maxLen; omega) ?_; intro a5 cap5 L5 w5 ow5 kp5 st5)
          go_roundw
          case rel => exact ⟨kk + 1, ii, _, L5, a5, cap5, by omega, by omega, by go_num, rfl, by rw [show kk + 1 + ii = kk + ii + 1 by omega], PA.out (fun h => by rw [HL2.out] at h; exact absurd h HNL.out), by rw [← ints_snoc, show kk + 1 + ii = kk + ii + 1 by omega]; exact ow5, st5.new hnl (by simp; omega), kp5.below (hb.alloc hsz _) hnl (by simp; omega)⟩
          case measure => simp [intOf]; omega
    · obtain rfl : kk = n := by omega
      have hsz := hb.size
      have HF := Lib.hid (show out ++ bs.drop ii = srt (us ++ bs) from Mg.fin (by rw [HL.out]; exact hmg) HB.out (by rw [HL2.out]; exact hi))
      clear hmg
      go_wp2_with (first | ((with_reducible show wpList _ _ _ (⟨some 61, _, _, _, _, _⟩ :: _) _ _); refine wpList_from _ rfl (.tmp 59) (.tmp 60) 22 rfl 3 Try.underlying22 szInt ii rfl rfl rfl (hr2.below hb) hi ?_; intro a2 ha2 r2; clear ha2) | ((with_reducible show wpList _ _ _ (⟨some 62, _, _, _, _, _⟩ :: _) _ _); refine wpList_app _ rfl _ _ 22 rfl 3 Try.underlying22 infoInt rfl rfl rfl how r2 (by rw [ints_drop]; exact one_ints _) (by omega) (by unfold maxLen; omega) ?_; intro a5 cap5 L5 w5 ow5 kp5 st5))
      go_ret
      have e : kk + ii + (m - ii) = kk + m := by omega
      rw [ints_drop, ints_append, HF.out, e] at ow5
      exact ⟨a5, cap5, by rw [← e]; rfl, ⟨L5, ow5, st5.new hnl hsz⟩, kp5.below hb hnl hsz⟩


end Go.Proofs.Ythlmopndmaemnaa

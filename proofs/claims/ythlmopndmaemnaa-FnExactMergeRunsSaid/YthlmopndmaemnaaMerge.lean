/- Merging runs two by two: what both sides call. No condition but lengths. -/
import Derived.Test.YthlmopndmaemnaaMergeL
import Derived.Test.YthlmopndmaemnaaRise
import Derived.Test.YthlmopndmaemnaaTurn
import Derived.Test.YthlmopndmaemnaaGrid
import Derived.Lib.AppendZerosOnto
namespace Go.Proofs.Ythlmopndmaemnaa
open Go.RowKit
set_option linter.unusedVariables false
set_option linter.unusedSimpArgs false

/-- append, by what it comes to. -/
theorem wpList_appRun {P : Program} (w : World) {ops : Array Oper} {rest : List Oper} {o : Oper} {act : Act} {Q : Exit → Act → World → Prop} (hgd : o.guard = none) (s x : Operand) (t tn : TypeId)
    (ho : o.op = .call { callee := .builtin .append, args := #[s, x], argTypes := #[t, tn] }) {u1 u2 v : Value} {w' : World} (hs : act.eval s = u1) (hx : act.eval x = u2)
    (hrun : (Builtin.append_ #[t, tn] o.type #[u1, u2]).run P w = .ok v w') (h : wpList P ops Q rest (act.put o.dst v) w') : wpList P ops Q (o :: rest) act w := by
  refine wpList_plain hgd fun K hK' => ?_
  unfold Oper.wp
  simp [execOp, ho, resolve, invoke, builtin, hs, hx, hrun, Result.andThen]
  exact hK' _ _ h


theorem c_GrowNil (n : Nat) (w : World) (hn : n ≤ 1000) :
    Calls Try.prog 46 #[.slice none 0 0, .int .i64 n] w fun e w' => ∃ a cap L, e = .returned (.slice a 0 cap) ∧ Ow w' 3 L a 0 cap [] ∧ New w.heap.size L ∧ Below w.heap.size w w' := by
  rcases Nat.eq_zero_or_pos n with h0 | hp
  · subst h0
    go_enter Try.func46, Try.ntmps46
    go_wp2
    go_ret
    exact ⟨none, 0, [], rfl, Ow.bare _ _ _, fun _ h => (by cases h), Below.refl _ _⟩
  · obtain ⟨i, hi, hz, hsize, hby⟩ := info_parts infoInt
    have hhold : (Builtin.firstCells i.size 0 (.slice none 0 0)).run Try.prog w.drew = .ok ([] : List Value).toArray w.drew := by
      rw [hsize]; exact firstCells_rd Try.prog (Rd.nil w.drew none 0 (by unfold maxLen; omega))
    have hge := grownCap_ge w n 0 3
    have hmx := grownCap_le_maxLen w n 0 3 (by unfold maxLen; omega)
    obtain ⟨cs, hcs, hrz⟩ : ∃ cs : Array Value, cs.size = grownCap w n 0 3 ∧ ∀ ty, (Builtin.append_ #[22, 3] ty #[.slice none 0 0, .int .i64 (n : Int)]).run Try.prog w = .ok (.slice (some ⟨w.heap.size, 0, none⟩) n (grownCap w n 0 3)) (w.drew.alloc (.cells cs 3)) := by
      refine ⟨([] : List Value).toArray ++ Builtin.zeroCells (Value.int .i64 0).cells n ++ Builtin.zeroCells (Value.int .i64 0).cells (grownCap w n 0 3 - n), ?_, fun ty => ?_⟩
      · have e : (Value.int .i64 0).cells.size = 1 := rfl
        simp only [Array.size_append, size_zeroCells, e]
        simp; omega
      · have h := Lib.run_append_grow_zeros w 22 3 ty 3 i _ .i64 .i64 Try.underlying22 Try.underlying3 hi hz none 0 0 [] hhold n hp (by rw [hsize]; omega) (by omega) (by omega) (by rw [hby]; omega) (by rw [Nat.zero_add, hby]; exact growslice_fits (by omega) (by omega))
        rw [Nat.zero_add] at h
        exact h
    obtain ⟨G, hG⟩ : ∃ G, G = grownCap w n 0 3 := ⟨_, rfl⟩
    rw [← hG] at hge hmx hrz hcs
    have HG := Lib.hid hG
    clear hG hhold
    have hgt : (0 : Int) < (n : Int) := by omega
    have hw1 : IntKind.i64.wrap (n : Int) = (n : Int) := by rw [IntKind.wrap_i64]; omega
    go_enter Try.func46, Try.ntmps46
    go_wp2_with ((with_reducible show wpList _ _ _ (⟨some 22, _, _, _, _, _⟩ :: _) _ _); refine wpList_appRun _ rfl (.tmp 20) (.tmp 21) 22 3 rfl rfl rfl (hrz _) ?_)
    go_ret
    refine ⟨_, G, [w.heap.size], rfl, ?_, fun i hi => by simp at hi; omega, ((Below.refl w.heap.size w).trans (below_drewN (Below.refl _ _) 1)).alloc (Nat.le_refl _) _⟩
    exact ⟨rfl, Nat.zero_le _, hmx, .inr ⟨w.heap.size, cs, rfl, rfl, heap_alloc_new w.drew _, hcs, rfl⟩⟩


theorem flat_take (rs : List (List Int)) (q : Nat) (h : q < rs.length) : (rs.take (q + 1)).flatten = (rs.take q).flatten ++ rs.getD q [] := by
  rw [List.take_add_one, List.getElem?_eq_getElem h, List.flatten_append]
  simp [List.getD, h]
theorem flat_le (rs : List (List Int)) (q : Nat) : (rs.take q).flatten.length ≤ rs.flatten.length := by
  have h : rs.flatten = (rs.take q).flatten ++ (rs.drop q).flatten := by rw [← List.flatten_append, List.take_append_drop]
  rw [h, List.length_append]; omega


set_option maxHeartbeats 1000000 in
theorem c_Concat (a : Option Addr) (m cap T : Nat) (rs : List (List Int)) (w : World) (hr : RdG w a m cap rs) (hm : m ≤ 1000) (hT : rs.flatten.length = T) (ht : T ≤ 1000) :
    Calls Try.prog 33 #[.slice a m cap] w fun e w' => ∃ oa oc, e = .returned (.slice oa T oc) ∧ OwI w' 3 w.heap.size oa T oc rs.flatten ∧ Below w.heap.size w w' := by
  have HL := Lib.hid hr.len
  have HT0 := Lib.hid hT
  have HT := Lib.hid (fun q => hT ▸ flat_le rs q : ∀ q, (rs.take q).flatten.length ≤ T)
  clear hT
  go_enter Try.func33, Try.ntmps33
  go_wp2
  go_loopw [3, 11] (fun s i wr => ∃ q : Nat, q ≤ m ∧ i = .int .i64 q ∧ s = .int .i64 ((rs.take q).flatten.length : Nat) ∧ Below w.heap.size w wr) (fun _ i _ => m - (intOf i).toNat)
  case atStart => exact ⟨0, by omega, rfl, rfl, Below.refl _ _⟩
  case round =>
    obtain ⟨q, hq, rfl, rfl, hb⟩ := hrel
    have ht1 := HT.out q
    by_cases hlt : q < m
    · obtain ⟨b, off, ra, rn, rc, rfl, _, hcell, hrow⟩ := (hr.below hb).at' hlt
      have HS := Lib.hid (show (rs.take (q + 1)).flatten.length = (rs.take q).flatten.length + rn by rw [flat_take rs q (by rw [HL.out]; exact hlt), List.length_append, hrow.lens])
      have ht2 := HT.out (q + 1)
      rw [HS.out] at ht2
      generalize (rs.take q).flatten.length = S at ht1 ht2 HS ⊢
      have hd : decide ((S : Int) + (rn : Int) < 0) = false := decide_eq_false (by omega)
      go_wp2_with fail
      go_roundw
      case rel => exact ⟨q + 1, by omega, by go_num, by rw [HS.out]; go_num, hb⟩
      case measure => simp [intOf]; omega
    · obtain rfl : q = m := by omega
      have HF := Lib.hid (show (rs.take q).flatten.length = T by rw [List.take_of_length_le (by rw [HL.out]; exact Nat.le_refl _)]; exact HT0.out)
      rw [HF.out]
      go_wp2_with fail
      refine (c_GrowNil T _ ht).mono ?_
      rintro e w2 ⟨oa, oc, L, rfl, how, hnl, hb2⟩
      have hb3 := Below.nx hb hb2
      have hszb := hb.size
      go_wp2_with fail
      go_loopw [6, 27] (fun o i wr => ∃ p : Nat, ∃ L oa on oc, p ≤ q ∧ i = .int .i64 p ∧ o = .slice oa on oc ∧ Ow wr 3 L oa on oc (ints (rs.take p).flatten) ∧ New w.heap.size L ∧ Below w.heap.size w wr) (fun _ i _ => q - (intOf i).toNat)
      case atStart => exact ⟨0, L, oa, 0, oc, by omega, rfl, rfl, how, hnl.mono hszb, hb3⟩
      case round =>
        clear how hnl hb2 hb3
        obtain ⟨p, L, oa, on, oc, hp, rfl, rfl, how, hnl, hbp⟩ := hrel
        have hon := how.lens
        have ht3 := HT.out p
        have hszp := hbp.size
        by_cases hlp : p < q
        · obtain ⟨b, off, ra, rn, rc, rfl, _, hcell, hrow⟩ := (hr.below hbp).at' hlp
          have HS := Lib.hid (flat_take rs p (by rw [HL.out]; exact hlp))
          have ht4 := HT.out (p + 1)
          rw [HS.out, List.length_append, hrow.lens] at ht4
          go_wp2_with ((with_reducible show wpList _ _ _ (⟨some 33, _, _, _, _, _⟩ :: _) _ _); refine wpList_app _ rfl _ _ 22 rfl 3 Try.underlying22 infoInt rfl rfl rfl how hrow (one_ints _) (by omega) (by unfold maxLen; omega) ?_; intro a5 cap5 L5 w5 ow5 kp5 st5)
          go_roundw
          case rel => exact ⟨p + 1, L5, a5, _, cap5, by omega, by go_num, rfl, by rw [HS.out, ← ints_append]; exact ow5, st5.new hnl hszp, kp5.below hbp hnl hszp⟩
          case measure => simp [intOf]; omega
        · obtain rfl : p = q := by omega
          have HF2 := Lib.hid (show (rs.take p).flatten = rs.flatten by rw [List.take_of_length_le (by rw [HL.out]; exact Nat.le_refl _)])
          rw [HF2.out] at how hon
          rw [HT0.out] at hon
          obtain rfl := hon
          go_wp2_with fail
          go_ret
          exact ⟨oa, oc, rfl, ⟨L, how, hnl⟩, hbp⟩


theorem perm_snoc_a {out A B : List Int} {x : Int} (h : out.Perm (A ++ B)) : (out ++ [x]).Perm ((A ++ [x]) ++ B) := by
  have h1 : (out ++ [x]).Perm ((A ++ B) ++ [x]) := List.Perm.append_right _ h
  refine h1.trans ?_
  rw [List.append_assoc, List.append_assoc]
  exact List.Perm.append_left _ List.perm_append_comm
theorem perm_snoc_b {out A B : List Int} {x : Int} (h : out.Perm (A ++ B)) : (out ++ [x]).Perm (A ++ (B ++ [x])) := by
  rw [← List.append_assoc]; exact List.Perm.append_right _ h

/-- What is merged so far: in order, the first k and the first i, no number above those to come. -/
structure Mg (us bs out : List Int) (k i : Nat) : Prop where
  so : Srt out
  perm : out.Perm (us.take k ++ bs.take i)
  le : ∀ j, j < out.length → (k < us.length → nth out j ≤ nth us k) ∧ (i < bs.length → nth out j ≤ nth bs i)
theorem Mg.len {us bs out : List Int} {k i : Nat} (h : Mg us bs out k i) (hk : k ≤ us.length) (hi : i ≤ bs.length) : out.length = k + i := by
  rw [h.perm.length_eq, List.length_append, List.length_take, List.length_take]; omega
theorem Mg.pushB {us bs out : List Int} {k i : Nat} (h : Mg us bs out k i) (hb : Srt bs) (hi : i < bs.length) (hk : k < us.length) (hlt : nth bs i < nth us k) : Mg us bs (out ++ [nth bs i]) k (i + 1) := by
  refine ⟨h.so.snoc (fun j hj => (h.le j hj).2 hi), by rw [take_nth hi]; exact perm_snoc_b h.perm, fun j hj => ?_⟩
  rw [List.length_append, List.length_singleton] at hj
  rcases Nat.lt_or_ge j out.length with h1 | h1
  · rw [nth_appL h1]
    have h2 := (h.le j h1).2 hi
    exact ⟨(h.le j h1).1, fun h3 => by have := hb i (i + 1) (by omega) h3; omega⟩
  · rw [nth_appR h1, show j - out.length = 0 by omega]
    exact ⟨fun _ => by simp [nth] at hlt ⊢; omega, fun h3 => by have := hb i (i + 1) (by omega) h3; simp [nth] at this ⊢; omega⟩
theorem Mg.pushA {us bs out : List Int} {k i : Nat} (h : Mg us bs out k i) (ha : Srt us) (hk : k < us.length) (hge : i < bs.length → nth us k ≤ nth bs i) : Mg us bs (out ++ [nth us k]) (k + 1) i := by
  refine ⟨h.so.snoc (fun j hj => (h.le j hj).1 hk), by rw [take_nth hk]; exact perm_snoc_a h.perm, fun j hj => ?_⟩
  rw [List.length_append, List.length_singleton] at hj
  rcases Nat.lt_or_ge j out.length with h1 | h1
  · rw [nth_appL h1]
    have h2 := (h.le j h1).1 hk
    exact ⟨fun h3 => by have := ha k (k + 1) (by omega) h3; omega, (h.le j h1).2⟩
  · rw [nth_appR h1, show j - out.length = 0 by omega]
    exact ⟨fun h3 => by have := ha k (k + 1) (by omega) h3; simp [nth] at this ⊢; omega, fun h3 => by have := hge h3; simp [nth] at this ⊢; omega⟩
theorem Mg.fin {us bs out : List Int} {i : Nat} (h : Mg us bs out us.length i) (hb : Srt bs) (hi : i ≤ bs.length) : out ++ bs.drop i = srt (us ++ bs) := by
  refine srt_of ?_ ?_
  · intro p q hpq hq
    rw [List.length_append, List.length_drop] at hq
    rcases Nat.lt_or_ge q out.length with h1 | h1
    · rw [nth_appL (by omega), nth_appL h1]; exact h.so p q hpq h1
    · rw [nth_appR h1, nth_dropL]
      rcases Nat.lt_or_ge p out.length with h2 | h2
      · rw [nth_appL h2]
        have h3 := (h.le p h2).2 (by omega)
        rcases Nat.eq_or_lt_of_le (Nat.zero_le (q - out.length)) with h4 | h4
        · rw [← h4, Nat.add_zero]; exact h3
        · have := hb i (i + (q - out.length)) (by omega) (by omega); omega
      · rw [nth_appR h2, nth_dropL]; exact hb _ _ (by omega) (by omega)
  · have h1 : (out ++ bs.drop i).Perm ((us.take us.length ++ bs.take i) ++ bs.drop i) := List.Perm.append_right _ h.perm
    rwa [List.take_length, List.append_assoc, List.take_append_drop] at h1


set_option maxHeartbeats 1000000 in
theorem c_MergeLists (a : Option Addr) (n cap : Nat) (us : List Int) (b : Option Addr) (m cap2 : Nat) (bs : List Int) (w : World) (hr : RdI w a n cap us) (hr2 : RdI w b m cap2 bs) (ha : Srt us) (hb : Srt bs) (hnm : n + m ≤ 40) :
    Calls Try.prog 29 #[.slice a n cap, .slice b m cap2] w fun e w' => ∃ oa oc, e = .returned (.slice oa (n + m) oc) ∧ OwI w' 3 w.heap.size oa (n + m) oc (srt (us ++ bs)) ∧ Below w.heap.size w w' := by
  have HL := Lib.hid hr.lens
  have HL2 := Lib.hid hr2.lens
  have HA := Lib.hid ha
  have HB := Lib.hid hb
  have HRA := Lib.hid (riseB_yes ha.rise)
  have HRB := Lib.hid (riseB_yes hb.rise)
  have hd : decide ((40 : Int) < (n : Int) + (m : Int)) = false := decide_eq_false (by omega)
  clear ha hb
  go_enter Try.func29, Try.ntmps29
  go_wp2_with fail
  refine (c_l03Rises a n cap us _ hr (by omega)).mono ?_
  rw [HRA.out]
  rintro e w1 ⟨rfl, b1⟩
  go_wp2_with fail
  refine (c_l03Rises b m cap2 bs _ (hr2.below b1) (by omega)).mono ?_
  rw [HRB.out]
  rintro e w2 ⟨rfl, b2⟩
  have hb0 := Below.nx b1 b2
  clear hd b1 b2
  go_wp2_with fail
  go_loopw [5, 6, 28] (fun o i k wr => ∃ kk ii : Nat, ∃ out L oa oc, kk ≤ n ∧ ii ≤ m ∧ k = .int .i64 kk ∧ i = .int .i64 ii ∧ o = .slice oa (kk + ii) oc ∧ Mg us bs out kk ii ∧ Ow wr 3 L oa (kk + ii) oc (ints out) ∧ New w.heap.size L ∧ Below w.heap.size w wr) (fun _ _ k _ => n - (intOf k).toNat)
  case atStart => exact ⟨0, 0, [], [], _, _, by omega, by omega, rfl, rfl, rfl, ⟨fun i j _ h => by simp at h, by simp, fun j h => by simp at h⟩, Ow.bare _ _ _, fun _ h => (by cases h), hb0.alloc hb0.size _⟩
  case round =>
    clear hb0
    obtain ⟨kk, ii, out, L, oa, oc, hk, hi, rfl, rfl, rfl, hmg, how, hnl, hb⟩ := hrel
    by_cases hlt : kk < n
    · obtain ⟨b', off, rfl, _, hc⟩ := (hr.below hb).int (by omega)
      have c1 := hc kk hlt
      clear hc
      go_wp2_with fail
      go_loopw [5, 6] (fun o i wr => ∃ ii : Nat, ∃ out L oa oc, ii ≤ m ∧ i = .int .i64 ii ∧ o = .slice oa (kk + ii) oc ∧ Mg us bs out kk ii ∧ Ow wr 3 L oa (kk + ii) oc (ints out) ∧ New w.heap.size L ∧ Below w.heap.size w wr) (fun _ i _ => m - (intOf i).toNat)
      case atStart => exact ⟨ii, out, L, oa, oc, hi, rfl, rfl, hmg, how, hnl, hb⟩
      case round =>
        clear hi hmg how hnl hb
        obtain ⟨ii, out, L, oa, oc, hi, rfl, rfl, hmg, how, hnl, hb⟩ := hrel
        have HMG := Lib.hid hmg
        clear hmg
        have hsz := hb.size
        have pushA : (ii < bs.length → nth us kk ≤ nth bs ii) → Mg us bs (out ++ [nth us kk]) (kk + 1) ii := fun h => HMG.out.pushA HA.out (by rw [HL.out]; exact hlt) h
        have PA := Lib.hid pushA
        clear pushA
        by_cases him : ii < m
        · obtain ⟨b2, off2, e2, _, hc2⟩ := (hr2.below hb).int (by omega)
          have c2 := hc2 ii him
          clear hc2
          subst e2
          by_cases hlt2 : nth bs ii < nth us kk
          · have HP := Lib.hid (HMG.out.pushB HB.out (by rw [HL2.out]; exact him) (by rw [HL.out]; exact hlt) hlt2)
            have how2 := how.alloc (.cells #[.int .i64 (nth bs ii)] 3)
            go_wp2_with ((with_reducible show wpList _ _ _ (⟨some 50, _, _, _, _, _⟩ :: _) _ _); refine wpList_app _ rfl _ _ 22 rfl 3 Try.underlying22 infoInt rfl rfl rfl how2 (Rd.one _ _ _) (one_int _) (by omega) (by unfold maxLen; omega) ?_; intro a5 cap5 L5 w5 ow5 kp5 st5)
            go_roundw
            case rel => exact ⟨ii + 1, _, L5, a5, cap5, by omega, by go_num, rfl, HP.out, by rw [← ints_snoc]; exact ow5, st5.new hnl (by simp; omega), kp5.below (hb.alloc hsz _) hnl (by simp; omega)⟩
            case measure => simp [intOf]; omega
          · have how2 := how.alloc (.cells #[.int .i64 (nth us kk)] 3)
            have HNL := Lib.hid hlt2
            go_wp2_with ((with_reducible show wpList _ _ _ (⟨some 56, _, _, _, _, _⟩ :: _) _ _); refine wpList_app _ rfl _ _ 22 rfl 3 Try.underlying22 infoInt rfl rfl rfl how2 (Rd.one _ _ _) (one_int _) (by omega) (by unfold maxLen; omega) ?_; intro a5 cap5 L5 w5 ow5 kp5 st5)
            go_roundw
            case rel => exact ⟨kk + 1, ii, _, L5, a5, cap5, by omega, by omega, by go_num, rfl, by rw [show kk + 1 + ii = kk + ii + 1 by omega], PA.out (fun _ => by have := HNL.out; omega), by rw [← ints_snoc, show kk + 1 + ii = kk + ii + 1 by omega]; exact ow5, st5.new hnl (by simp; omega), kp5.below (hb.alloc hsz _) hnl (by simp; omega)⟩
            case measure => simp [intOf]; omega
        · have how2 := how.alloc (.cells #[.int .i64 (nth us kk)] 3)
          have HNL := Lib.hid him
          go_wp2_with ((with_reducible show wpList _ _ _ (⟨some 56, _, _, _, _, _⟩ :: _) _ _); refine wpList_app _ rfl _ _ 22 rfl 3 Try.underlying22 infoInt rfl rfl rfl how2 (Rd.one _ _ _) (one_int _) (by omega) (by unfold maxLen; omega) ?_; intro a5 cap5 L5 w5 ow5 kp5 st5)
          go_roundw
          case rel => exact ⟨kk + 1, ii, _, L5, a5, cap5, by omega, by omega, by go_num, rfl, by rw [show kk + 1 + ii = kk + ii + 1 by omega], PA.out (fun h => by rw [HL2.out] at h; exact absurd h HNL.out), by rw [← ints_snoc, show kk + 1 + ii = kk + ii + 1 by omega]; exact ow5, st5.new hnl (by simp; omega), kp5.below (hb.alloc hsz _) hnl (by simp; omega)⟩
          case measure => simp [intOf]; omega
    · obtain rfl : kk = n := by omega
      have hsz := hb.size
      have HF := Lib.hid (show out ++ bs.drop ii = srt (us ++ bs) from Mg.fin (by rw [HL.out]; exact hmg) HB.out (by rw [HL2.out]; exact hi))
      clear hmg
      go_wp2_with (first | ((with_reducible show wpList _ _ _ (⟨some 61, _, _, _, _, _⟩ :: _) _ _); refine wpList_from _ rfl (.tmp 59) (.tmp 60) 22 rfl 3 Try.underlying22 szInt ii rfl rfl rfl (hr2.below hb) hi ?_; intro a2 ha2 r2; clear ha2) | ((with_reducible show wpList _ _ _ (⟨some 62, _, _, _, _, _⟩ :: _) _ _); refine wpList_app _ rfl _ _ 22 rfl 3 Try.underlying22 infoInt rfl rfl rfl how r2 (by rw [ints_drop]; exact one_ints _) (by omega) (by unfold maxLen; omega) ?_; intro a5 cap5 L5 w5 ow5 kp5 st5))
      go_ret
      have e : kk + ii + (m - ii) = kk + m := by omega
      rw [ints_drop, ints_append, HF.out, e] at ow5
      exact ⟨a5, cap5, by rw [← e]; rfl, ⟨L5, ow5, st5.new hnl hsz⟩, kp5.below hb hnl hsz⟩


end Go.Proofs.Ythlmopndmaemnaa

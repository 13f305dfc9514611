/- append by what it comes to; slices.Grow of nil; slices.Concat of slices of ints. No condition but lengths. -/
import Derived.Test.YtaffokicnabkiaaRis
import Derived.Test.YtaffokicnabkiaaTurn
import Derived.Test.YtaffokicnabkiaaGrid
import Derived.Lib.AppendZerosOnto
namespace Go.Proofs.Ytaffokicnabkiaa
open Go.RowKit
set_option linter.unusedVariables false
set_option linter.unusedSimpArgs false

/-- append, by what it comes to. -/
theorem wpList_appRun {P : Program} (w : World) {ops : Array Oper} {rest : List Oper} {o : Oper} {act : Act} {Q : Exit → Act → World → Prop} (hgd : o.guard = none) (s x : Operand) (t tn : TypeId)
    (ho : o.op = .call { callee := .builtin .append, args := #[s, x], argTypes := #[t, tn] }) {u1 u2 v : Value} {w' : World} (hs : act.eval s = u1) (hx : act.eval x = u2)
    (hrun : (Builtin.append_ #[t, tn] o.type #[u1, u2]).run P w = .ok v w') (h : wpList P ops Q rest (act.put o.dst v) w') : wpList P ops Q (o :: rest) act w := by
  refine wpList_plain hgd fun K hK' => ?_
  unfold Oper.wp
  simp [execOp, ho, resolve, invoke, builtin, hs, hx, hrun, Result.andThen]
  exact hK' _ _ h


theorem c_GrowNil (n : Nat) (w : World) (hn : n ≤ 1000) :
    Calls Try.prog 67 #[.slice none 0 0, .int .i64 n] w fun e w' => ∃ a cap L, e = .returned (.slice a 0 cap) ∧ Ow w' 3 L a 0 cap [] ∧ New w.heap.size L ∧ Below w.heap.size w w' := by
  rcases Nat.eq_zero_or_pos n with h0 | hp
  · subst h0
    go_enter Try.func67, Try.ntmps67
    go_wp2
    go_ret
    exact ⟨none, 0, [], rfl, Ow.bare _ _ _, fun _ h => (by cases h), Below.refl _ _⟩
  · obtain ⟨i, hi, hz, hsize, hby⟩ := info_parts infoInt
    have hhold : (Builtin.firstCells i.size 0 (.slice none 0 0)).run Try.prog w.drew = .ok ([] : List Value).toArray w.drew := by
      rw [hsize]; exact firstCells_rd Try.prog (Rd.nil w.drew none 0 (by unfold maxLen; omega))
    have hge := grownCap_ge w n 0 3
    have hmx := grownCap_le_maxLen w n 0 3 (by unfold maxLen; omega)
    obtain ⟨cs, hcs, hrz⟩ : ∃ cs : Array Value, cs.size = grownCap w n 0 3 ∧ ∀ ty, (Builtin.append_ #[22, 3] ty #[.slice none 0 0, .int .i64 (n : Int)]).run Try.prog w = .ok (.slice (some ⟨w.heap.size, 0, none⟩) n (grownCap w n 0 3)) (w.drew.alloc (.cells cs 3)) := by
      refine ⟨([] : List Value).toArray ++ Builtin.zeroCells (Value.int .i64 0).cells n ++ Builtin.zeroCells (Value.int .i64 0).cells (grownCap w n 0 3 - n), ?_, fun ty => ?_⟩
      · have e : (Value.int .i64 0).cells.size = 1 := rfl
        simp only [Array.size_append, size_zeroCells, e]
        simp; omega
      · have h := Lib.run_append_grow_zeros w 22 3 ty 3 i _ .i64 .i64 Try.underlying22 Try.underlying3 hi hz none 0 0 [] hhold n hp (by rw [hsize]; omega) (by omega) (by omega) (by rw [hby]; omega) (by rw [Nat.zero_add, hby]; exact growslice_fits (by omega) (by omega))
        rw [Nat.zero_add] at h
        exact h
    obtain ⟨G, hG⟩ : ∃ G, G = grownCap w n 0 3 := ⟨_, rfl⟩
    rw [← hG] at hge hmx hrz hcs
    have HG := Lib.hid hG
    clear hG hhold
    have hgt : (0 : Int) < (n : Int) := by omega
    have hw1 : IntKind.i64.wrap (n : Int) = (n : Int) := by rw [IntKind.wrap_i64]; omega
    go_enter Try.func67, Try.ntmps67
    go_wp2_with ((with_reducible show wpList _ _ _ (⟨some 22, _, _, _, _, _⟩ :: _) _ _); refine wpList_appRun _ rfl (.tmp 20) (.tmp 21) 22 3 rfl rfl rfl (hrz _) ?_)
    go_ret
    refine ⟨_, G, [w.heap.size], rfl, ?_, fun i hi => by simp at hi; omega, ((Below.refl w.heap.size w).trans (below_drewN (Below.refl _ _) 1)).alloc (Nat.le_refl _) _⟩
    exact ⟨rfl, Nat.zero_le _, hmx, .inr ⟨w.heap.size, cs, rfl, rfl, heap_alloc_new w.drew _, hcs, rfl⟩⟩


theorem flat_take (rs : List (List Int)) (q : Nat) (h : q < rs.length) : (rs.take (q + 1)).flatten = (rs.take q).flatten ++ rs.getD q [] := by
  rw [List.take_add_one, List.getElem?_eq_getElem h, List.flatten_append]
  simp [List.getD, h]
theorem flat_le (rs : List (List Int)) (q : Nat) : (rs.take q).flatten.length ≤ rs.flatten.length := by
  have h : rs.flatten = (rs.take q).flatten ++ (rs.drop q).flatten := by rw [← List.flatten_append, List.take_append_drop]
  rw [h, List.length_append]; omega


set_option maxHeartbeats 1000000 in
theorem c_Concat (a : Option Addr) (m cap T : Nat) (rs : List (List Int)) (w : World) (hr : RdG w a m cap rs) (hm : m ≤ 1000) (hT : rs.flatten.length = T) (ht : T ≤ 1000) :
    Calls Try.prog 41 #[.slice a m cap] w fun e w' => ∃ oa oc, e = .returned (.slice oa T oc) ∧ OwI w' 3 w.heap.size oa T oc rs.flatten ∧ Below w.heap.size w w' := by
  have HL := Lib.hid hr.len
  have HT0 := Lib.hid hT
  have HT := Lib.hid (fun q => hT ▸ flat_le rs q : ∀ q, (rs.take q).flatten.length ≤ T)
  clear hT
  go_enter Try.func41, Try.ntmps41
  go_wp2
  go_loopw [3, 11] (fun s i wr => ∃ q : Nat, q ≤ m ∧ i = .int .i64 q ∧ s = .int .i64 ((rs.take q).flatten.length : Nat) ∧ Below w.heap.size w wr) (fun _ i _ => m - (intOf i).toNat)
  case atStart => exact ⟨0, by omega, rfl, rfl, Below.refl _ _⟩
  case round =>
    obtain ⟨q, hq, rfl, rfl, hb⟩ := hrel
    have ht1 := HT.out q
    by_cases hlt : q < m
    · obtain ⟨b, off, ra, rn, rc, rfl, _, hcell, hrow⟩ := (hr.below hb).at' hlt
      have HS := Lib.hid (show (rs.take (q + 1)).flatten.length = (rs.take q).flatten.length + rn by rw [flat_take rs q (by rw [HL.out]; exact hlt), List.length_append, hrow.lens])
      have ht2 := HT.out (q + 1)
      rw [HS.out] at ht2
      generalize (rs.take q).flatten.length = S at ht1 ht2 HS ⊢
      have hd : decide ((S : Int) + (rn : Int) < 0) = false := decide_eq_false (by omega)
      go_wp2_with fail
      go_roundw
      case rel => exact ⟨q + 1, by omega, by go_num, by rw [HS.out]; go_num, hb⟩
      case measure => simp [intOf]; omega
    · obtain rfl : q = m := by omega
      have HF := Lib.hid (show (rs.take q).flatten.length = T by rw [List.take_of_length_le (by rw [HL.out]; exact Nat.le_refl _)]; exact HT0.out)
      rw [HF.out]
      go_wp2_with fail
      refine (c_GrowNil T _ ht).mono ?_
      rintro e w2 ⟨oa, oc, L, rfl, how, hnl, hb2⟩
      have hb3 := Below.nx hb hb2
      have hszb := hb.size
      go_wp2_with fail
      go_loopw [6, 27] (fun o i wr => ∃ p : Nat, ∃ L oa on oc, p ≤ q ∧ i = .int .i64 p ∧ o = .slice oa on oc ∧ Ow wr 3 L oa on oc (ints (rs.take p).flatten) ∧ New w.heap.size L ∧ Below w.heap.size w wr) (fun _ i _ => q - (intOf i).toNat)
      case atStart => exact ⟨0, L, oa, 0, oc, by omega, rfl, rfl, how, hnl.mono hszb, hb3⟩
      case round =>
        clear how hnl hb2 hb3
        obtain ⟨p, L, oa, on, oc, hp, rfl, rfl, how, hnl, hbp⟩ := hrel
        have hon := how.lens
        have ht3 := HT.out p
        have hszp := hbp.size
        by_cases hlp : p < q
        · obtain ⟨b, off, ra, rn, rc, rfl, _, hcell, hrow⟩ := (hr.below hbp).at' hlp
          have HS := Lib.hid (flat_take rs p (by rw [HL.out]; exact hlp))
          have ht4 := HT.out (p + 1)
          rw [HS.out, List.length_append, hrow.lens] at ht4
          go_wp2_with ((with_reducible show wpList _ _ _ (⟨some 33, _, _, _, _, _⟩ :: _) _ _); refine wpList_app _ rfl _ _ 22 rfl 3 Try.underlying22 infoInt rfl rfl rfl how hrow (one_ints _) (by omega) (by unfold maxLen; omega) ?_; intro a5 cap5 L5 w5 ow5 kp5 st5)
          go_roundw
          case rel => exact ⟨p + 1, L5, a5, _, cap5, by omega, by go_num, rfl, by rw [HS.out, ← ints_append]; exact ow5, st5.new hnl hszp, kp5.below hbp hnl hszp⟩
          case measure => simp [intOf]; omega
        · obtain rfl : p = q := by omega
          have HF2 := Lib.hid (show (rs.take p).flatten = rs.flatten by rw [List.take_of_length_le (by rw [HL.out]; exact Nat.le_refl _)])
          rw [HF2.out] at how hon
          rw [HT0.out] at hon
          obtain rfl := hon
          go_wp2_with fail
          go_ret
          exact ⟨oa, oc, rfl, ⟨L, how, hnl⟩, hbp⟩


end Go.Proofs.Ytaffokicnabkiaa

/- Sorting with a stack: the reference. No condition but lengths. -/
import Derived.Test.YtbldkmojlmmfoaaTurn
import Derived.Test.YtbldkmojlmmfoaaPerm
import Derived.Test.YtbldkmojlmmfoaaStackL
namespace Go.Proofs.Ytbldkmojlmmfoaa
open Go.RowKit
set_option linter.unusedVariables false

def ssV (xs : List Int) : List Int := if isPerm xs = true then stF xs xs.length else []


set_option maxHeartbeats 1000000 in
theorem cs_StackSort (a : Option Addr) (n cap : Nat) (xs : List Int) (w : World) (hr : RdI w a n cap xs) :
    Calls Try.prog 27 #[.slice a n cap] w fun e w' => ∃ sa sn sc, e = .returned (.slice sa sn sc) ∧ RdI w' sa sn sc (ssV xs) ∧ sn ≤ 1048576 ∧ Below w.heap.size w w' := by
  have HL := Lib.hid hr.lens
  cases hp : isPerm xs
  · have HV := Lib.hid (show ssV xs = [] by unfold ssV; rw [hp]; rfl)
    go_enter Try.func27, Try.ntmps27
    go_wp2_with (go_at_call 67; refine (c_l14Small _ _ _ _ _ hr).mono ?_; rw [hp]; rintro e w1 ⟨rfl, hb⟩)
    go_ret
    exact ⟨_, _, _, rfl, by rw [HV.out]; exact Rd.nil _ _ _ (by unfold maxLen; omega), by omega, by assumption⟩
  have hn := isPerm_len hp
  have HV := Lib.hid (show ssV xs = stF xs xs.length by unfold ssV; rw [hp]; rfl)
  rw [HL.out] at hn HV
  go_enter Try.func27, Try.ntmps27
  go_wp2_with fail
  refine (c_l14Small _ _ _ _ _ hr).mono ?_
  rw [hp]
  rintro e w1 ⟨rfl, hb0⟩
  clear hp
  go_wp2_with fail
  go_loopw [3, 4, 14] (fun o s i wr => ∃ k : Nat, ∃ M oa on oc L sa sn sc, k ≤ n ∧ i = .int .i64 k ∧ o = .slice oa on oc ∧ s = .slice sa sn sc ∧ Ow wr 3 M oa on oc (ints (stS xs k).1) ∧ Ow wr 3 L sa sn sc (ints (stS xs k).2.reverse) ∧ New w1.heap.size M ∧ New w1.heap.size L ∧ Apart M L ∧ Below w1.heap.size w1 wr) (fun _ _ i _ => n - (intOf i).toNat)
  case atStart => exact ⟨0, [], _, _, _, [], _, _, _, by omega, rfl, rfl, rfl, Ow.bare _ _ _, Ow.bare _ _ _, fun _ h => (by cases h), fun _ h => (by cases h), fun _ h => (by cases h), ((Below.refl _ _).alloc (Nat.le_refl _) _).alloc (by simp) _⟩
  case round =>
    obtain ⟨k, M, oa, on, oc, L, sa, sn, sc, hk, rfl, rfl, rfl, hout, hst, hnm, hnl, hap, hb⟩ := hrel
    have hlen := stS_len xs k
    have hsz := hb.size
    by_cases hlt : k < n
    · obtain ⟨b, off, rfl, _, hc⟩ := ((hr.below hb0).below hb).int (by omega)
      have c1 := hc k hlt
      clear hc
      go_wp2_with fail
      obtain ⟨wo, rfl⟩ : ∃ wo : World, wo = wr := ⟨_, rfl⟩
      go_loopw [3, 4] (fun o s wr => ∃ out st : List Int, ∃ M oa on oc L sa sn sc, o = .slice oa on oc ∧ s = .slice sa sn sc ∧ tkS (nth xs k) out st = tkS (nth xs k) (stS xs k).1 (stS xs k).2 ∧ Ow wr 3 M oa on oc (ints out) ∧ Ow wr 3 L sa sn sc (ints st.reverse) ∧ New w1.heap.size M ∧ New w1.heap.size L ∧ Apart M L ∧ Below w1.heap.size w1 wr) (fun _ s _ => match s with | .slice _ m _ => m | _ => 0)
      case atStart => exact ⟨_, _, M, oa, on, oc, L, sa, sn, sc, rfl, rfl, rfl, hout, hst, hnm, hnl, hap, hb⟩
      case round =>
        clear hout hst hnm hnl hap hb hsz
        obtain ⟨out, st, M, oa, on, oc, L, sa, sn, sc, rfl, rfl, htk, hout, hst, hnm, hnl, hap, hb⟩ := hrel
        have hsz := hb.size
        have hl2 := tkS_len (nth xs k) st out
        rw [htk, tkS_len (nth xs k) (stS xs k).2 (stS xs k).1, hlen] at hl2
        have hon : out.length = on := hout.lens
        have hsn : st.reverse.length = sn := hst.lens
        rw [List.length_reverse] at hsn
        have hon8 : on ≤ 8 := by omega
        have hsn8 : sn ≤ 8 := by omega
        have HTK := Lib.hid htk
        have HSN := Lib.hid hsn
        clear htk hl2 hon hsn hlen
        cases st with
        | nil =>
          obtain rfl : 0 = sn := HSN.out
          have hst2 := hst.alloc (.cells #[.int .i64 (nth xs k)] 3)
          have hout2 := hout.alloc (.cells #[.int .i64 (nth xs k)] 3)
          go_wp2_with ((with_reducible show wpList _ _ _ (⟨some 48, _, _, _, _, _⟩ :: _) _ _); refine wpList_app _ rfl _ _ 24 rfl 3 Try.underlying24 infoInt rfl rfl rfl hst2 (Rd.one _ _ _) (one_int _) (by omega) (by unfold maxLen; omega) ?_; intro a5 cap5 L5 w5 ow5 kp5 st5)
          have n5 : New w1.heap.size L5 := st5.new hnl (by simp; omega)
          have b5 : Below w1.heap.size w1 w5 := kp5.below (hb.alloc hsz _) hnl (by simp; omega)
          go_roundw
          case rel => exact ⟨k + 1, M, oa, on, oc, L5, a5, _, cap5, by omega, by go_num, rfl, rfl, by simp only [stS]; rw [← HTK.out]; exact hout2.keep kp5 hap, by simp only [stS]; rw [← HTK.out]; simpa [tkS] using ow5, hnm, n5, (Apart.step hap.symm st5 hout2.old).symm, b5⟩
          case measure => simp [intOf]; omega
        | cons y st =>
          have hsp : 0 < sn := by have := HSN.out; simp at this; omega
          obtain ⟨g, rfl, rfl, _, hsc, _⟩ := hst.int (by have := hst.le; omega)
          have c2 := hsc (sn - 1) (by omega)
          have e2 : nth (y :: st).reverse (sn - 1) = y := by
            have := HSN.out
            rw [show sn - 1 = st.length by simp at this; omega, nth_top]
          rw [e2] at c2
          have e3 : ((sn : Int) - 1).toNat = sn - 1 := by omega
          have e4 : (sn : Int) - 1 = ((sn - 1 : Nat) : Int) := by omega
          have hs0 : (0 : Int) < (sn : Int) := by omega
          have hle := hst.le
          clear hsc e2
          by_cases hyx : y < nth xs k
          · have hout2 := hout.alloc (.cells #[.int .i64 y] 3)
            have hst2 := hst.alloc (.cells #[.int .i64 y] 3)
            go_wp2_with (first | ((with_reducible show wpList _ _ _ (⟨some 39, _, _, _, _, _⟩ :: _) _ _); refine wpList_app _ rfl _ _ 24 rfl 3 Try.underlying24 infoInt rfl rfl rfl hout2 (Rd.one _ _ _) (one_int _) (by omega) (by unfold maxLen; omega) ?_; intro a5 cap5 L5 w5 ow5 kp5 st5) | ((with_reducible show wpList _ _ _ (⟨some 44, _, _, _, _, _⟩ :: _) _ _); refine wpList_upto _ rfl (.tmp 40) (.tmp 43) 24 rfl 3 Try.underlying24 szInt (sn - 1) rfl rfl (by omega) (by omega) ?_))
            have n5 : New w1.heap.size L5 := st5.new hnm (by simp; omega)
            have b5 : Below w1.heap.size w1 w5 := kp5.below (hb.alloc hsz _) hnm (by simp; omega)
            have h6 := (hst2.keep kp5 hap.symm.symm.symm).head (sn - 1) (by omega)
            go_roundw
            case rel => exact ⟨out ++ [y], st, L5, a5, _, cap5, [g], _, sn - 1, sc, rfl, rfl, by rw [← tkS_yes hyx]; exact HTK.out, by rw [← ints_snoc]; exact ow5, by
              have h := h6
              have := HSN.out
              rw [ints_take, show sn - 1 = st.length by simp at this; omega, rev_pop] at h
              rw [show sn - 1 = st.length by simp at this; omega]; exact h, n5, hnl, Apart.step hap st5 hst2.old, b5⟩
            case measure => simp; omega
          · have hst2 := hst.alloc (.cells #[.int .i64 (nth xs k)] 3)
            have hout2 := hout.alloc (.cells #[.int .i64 (nth xs k)] 3)
            go_wp2_with ((with_reducible show wpList _ _ _ (⟨some 48, _, _, _, _, _⟩ :: _) _ _); refine wpList_app _ rfl _ _ 24 rfl 3 Try.underlying24 infoInt rfl rfl rfl hst2 (Rd.one _ _ _) (one_int _) (by omega) (by unfold maxLen; omega) ?_; intro a5 cap5 L5 w5 ow5 kp5 st5)
            have n5 : New w1.heap.size L5 := st5.new hnl (by simp; omega)
            have b5 : Below w1.heap.size w1 w5 := kp5.below (hb.alloc hsz _) hnl (by simp; omega)
            go_roundw
            case rel => exact ⟨k + 1, M, oa, on, oc, L5, a5, _, cap5, by omega, by go_num, rfl, rfl, by simp only [stS]; rw [← HTK.out, tkS_no hyx]; exact hout2.keep kp5 hap, by
              simp only [stS]; rw [← HTK.out, tkS_no hyx, List.reverse_cons, ← ints_snoc]; exact ow5, hnm, n5, (Apart.step hap.symm st5 hout2.old).symm, b5⟩
            case measure => simp [intOf]; omega
    · obtain rfl : n = k := by omega
      have hon : (stS xs n).1.length = on := hout.lens
      have hsn : (stS xs n).2.reverse.length = sn := hst.lens
      rw [List.length_reverse] at hsn
      have hon8 : on ≤ 8 := by omega
      have hsn8 : sn ≤ 8 := by omega
      clear hon hsn hlen
      go_wp2_with fail
      refine (c_l17Turn _ sn sc _ _ hst.rd (by omega)).mono ?_
      rintro e w2 ⟨a2, cap2, rfl, _, ⟨L2, ow2, n2⟩, b2⟩
      have hb2 := Below.nx hb b2
      have hsz2 := hb2.size
      rw [List.reverse_reverse] at ow2
      go_wp2_with ((with_reducible show wpList _ _ _ (⟨some 53, _, _, _, _, _⟩ :: _) _ _); refine wpList_app _ rfl _ _ 24 rfl 3 Try.underlying24 infoInt rfl rfl rfl (hout.below b2) ow2.rd (one_ints _) (by omega) (by unfold maxLen; omega) ?_; intro a3 cap3 L3 w3 ow3 kp3 st3)
      have b3 : Below w1.heap.size w1 w3 := kp3.below hb2 hnm hsz2
      go_ret
      exact ⟨a3, _, cap3, rfl, by rw [HV.out]; unfold stF; have h := ow3.rd; rw [ints_append] at h; exact h, by omega, Below.nx hb0 b3⟩


end Go.Proofs.Ytbldkmojlmmfoaa

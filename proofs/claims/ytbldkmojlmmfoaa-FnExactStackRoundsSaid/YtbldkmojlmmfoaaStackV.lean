/- Sorting with a stack: the program's StackSort, and the words, of both. No condition but lengths. -/
import Derived.Test.YtbldkmojlmmfoaaStackI
import Derived.Test.YtbldkmojlmmfoaaStackS
import Derived.Test.YtbldkmojlmmfoaaCan
namespace Go.Proofs.Ytbldkmojlmmfoaa
open Go.RowKit
set_option linter.unusedVariables false


theorem ci_StackSort (a : Option Addr) (n cap : Nat) (xs : List Int) (w : World) (hr : RdI w a n cap xs) :
    Calls Try.prog 28 #[.slice a n cap] w fun e w' => ∃ sa sn sc, e = .returned (.slice sa sn sc) ∧ OwI w' 3 w.heap.size sa sn sc (ssV xs) ∧ sn ≤ 1048576 ∧ Below w.heap.size w w' := by
  have HL := Lib.hid hr.lens
  cases hp : isPerm xs
  · have HV := Lib.hid (show ssV xs = [] by unfold ssV; rw [hp]; rfl)
    go_enter Try.func28, Try.ntmps28
    go_wp2_with (go_at_call 69; refine (c_isShortOrder _ _ _ _ _ hr).mono ?_; rw [hp]; rintro e w' ⟨rfl, hb⟩)
    go_ret
    exact ⟨_, _, _, rfl, by rw [HV.out]; exact ⟨[], Ow.bare _ _ _, fun _ h => by cases h⟩, by omega, by assumption⟩
  have hn := isPerm_len hp
  have HV := Lib.hid (show ssV xs = stF xs xs.length by unfold ssV; rw [hp]; rfl)
  rw [HL.out] at hn HV
  go_enter Try.func28, Try.ntmps28
  go_wp2_with fail
  refine (c_isShortOrder _ _ _ _ _ hr).mono ?_
  rw [hp]
  rintro e w1 ⟨rfl, hb⟩
  clear hp
  go_wp2_with fail
  refine (c_stackSort a n cap xs _ (hr.below hb) hn).mono ?_
  rintro e w2 ⟨oa, oc, rfl, ow, hb2⟩
  go_wp2_with fail
  go_ret
  exact ⟨oa, n, oc, rfl, by rw [HV.out]; exact ow.mono hb.size, by omega, Below.nx hb hb2⟩


/-- The word, if a stack can sort the order. -/
noncomputable def swV (xs : List Int) : ByteArray := if canV xs = true then drW (stS xs xs.length).2 (stW xs xs.length) else ⟨#[]⟩
theorem canV_perm {xs : List Int} (h : canV xs = true) : isPerm xs = true := by unfold canV at h; simp only [Bool.and_eq_true] at h; exact h.1


theorem ci_StackWord (a : Option Addr) (n cap : Nat) (xs : List Int) (w : World) (hr : RdI w a n cap xs) :
    Calls Try.prog 32 #[.slice a n cap] w fun e w' => e = .returned (.tuple #[.string (swV xs), .bool (canV xs)]) ∧ Below w.heap.size w w' := by
  have HL := Lib.hid hr.lens
  cases hp : canV xs
  · have HV := Lib.hid (show swV xs = ⟨#[]⟩ by unfold swV; rw [hp]; rfl)
    go_enter Try.func32, Try.ntmps32
    go_wp2_with (go_at_call 19; refine (ci_CanStackSort _ _ _ _ _ hr).mono ?_; rw [hp]; rintro e w' ⟨rfl, hb⟩)
    go_ret2
    exact ⟨by rw [HV.out]; rfl, by assumption⟩
  have hn := isPerm_len (canV_perm hp)
  have HV := Lib.hid (show swV xs = drW (stS xs xs.length).2 (stW xs xs.length) by unfold swV; rw [hp]; rfl)
  rw [HL.out] at hn HV
  go_enter Try.func32, Try.ntmps32
  go_wp2_with fail
  refine (ci_CanStackSort _ _ _ _ _ hr).mono ?_
  rw [hp]
  rintro e w1 ⟨rfl, hb⟩
  clear hp
  go_wp2_with fail
  refine (c_stackSort a n cap xs _ (hr.below hb) hn).mono ?_
  rintro e w2 ⟨oa, oc, rfl, ow, hb2⟩
  go_wp2_with fail
  go_ret2
  exact ⟨by rw [HV.out]; rfl, Below.nx hb hb2⟩



theorem drW_snoc (st : List Int) (y : Int) : ∀ s, drW (st ++ [y]) s = drW st s ++ ⟨#[116]⟩ := by
  induction st with
  | nil => intro s; rfl
  | cons z st ih => intro s; rw [List.cons_append, drW, ih]; rfl
theorem drW_take (st : List Int) (k : Nat) (hk : k < st.length) (s : ByteArray) : drW (st.take (k + 1)) s = drW (st.take k) s ++ ⟨#[116]⟩ := by
  rw [take_nth hk, drW_snoc]

set_option maxHeartbeats 1000000 in
theorem cs_StackWord (a : Option Addr) (n cap : Nat) (xs : List Int) (w : World) (hr : RdI w a n cap xs) :
    Calls Try.prog 31 #[.slice a n cap] w fun e w' => e = .returned (.tuple #[.string (swV xs), .bool (canV xs)]) ∧ Below w.heap.size w w' := by
  have HL := Lib.hid hr.lens
  cases hp : canV xs
  · have HV := Lib.hid (show swV xs = ⟨#[]⟩ by unfold swV; rw [hp]; rfl)
    go_enter Try.func31, Try.ntmps31
    go_wp2_with (go_at_call 17; refine (cs_CanStackSort _ _ _ _ _ hr).mono ?_; rw [hp]; rintro e w' ⟨rfl, hb⟩)
    go_ret2
    exact ⟨by rw [HV.out]; rfl, by assumption⟩
  have hn := isPerm_len (canV_perm hp)
  have HV := Lib.hid (show swV xs = drW (stS xs xs.length).2 (stW xs xs.length) by unfold swV; rw [hp]; rfl)
  rw [HL.out] at hn HV
  go_enter Try.func31, Try.ntmps31
  go_wp2_with fail
  refine (cs_CanStackSort _ _ _ _ _ hr).mono ?_
  rw [hp]
  rintro e w1 ⟨rfl, hb0⟩
  clear hp
  go_wp2_with fail
  go_loopw [4, 5, 14] (fun o s i wr => ∃ k : Nat, ∃ L sa sn sc, k ≤ n ∧ i = .int .i64 k ∧ o = .string (stW xs k) ∧ s = .slice sa sn sc ∧ Ow wr 3 L sa sn sc (ints (stS xs k).2.reverse) ∧ New w1.heap.size L ∧ Below w1.heap.size w1 wr) (fun _ _ i _ => n - (intOf i).toNat)
  case atStart => exact ⟨0, [], _, _, _, by omega, rfl, rfl, rfl, Ow.bare _ _ _, fun _ h => (by cases h), (Below.refl _ _).alloc (Nat.le_refl _) _⟩
  case round =>
    obtain ⟨k, L, sa, sn, sc, hk, rfl, rfl, rfl, hst, hnl, hb⟩ := hrel
    have hlen := stS_len xs k
    have hss := stW_size xs k
    have hsz := hb.size
    by_cases hlt : k < n
    · obtain ⟨b, off, rfl, _, hc⟩ := ((hr.below hb0).below hb).int (by omega)
      have c1 := hc k hlt
      clear hc
      go_wp2_with fail
      obtain ⟨wo, rfl⟩ : ∃ wo : World, wo = wr := ⟨_, rfl⟩
      go_loopw [4, 5] (fun o s wr => ∃ out st : List Int, ∃ u L sa sn sc, o = .string u ∧ s = .slice sa sn sc ∧ tkS (nth xs k) out st = tkS (nth xs k) (stS xs k).1 (stS xs k).2 ∧ tkW (nth xs k) st u = tkW (nth xs k) (stS xs k).2 (stW xs k) ∧ u.size = k + out.length ∧ Ow wr 3 L sa sn sc (ints st.reverse) ∧ New w1.heap.size L ∧ Below w1.heap.size w1 wr) (fun _ s _ => match s with | .slice _ m _ => m | _ => 0)
      case atStart => exact ⟨_, _, _, L, sa, sn, sc, rfl, rfl, rfl, rfl, hss, hst, hnl, hb⟩
      case round =>
        clear hst hnl hb hsz
        obtain ⟨out, st, u, L, sa, sn, sc, rfl, rfl, htk, htw, hus, hst, hnl, hb⟩ := hrel
        have hsz := hb.size
        have hl2 := tkS_len (nth xs k) st out
        rw [htk, tkS_len (nth xs k) (stS xs k).2 (stS xs k).1, hlen] at hl2
        have hsn : st.reverse.length = sn := hst.lens
        rw [List.length_reverse] at hsn
        have hsn8 : sn ≤ 8 := by omega
        have hu8 : u.size ≤ 16 := by omega
        have HTK := Lib.hid htk
        have HTW := Lib.hid htw
        have HSN := Lib.hid hsn
        have HUS := Lib.hid hus
        clear htk htw hl2 hsn hlen hus hss
        cases st with
        | nil =>
          obtain rfl : 0 = sn := HSN.out
          have hst2 := hst.alloc (.cells #[.int .i64 (nth xs k)] 3)
          go_wp2_with ((with_reducible show wpList _ _ _ (⟨some 43, _, _, _, _, _⟩ :: _) _ _); refine wpList_app _ rfl _ _ 24 rfl 3 Try.underlying24 infoInt rfl rfl rfl hst2 (Rd.one _ _ _) (one_int _) (by omega) (by unfold maxLen; omega) ?_; intro a5 cap5 L5 w5 ow5 kp5 st5)
          have n5 : New w1.heap.size L5 := st5.new hnl (by simp; omega)
          have b5 : Below w1.heap.size w1 w5 := kp5.below (hb.alloc hsz _) hnl (by simp; omega)
          go_roundw
          case rel => exact ⟨k + 1, L5, a5, _, cap5, by omega, by go_num, (by simp only [stW]; rw [← HTW.out]; rfl), rfl, by simp only [stS]; rw [← HTK.out]; simpa [tkS] using ow5, n5, b5⟩
          case measure => simp [intOf]; omega
        | cons y st =>
          have hsp : 0 < sn := by have := HSN.out; simp at this; omega
          obtain ⟨g, rfl, rfl, _, hsc, _⟩ := hst.int (by have := hst.le; omega)
          have c2 := hsc (sn - 1) (by omega)
          have e2 : nth (y :: st).reverse (sn - 1) = y := by
            have := HSN.out
            rw [show sn - 1 = st.length by simp at this; omega, nth_top]
          rw [e2] at c2
          have e3 : ((sn : Int) - 1).toNat = sn - 1 := by omega
          have e4 : (sn : Int) - 1 = ((sn - 1 : Nat) : Int) := by omega
          have hs0 : (0 : Int) < (sn : Int) := by omega
          have hle := hst.le
          clear hsc e2
          by_cases hyx : y < nth xs k
          · go_wp2_with ((with_reducible show wpList _ _ _ (⟨some 37, _, _, _, _, _⟩ :: _) _ _); refine wpList_upto _ rfl (.tmp 33) (.tmp 36) 24 rfl 3 Try.underlying24 szInt (sn - 1) rfl rfl (by omega) (by omega) ?_)
            have h6 := hst.head (sn - 1) (by omega)
            go_roundw
            case rel => exact ⟨out ++ [y], st, u ++ ⟨#[116]⟩, [g], _, sn - 1, sc, rfl, rfl, by rw [← tkS_yes hyx]; exact HTK.out, by rw [← tkW_yes hyx]; exact HTW.out, by rw [ba_size, List.length_append, List.length_singleton]; have := HUS.out; omega, by
              have h := h6
              have := HSN.out
              rw [ints_take, show sn - 1 = st.length by simp at this; omega, rev_pop] at h
              rw [show sn - 1 = st.length by simp at this; omega]; exact h, hnl, hb⟩
            case measure => simp; omega
          · have hst2 := hst.alloc (.cells #[.int .i64 (nth xs k)] 3)
            go_wp2_with ((with_reducible show wpList _ _ _ (⟨some 43, _, _, _, _, _⟩ :: _) _ _); refine wpList_app _ rfl _ _ 24 rfl 3 Try.underlying24 infoInt rfl rfl rfl hst2 (Rd.one _ _ _) (one_int _) (by omega) (by unfold maxLen; omega) ?_; intro a5 cap5 L5 w5 ow5 kp5 st5)
            have n5 : New w1.heap.size L5 := st5.new hnl (by simp; omega)
            have b5 : Below w1.heap.size w1 w5 := kp5.below (hb.alloc hsz _) hnl (by simp; omega)
            go_roundw
            case rel => exact ⟨k + 1, L5, a5, _, cap5, by omega, by go_num, (by simp only [stW]; rw [← HTW.out, tkW_no hyx]), rfl, by
              simp only [stS]; rw [← HTK.out, tkS_no hyx, List.reverse_cons, ← ints_snoc]; exact ow5, n5, b5⟩
            case measure => simp [intOf]; omega
    · obtain rfl : n = k := by omega
      have hsn : (stS xs n).2.reverse.length = sn := hst.lens
      rw [List.length_reverse] at hsn
      have hsn8 : sn ≤ 8 := by omega
      have hw8 : (stW xs n).size ≤ 16 := by omega
      have HSN := Lib.hid hsn
      clear hsn hlen hss
      go_wp2_with fail
      go_loopw [4, 47] (fun o i wr => ∃ q : Nat, q ≤ sn ∧ i = .int .i64 q ∧ o = .string (drW ((stS xs n).2.take q) (stW xs n)) ∧ Below w1.heap.size w1 wr) (fun _ i _ => sn - (intOf i).toNat)
      case atStart => exact ⟨0, by omega, rfl, rfl, hb⟩
      case round =>
        clear hst hb
        obtain ⟨q, hq, rfl, rfl, hb⟩ := hrel
        by_cases hlq : q < sn
        · have hds : (drW ((stS xs n).2.take q) (stW xs n)).size ≤ 32 := by rw [drW_size, List.length_take]; omega
          have hdt := Lib.hid (drW_take (stS xs n).2 q (by rw [HSN.out]; exact hlq) (stW xs n))
          go_wp2_with fail
          go_roundw
          case rel => exact ⟨q + 1, by omega, by go_num, by rw [hdt.out], hb⟩
          case measure => simp [intOf]; omega
        · obtain rfl : q = sn := by omega
          have hdt := Lib.hid (show drW ((stS xs n).2.take q) (stW xs n) = swV xs by rw [HV.out, List.take_of_length_le (by rw [HSN.out]; exact Nat.le_refl _)])
          go_wp2_with fail
          go_ret2
          exact ⟨by rw [hdt.out]; rfl, Below.nx hb0 hb⟩


end Go.Proofs.Ytbldkmojlmmfoaa

/- The fewest flips that sort an order: the program's and the reference's. No condition. -/
import Derived.Test.YtfnkddplmpcbgaaBestL
import Derived.Test.YtfnkddplmpcbgaaDistM
import Derived.Test.YtfnkddplmpcbgaaRise
import Derived.Test.YtfnkddplmpcbgaaPerm
namespace Go.Proofs.Ytfnkddplmpcbgaa
open Go.RowKit Go.Maps
set_option linter.unusedVariables false
set_option linter.unusedSimpArgs false

theorem fdV_no {xs : List Int} (h : sixB xs = false) : fdV xs = -1 := by unfold fdV; rw [h]; rfl
theorem fdV_yes {xs : List Int} (h : sixB xs = true) : fdV xs = dv xs.length xs := by unfold fdV; rw [if_pos h]
theorem bfL_no {xs : List Int} (h : sixB xs = false) : bfL xs = [] := by unfold bfL; rw [h]; rfl
theorem bfL_yes {xs : List Int} (h : sixB xs = true) : bfL xs = bestL xs.length xs := by unfold bfL; rw [if_pos h]


theorem c_isSix (a : Option Addr) (n cap : Nat) (xs : List Int) (w : World) (hr : RdI w a n cap xs) :
    Calls Try.prog 33 #[.slice a n cap] w fun e w' => e = .returned (.bool (sixB xs)) ∧ Below w.heap.size w w' := by
  have hl := hr.lens
  have hle := hr.le
  have hmx := hr.max
  unfold maxLen at hmx
  by_cases hn : n ≤ 6
  · have HV := Lib.hid (show sixB xs = okTo xs n n by unfold sixB isPerm; rw [hl, decide_eq_true hn, decide_eq_true (show n ≤ 8 by omega)]; simp)
    go_enter Try.func33, Try.ntmps33
    go_wp2_with (go_at_call 50; refine (c_isOrder a n cap xs _ hr (by omega)).mono ?_; rintro e w1 ⟨rfl, hb⟩)
    go_ret
    exact ⟨by rw [HV.out]; rfl, by assumption⟩
  · have HV := Lib.hid (show sixB xs = false by unfold sixB; rw [hl, decide_eq_false hn]; rfl)
    go_enter Try.func33, Try.ntmps33
    go_wp2
    go_ret
    exact ⟨by rw [HV.out]; rfl, Below.refl _ _⟩


theorem c_l22Ok (a : Option Addr) (n cap : Nat) (xs : List Int) (w : World) (hr : RdI w a n cap xs) :
    Calls Try.prog 31 #[.slice a n cap] w fun e w' => e = .returned (.bool (sixB xs)) ∧ Below w.heap.size w w' := by
  have hl := hr.lens
  have hle := hr.le
  have hmx := hr.max
  unfold maxLen at hmx
  by_cases hn : n ≤ 6
  · have HV := Lib.hid (show sixB xs = isPerm xs by unfold sixB; rw [hl, decide_eq_true hn]; simp)
    go_enter Try.func31, Try.ntmps31
    go_wp2_with (go_at_call 47; refine (c_l14Small a n cap xs _ hr).mono ?_; rintro e w1 ⟨rfl, hb⟩)
    go_ret
    exact ⟨by rw [HV.out]; rfl, by assumption⟩
  · have HV := Lib.hid (show sixB xs = false by unfold sixB; rw [hl, decide_eq_false hn]; rfl)
    go_enter Try.func31, Try.ntmps31
    go_wp2
    go_ret
    exact ⟨by rw [HV.out]; rfl, Below.refl _ _⟩


/-- The map's word on an order. -/
theorem dst_val {n : Nat} (hn : n ≤ 8) {x : List Int} (ho : Order x n) (z : DataW Unit) : (mapD (dst n)).atKey (.int .i64 (keyF 1 x)) z = .lit (.int .i64 (dv n x)) := by
  obtain ⟨i, hi, rfl⟩ := dst_all hn x ho
  rw [dv_at hn hi]
  exact (dst_ok n hn).val hn hi z


set_option maxHeartbeats 400000 in
theorem ci_FlipDistance (a : Option Addr) (n cap : Nat) (xs : List Int) (w : World) (hr : RdI w a n cap xs) :
    Calls Try.prog 14 #[.slice a n cap] w fun e w' => e = .returned (.int .i64 (fdV xs)) ∧ Below w.heap.size w w' := by
  have HL := Lib.hid hr.lens
  cases hs : sixB xs
  · have HV := Lib.hid (fdV_no hs)
    go_enter Try.func14, Try.ntmps14
    go_wp2_with (go_at_call 33; refine (c_isSix _ _ _ _ _ hr).mono ?_; rw [hs]; rintro e w1 ⟨rfl, hb⟩)
    go_ret
    exact ⟨by rw [HV.out]; rfl, by assumption⟩
  obtain ⟨h6, ho, hp⟩ := sixB_yes hs
  have HV := Lib.hid (fdV_yes hs)
  rw [HL.out] at h6 ho
  have hdig := ho.dig (by omega)
  have hk1 := keyF_bd xs 1 hdig
  have hk2 : 8 ^ xs.length ≤ 8 ^ 6 := Nat.pow_le_pow_right (by omega) (by rw [HL.out]; exact h6)
  have hval := dst_val (by omega) ho (.lit (.int .i64 0))
  obtain ⟨q, hq⟩ : ∃ q : Nat, keyF 1 xs = q := ⟨_, rfl⟩
  rw [hq] at hk1 hval
  have HQ := Lib.hid hq
  have HVAL := Lib.hid hval
  clear hval hq
  go_enter Try.func14, Try.ntmps14
  go_wp2_with fail
  refine (c_isSix _ _ _ _ _ hr).mono ?_
  rw [hs]
  rintro e w1 ⟨rfl, hb⟩
  clear hs
  go_wp2_with fail
  refine (c_distances n _ h6).mono ?_
  rintro e w2 ⟨B, rfl, hB, om, b2⟩
  have CK := c_key a n cap xs w2 ((hr.below hb).below b2) hdig (by omega)
  rw [HQ.out] at CK
  have om' := om
  unfold OM at om'
  have CK := Lib.hid CK
  go_wp2_with fail
  refine CK.out.mono ?_
  rintro e w' ⟨rfl, rfl⟩
  go_wp2_with (at_lookup; refine wpList_lookup_own_int _ rfl _ _ 43 rfl 3 3 .i64 lawI Try.underlying43 Try.underlying3 (zeroI _) B _ _ rfl om' _ _ rfl (keyI (by omega) (by omega)) ?_; intro c hat hwc)
  have hc : c = dv n xs := by rw [HVAL.out] at hat; simp at hat; omega
  go_ret
  exact ⟨by rw [HV.out, HL.out, ← hc]; rfl, Below.nx hb b2⟩



set_option maxHeartbeats 2000000 in
theorem c_l22Find (n : Nat) (hn : n ≤ 6) : ∀ (d : Nat) (x : List Int) (a : Option Addr) (cap : Nat) (w : World), d ≤ 300000 → Order x n → RdI w a n cap x →
    Calls Try.prog 49 #[.slice a n cap, .int .i64 d] w fun e w' => ∃ sa sn sc bo, e = .returned (.tuple #[.slice sa sn sc, .bool bo]) ∧ bo = (fnd n d x).isSome ∧ sn = ((fnd n d x).getD []).length ∧ OwI w' 3 w.heap.size sa sn sc ((fnd n d x).getD []) ∧ Below w.heap.size w w' := by
  intro d
  induction d with
  | zero =>
    intro x a cap w _ ho hr
    have hx := ho.2.1
    have hgz := gap_zero ho
    by_cases he : x = idn n
    · have HF := Lib.hid (show fnd n 0 x = some [] by rw [fnd, if_pos he])
      have HR := Lib.hid (riseB_yes ((rise_idn ho).2 he))
      clear he hgz
      go_enter Try.func49, Try.ntmps49
      go_wp2_with fail
      refine (c_l03Rises a n cap x _ hr (by omega)).mono ?_
      rw [HR.out]
      rintro e w1 ⟨rfl, b1⟩
      go_wp2_with fail
      go_ret2
      exact ⟨_, 0, 0, true, rfl, by rw [HF.out]; rfl, by rw [HF.out]; rfl, by rw [HF.out]; exact ⟨[], Ow.bare _ _ _, fun _ h => (by cases h)⟩, b1.alloc b1.size _⟩
    · have HF := Lib.hid (show fnd n 0 x = none by rw [fnd, if_neg he])
      have HR := Lib.hid (riseB_no (fun h => he ((rise_idn ho).1 h)))
      have hg : 0 < gapC x n n := by
        rcases Nat.eq_zero_or_pos (gapC x n n) with h | h
        · exact absurd (hgz h) he
        · exact h
      have hg2 := gapC_le x n n
      have CG := fun w hr => c_l22Gaps a n cap x w hr (by omega) hx
      generalize gapC x n n = g at *
      have CG := Lib.hid CG
      clear he hgz
      go_enter Try.func49, Try.ntmps49
      go_wp2_with fail
      refine (c_l03Rises a n cap x _ hr (by omega)).mono ?_
      rw [HR.out]
      rintro e w1 ⟨rfl, b1⟩
      go_wp2_with fail
      refine (CG.out _ (hr.below b1)).mono ?_
      rintro e w2 ⟨rfl, hd⟩
      have b2 := hd.below
      go_wp2_with fail
      go_ret2
      exact ⟨_, 0, 0, false, rfl, by rw [HF.out]; rfl, by rw [HF.out]; rfl, by rw [HF.out]; exact ⟨[], Ow.bare _ _ _, fun _ h => (by cases h)⟩, Below.nx b1 b2⟩
  | succ d ih =>
    intro x a cap w hd ho hr
    have hx := ho.2.1
    have IH := Lib.hid ih
    clear ih
    by_cases he : x = idn n
    · have HF := Lib.hid (show fnd n (d + 1) x = none by rw [fnd, if_pos he])
      have HR := Lib.hid (riseB_yes ((rise_idn ho).2 he))
      have hz : (((d + 1 : Nat) : Int) == 0) = false := by simp; omega
      clear he
      go_enter Try.func49, Try.ntmps49
      go_wp2_with fail
      refine (c_l03Rises a n cap x _ hr (by omega)).mono ?_
      rw [HR.out]
      rintro e w1 ⟨rfl, b1⟩
      go_wp2_with fail
      go_ret2
      exact ⟨_, 0, 0, false, rfl, by rw [HF.out]; rfl, by rw [HF.out]; rfl, by rw [HF.out]; exact ⟨[], Ow.bare _ _ _, fun _ h => (by cases h)⟩, b1.alloc b1.size _⟩
    · have HR := Lib.hid (riseB_no (fun h => he ((rise_idn ho).1 h)))
      have hg2 := gapC_le x n n
      have CG := fun w hr => c_l22Gaps a n cap x w hr (by omega) hx
      by_cases hg : d + 1 < gapC x n n
      · have HF := Lib.hid (show fnd n (d + 1) x = none by rw [fnd, if_neg he, if_pos hg])
        generalize gapC x n n = g at *
        have CG := Lib.hid CG
        clear he
        go_enter Try.func49, Try.ntmps49
        go_wp2_with fail
        refine (c_l03Rises a n cap x _ hr (by omega)).mono ?_
        rw [HR.out]
        rintro e w1 ⟨rfl, b1⟩
        go_wp2_with fail
        refine (CG.out _ (hr.below b1)).mono ?_
        rintro e w2 ⟨rfl, hd⟩
        have b2 := hd.below
        go_wp2_with fail
        go_ret2
        exact ⟨_, 0, 0, false, rfl, by rw [HF.out]; rfl, by rw [HF.out]; rfl, by rw [HF.out]; exact ⟨[], Ow.bare _ _ _, fun _ h => (by cases h)⟩, Below.nx b1 b2⟩
      · have HF := Lib.hid (show fnd n (d + 1) x = fndK (fun k => fnd n d (flipL x k)) n by rw [fnd, if_neg he, if_neg hg])
        generalize gapC x n n = g at *
        have CG := Lib.hid CG
        have HO := Lib.hid ho
        clear he hx ho
        go_enter Try.func49, Try.ntmps49
        go_wp2_with fail
        refine (c_l03Rises a n cap x _ hr (by omega)).mono ?_
        rw [HR.out]
        rintro e w1 ⟨rfl, b1⟩
        go_wp2_with fail
        refine (CG.out _ (hr.below b1)).mono ?_
        rintro e w2 ⟨rfl, hdr⟩
        have b2 := Below.nx b1 hdr.below
        go_wp2_with fail
        go_loopw [6] (fun i wr => ∃ k : Nat, 2 ≤ k ∧ (k = 2 ∨ k ≤ n + 1) ∧ i = .int .i64 k ∧ fndK (fun k => fnd n d (flipL x k)) (k - 1) = none ∧ Below w.heap.size w wr) (fun i _ => n + 2 - (intOf i).toNat)
        case atStart => exact ⟨2, by omega, by omega, rfl, fndK_one, b2⟩
        case round =>
          obtain ⟨k, hk2, hkn, rfl, hno, hb⟩ := hrel
          have HNO := Lib.hid hno
          clear hno
          by_cases hk : k ≤ n
          · have hoy := HO.out.flip k hk
            have HOY := Lib.hid hoy
            clear hoy
            go_wp2_with fail
            refine (c_l22Flip a n cap k x wr (hr.below hb) (by omega) (by omega) hk).mono ?_
            rintro e w3 ⟨a3, cap3, rfl, _, ⟨L3, ow3, n3⟩, b3⟩
            have CR := IH.out (flipL x k) a3 cap3 w3 (by omega) HOY.out ow3.rd
            cases hf : fnd n d (flipL x k)
            · rw [hf] at CR
              have HM := Lib.hid (fndK_miss (F := fun k => fnd n d (flipL x k)) HNO.out hk2 hf)
              have CR := Lib.hid CR
              clear hf
              go_wp2_with fail
              refine CR.out.mono ?_
              rintro e w4 ⟨sa, sn, sc, bo, rfl, rfl, _, _, b4⟩
              have b5 := Below.nx (Below.nx hb b3) b4
              go_wp2_with fail
              go_roundw
              case rel => exact ⟨k + 1, by omega, by omega, by go_num, HM.out, b5⟩
              case measure => simp [intOf]; omega
            · rename_i l
              rw [hf] at CR
              have hll := fnd_len d _ l hf
              have HM := Lib.hid (fndK_stay (fndK_hit (F := fun k => fnd n d (flipL x k)) HNO.out hk2 hf) n hk)
              have CR := Lib.hid CR
              clear hf
              go_wp2_with fail
              refine CR.out.mono ?_
              rintro e w4 ⟨sa, sn, sc, bo, rfl, rfl, hsn, ⟨L4, ow4, n4⟩, b4⟩
              have b5 := Below.nx (Below.nx hb b3) b4
              simp only [Option.getD_some] at hsn ow4
              have hsn' : sn ≤ 300000 := by rw [hsn, hll]; omega
              have HSN := Lib.hid hsn
              clear hsn
              have own := Ow.new' w4 3 #[.int .i64 (k : Int)] 1 [.int .i64 (k : Int)] rfl rfl (by unfold maxLen; omega)
              go_wp2_with ((with_reducible show wpList _ _ _ (⟨some 37, _, _, _, _, _⟩ :: _) _ _); refine wpList_app _ rfl _ _ 26 rfl 3 Try.underlying26 infoInt rfl rfl rfl own (ow4.alloc _).rd (one_ints l) (by omega) (by unfold maxLen; omega) ?_; intro a6 cap6 L6 w6 ow6 kp6 st6)
              have b6 : Below w.heap.size w w6 := kp6.below (b5.alloc b5.size _) (fun i hi => by simp at hi; have := b5.size; omega) (by simp; have := b5.size; omega)
              have n6 : New w.heap.size L6 := st6.new (fun i hi => by simp at hi; have := b5.size; omega) (by simp; have := b5.size; omega)
              have hfin : ints ((k : Int) :: l) = [.int .i64 (k : Int)] ++ ints l := rfl
              go_ret2
              exact ⟨a6, 1 + sn, cap6, true, rfl, by rw [HF.out, HM.out]; rfl, by rw [HF.out, HM.out]; simp only [Option.getD_some, List.length_cons]; rw [HSN.out]; omega, by rw [HF.out, HM.out]; exact ⟨L6, by simp only [Option.getD_some]; rw [hfin]; exact ow6, n6⟩, b6⟩
          · have HN := Lib.hid (show fndK (fun k => fnd n d (flipL x k)) n = none by
              rcases (show k - 1 = n ∨ (k = 2 ∧ n < 2) by omega) with h | ⟨h1, h2⟩
              · have h0 := HNO.out; rw [h] at h0; exact h0
              · exact fndK_none (fun k h3 h4 => by omega))
            go_wp2_with fail
            go_ret2
            exact ⟨_, 0, 0, false, rfl, by rw [HF.out, HN.out]; rfl, by rw [HF.out, HN.out]; rfl, by rw [HF.out, HN.out]; exact ⟨[], Ow.bare _ _ _, fun _ h => (by cases h)⟩, hb⟩



set_option maxHeartbeats 1000000 in
theorem c_l22Best (n : Nat) (hn : n ≤ 6) (x : List Int) (a : Option Addr) (cap : Nat) (w : World) (ho : Order x n) (hr : RdI w a n cap x) :
    Calls Try.prog 32 #[.slice a n cap] w fun e w' => ∃ sa sn sc, e = .returned (.slice sa sn sc) ∧ sn = dv n x ∧ OwI w' 3 w.heap.size sa sn sc (bestL n x) ∧ Below w.heap.size w w' := by
  have hx := ho.2.1
  have hdl := dv_le (by omega) ho
  have h8 : 8 ^ n ≤ 262144 := Nat.le_trans (Nat.pow_le_pow_right (by omega) hn) (by decide)
  have hg := gap_dv (by omega) _ x ho rfl
  obtain ⟨l, hl, hbl⟩ := fnd_eq (by omega) _ x ho rfl
  have hbe := bestL_eq (by omega) ho hbl
  have hlen := fnd_len _ _ _ hl
  have hlt := fun d => fnd_lt (n := n) (by omega) d x ho
  have hd3 : dv n x ≤ 262144 := by omega
  generalize dv n x = dd at *
  have HL := Lib.hid hl
  have HLT := Lib.hid hlt
  have HBE := Lib.hid hbe
  have HLEN := Lib.hid hlen
  have CG := fun w hr => c_l22Gaps a n cap x w hr (by omega) hx
  generalize gapC x n n = g at *
  have CG := Lib.hid CG
  have HO := Lib.hid ho
  clear hl hlt hbe hlen hbl hx ho hdl h8
  go_enter Try.func32, Try.ntmps32
  go_wp2_with fail
  refine (CG.out _ hr).mono ?_
  rintro e w1 ⟨rfl, hdr⟩
  have b1 := hdr.below
  go_wp2_with fail
  go_loopw [3] (fun i wr => ∃ d : Nat, d ≤ dd ∧ i = .int .i64 d ∧ Below w.heap.size w wr) (fun i _ => dd + 1 - (intOf i).toNat)
  case atStart => exact ⟨g, hg, rfl, b1⟩
  case round =>
    clear b1
    obtain ⟨d, hd, rfl, hb⟩ := hrel
    have CR := c_l22Find n hn d x a cap wr (by omega) HO.out (hr.below hb)
    by_cases he : d = dd
    · subst he
      rw [HL.out] at CR
      have CR := Lib.hid CR
      go_wp2_with fail
      refine CR.out.mono ?_
      rintro e w2 ⟨sa, sn, sc, bo, rfl, rfl, hsn, ⟨L2, ow2, n2⟩, b2⟩
      simp only [Option.getD_some] at hsn ow2
      have HSN := Lib.hid hsn
      clear hsn
      go_wp2_with fail
      go_ret
      exact ⟨sa, sn, sc, rfl, by rw [HSN.out, HLEN.out], ⟨L2, by rw [← HBE.out]; exact ow2, n2.mono hb.size⟩, Below.nx hb b2⟩
    · rw [HLT.out d (by omega)] at CR
      have CR := Lib.hid CR
      go_wp2_with fail
      refine CR.out.mono ?_
      rintro e w2 ⟨sa, sn, sc, bo, rfl, rfl, _, _, b2⟩
      have b3 := Below.nx hb b2
      go_wp2_with fail
      go_roundw
      case rel => exact ⟨d + 1, by omega, by go_num, b3⟩
      case measure => simp [intOf]; omega



theorem cs_FlipDistance (a : Option Addr) (n cap : Nat) (xs : List Int) (w : World) (hr : RdI w a n cap xs) :
    Calls Try.prog 12 #[.slice a n cap] w fun e w' => e = .returned (.int .i64 (fdV xs)) ∧ Below w.heap.size w w' := by
  have HL := Lib.hid hr.lens
  cases hs : sixB xs
  · have HV := Lib.hid (fdV_no hs)
    go_enter Try.func12, Try.ntmps12
    go_wp2_with (go_at_call 31; refine (c_l22Ok _ _ _ _ _ hr).mono ?_; rw [hs]; rintro e w1 ⟨rfl, hb⟩)
    go_ret
    exact ⟨by rw [HV.out]; rfl, by assumption⟩
  obtain ⟨h6, ho, hp⟩ := sixB_yes hs
  have HV := Lib.hid (fdV_yes hs)
  rw [HL.out] at h6 ho
  go_enter Try.func12, Try.ntmps12
  go_wp2_with fail
  refine (c_l22Ok _ _ _ _ _ hr).mono ?_
  rw [hs]
  rintro e w1 ⟨rfl, hb⟩
  clear hs
  go_wp2_with fail
  refine (c_l22Best n h6 xs a cap _ ho (hr.below hb)).mono ?_
  rintro e w2 ⟨sa, sn, sc, rfl, hsn, _, b2⟩
  have HSN := Lib.hid hsn
  clear hsn
  go_wp2_with fail
  go_ret
  exact ⟨by rw [HV.out, HL.out, ← HSN.out]; rfl, Below.nx hb b2⟩



theorem cs_BestFlips (a : Option Addr) (n cap : Nat) (xs : List Int) (w : World) (hr : RdI w a n cap xs) :
    Calls Try.prog 16 #[.slice a n cap] w fun e w' => ∃ sa sn sc, e = .returned (.tuple #[.slice sa sn sc, .bool (sixB xs)]) ∧ RdI w' sa sn sc (bfL xs) ∧ sn ≤ 1048576 ∧ Below w.heap.size w w' := by
  have HL := Lib.hid hr.lens
  cases hs : sixB xs
  · have HV := Lib.hid (bfL_no hs)
    go_enter Try.func16, Try.ntmps16
    go_wp2_with (go_at_call 31; refine (c_l22Ok _ _ _ _ _ hr).mono ?_; rw [hs]; rintro e w1 ⟨rfl, hb⟩)
    go_ret2
    exact ⟨_, _, _, rfl, by rw [HV.out]; exact Rd.nil _ _ _ (by unfold maxLen; omega), by omega, by assumption⟩
  obtain ⟨h6, ho, hp⟩ := sixB_yes hs
  have HV := Lib.hid (bfL_yes hs)
  rw [HL.out] at h6 ho
  have hdl := dv_le (by omega) ho
  have h8 : 8 ^ n ≤ 262144 := Nat.le_trans (Nat.pow_le_pow_right (by omega) h6) (by decide)
  have HDL := Lib.hid (show dv n xs ≤ 262144 by omega)
  clear hdl h8
  go_enter Try.func16, Try.ntmps16
  go_wp2_with fail
  refine (c_l22Ok _ _ _ _ _ hr).mono ?_
  rw [hs]
  rintro e w1 ⟨rfl, hb⟩
  clear hs
  go_wp2_with fail
  refine (c_l22Best n h6 xs a cap _ ho (hr.below hb)).mono ?_
  rintro e w2 ⟨sa, sn, sc, rfl, hsn, ⟨L2, ow2, n2⟩, b2⟩
  have HSN := Lib.hid hsn
  clear hsn
  go_wp2_with fail
  go_ret2
  exact ⟨sa, sn, sc, rfl, by rw [HV.out, HL.out]; exact ow2.rd, by have := HDL.out; have := HSN.out; omega, Below.nx hb b2⟩


def slenB : Value → Nat
  | .slice _ n _ => n
  | _ => 0


theorem lookD {w : World} {B q : Nat} {es : List Ent} (om : OM w B es) (hq : q ≤ 1099511627776) {d : Nat} (hv : ∀ z, (mapD es).atKey (.int .i64 q) z = .lit (.int .i64 d)) :
    (Instr.lookup 43 (.map (some B)) (.int .i64 (q : Int)) false).run Try.prog w = .ok (.int .i64 (d : Int)) w := by
  obtain ⟨c, hrun, hat, _⟩ := om.lookup_int lawI Try.underlying43 Try.underlying3 (zeroI _) (keyI (k := (q : Int)) (by omega) (by omega))
  rw [hv] at hat
  obtain rfl : c = d := by simp at hat; omega
  exact hrun
theorem OM.drewN {w : World} {B : Nat} {es : List Ent} (om : OM w B es) (m : Nat) : OM (w.drewN m) B es := ownsMap_keep om (Keeps.drewN [] w m) (by simp)
theorem OM.below {w w' : World} {B : Nat} {es : List Ent} (om : OM w B es) (k : Below w.heap.size w w') : OM w' B es := ownsMap_below om k

set_option maxHeartbeats 2000000 in
theorem ci_BestFlips (a : Option Addr) (n cap : Nat) (xs : List Int) (w : World) (hr : RdI w a n cap xs) :
    Calls Try.prog 17 #[.slice a n cap] w fun e w' => ∃ sa sn sc, e = .returned (.tuple #[.slice sa sn sc, .bool (sixB xs)]) ∧ OwI w' 3 w.heap.size sa sn sc (bfL xs) ∧ sn ≤ 1048576 ∧ Below w.heap.size w w' := by
  have HL := Lib.hid hr.lens
  cases hs : sixB xs
  · have HV := Lib.hid (bfL_no hs)
    go_enter Try.func17, Try.ntmps17
    go_wp2_with (go_at_call 33; refine (c_isSix _ _ _ _ _ hr).mono ?_; rw [hs]; rintro e w1 ⟨rfl, hb⟩)
    go_ret2
    exact ⟨_, _, _, rfl, by rw [HV.out]; exact ⟨[], Ow.bare _ _ _, fun _ h => (by cases h)⟩, by omega, by assumption⟩
  obtain ⟨h6, ho, hp⟩ := sixB_yes hs
  have HV := Lib.hid (bfL_yes hs)
  rw [HL.out] at h6 ho
  have hdl := dv_le (by omega) ho
  have h8 : 8 ^ n ≤ 262144 := Nat.le_trans (Nat.pow_le_pow_right (by omega) h6) (by decide)
  have hdd : dv n xs ≤ 262144 := by omega
  obtain ⟨dd, hd⟩ : ∃ dd : Nat, dv n xs = dd := ⟨_, rfl⟩
  rw [hd] at hdd
  have HD := Lib.hid hd
  have HO := Lib.hid ho
  have HBS := Lib.hid (bestL_spec (by omega) ho)
  clear hdl h8 hd ho
  go_enter Try.func17, Try.ntmps17
  go_wp2_with fail
  refine (c_isSix _ _ _ _ _ hr).mono ?_
  rw [hs]
  rintro e w1 ⟨rfl, hb⟩
  clear hs
  go_wp2_with fail
  refine (c_distances n _ h6).mono ?_
  rintro e w2 ⟨B, rfl, hB, om, b2⟩
  have hb2 := Below.nx hb b2
  go_wp2_with fail
  refine (c_Clone a n cap xs _ ((hr.below hb2).below ((Below.refl _ _).alloc (Nat.le_refl _) _)) (by omega)).mono ?_
  rintro e w3 ⟨a3, cap3, rfl, ⟨L3, ow3, n3⟩, b3⟩
  simp only [World.size_alloc] at b3 n3
  have om3 := OM.below (ownsMap_below om ((Below.refl _ _).alloc (Nat.le_refl _) (.cells #[] 3))) (by simpa using b3)
  have hb3 : Below w.heap.size w w3 := Below.nx (hb2.alloc hb2.size _) (by simpa using b3)
  have hsz := hb2.size
  clear om b2 hB
  go_wp2_with fail
  go_loopw [5, 6] (fun o l wr => ∃ (x pre : List Int) (Lo : List Nat) (oa : Option Addr) (on oc : Nat) (Ll : List Nat) (la : Option Addr) (lc : Nat), o = .slice oa on oc ∧ l = .slice la n lc ∧ Order x n ∧ on + dv n x = dd ∧ (∀ t, Best n x t → Best n xs (pre ++ t)) ∧ Ow wr 3 Lo oa on oc (ints pre) ∧ New w.heap.size Lo ∧ Ow wr 3 Ll la n lc (ints x) ∧ New w.heap.size Ll ∧ Apart Lo Ll ∧ OM wr B (dst n) ∧ B ∉ Lo ∧ Below w.heap.size w wr) (fun o _ _ => dd + 1 - slenB o)
  case atStart => exact ⟨xs, [], [], _, 0, 0, L3, a3, cap3, rfl, rfl, HO.out, by rw [HD.out]; omega, fun t h => h, Ow.bare _ _ _, fun _ h => (by cases h), ow3, n3.mono (by omega), Apart.nil _, om3, by simp, hb3⟩
  case round =>
    clear om3 hb3 ow3 n3 b3 hb2
    obtain ⟨x, pre, Lo, oa, on, oc, Ll, la, lc, rfl, rfl, hox, hdd2, hbest, owo, nwo, owl, nwl, apl, om, hBo, hb⟩ := hrel
    have hdig := hox.dig (by omega)
    have hk1 := keyF_bd x 1 hdig
    have hk2 : 8 ^ x.length ≤ 8 ^ 6 := Nat.pow_le_pow_right (by omega) (by rw [hox.1]; exact h6)
    have hval := fun z => dst_val (n := n) (by omega) hox z
    have hz := dv_zero (by omega) hox
    have hdn := dv_down (by omega) hox
    have hbk := dv_back (by omega) hox
    have hfl := fun k hk => (hox.flip k hk : Order (flipL x k) n)
    obtain ⟨d, hd⟩ : ∃ d : Nat, dv n x = d := ⟨_, rfl⟩
    obtain ⟨q, hq⟩ : ∃ q : Nat, keyF 1 x = q := ⟨_, rfl⟩
    have CK := fun w hr => c_key la n lc x w hr hdig (by omega)
    rw [hd] at hdd2 hval hz hdn hbk
    rw [hq] at hk1 hval CK
    have CK := Lib.hid CK
    have HVAL := Lib.hid hval
    have HDN := Lib.hid hdn
    have HBK := Lib.hid hbk
    have HFL := Lib.hid hfl
    have HZ := Lib.hid hz
    have HDX := Lib.hid hd
    have HOX := Lib.hid hox
    have HBEST := Lib.hid hbest
    have hl0 := lookD om (by omega) HVAL.out
    have hqb : q ≤ 1099511627776 := by omega
    have HDD := Lib.hid hdd2
    have hon : on ≤ 262144 := by omega
    have hdle : d ≤ 262144 := by omega
    clear hdig hk1 hk2 hval hz hdn hbk hfl hq hd hox hbest hdd2
    by_cases hpos : 0 < d
    · go_wp2_with fail
      refine (CK.out _ owl.rd).mono ?_
      rintro e w' ⟨rfl, rfl⟩
      go_wp2_with fail
      go_loopw [5, 6, 26] (fun o l i wr2 => ∃ k : Nat, o = .slice oa on oc ∧ l = .slice la n lc ∧ i = .int .i64 k ∧ k ≤ n + 1 ∧ (∀ k', k' < k → ¬ dv n (flipL x k') < d) ∧ Ow wr2 3 Lo oa on oc (ints pre) ∧ Ow wr2 3 Ll la n lc (ints x) ∧ OM wr2 B (dst n) ∧ Below w.heap.size w wr2) (fun _ _ i _ => n + 2 - (intOf i).toNat)
      case atStart => exact ⟨0, rfl, rfl, rfl, by omega, fun k' h => by omega, owo, owl, om, hb⟩
      case round =>
        clear owo owl om hb hl0
        obtain ⟨k, rfl, rfl, rfl, hkn, hno, owo, owl, om, hb⟩ := hrel
        have HNO := Lib.hid hno
        clear hno
        by_cases hk : k ≤ n
        · have hoy := HFL.out k hk
          have hdy := hoy.dig (by omega)
          have hk1 := keyF_bd (flipL x k) 1 hdy
          have hk2 : 8 ^ (flipL x k).length ≤ 8 ^ 6 := Nat.pow_le_pow_right (by omega) (by rw [hoy.1]; exact h6)
          have hval := fun z => dst_val (n := n) (by omega) hoy z
          have hbk := HBK.out k hk
          obtain ⟨d2, hd2⟩ : ∃ d : Nat, dv n (flipL x k) = d := ⟨_, rfl⟩
          obtain ⟨q2, hq2⟩ : ∃ q : Nat, keyF 1 (flipL x k) = q := ⟨_, rfl⟩
          rw [hd2] at hval hbk
          rw [hq2] at hk1 hval
          have hqb2 : q2 ≤ 1099511627776 := by omega
          have HVAL2 := Lib.hid hval
          have HQ2 := Lib.hid hq2
          have HD2 := Lib.hid hd2
          have HOY := Lib.hid hoy
          have HDY := Lib.hid hdy
          clear hval hq2 hd2 hoy hdy hk1 hk2
          go_wp2_with fail
          refine (c_flip la n lc k x wr owl.rd (by omega) hk).mono ?_
          rintro e w5 ⟨a5, cap5, rfl, ⟨L5, ow5, n5⟩, b5⟩
          have om5 := OM.below om b5
          have owo5 := owo.below b5
          have owl5 := owl.below b5
          have hb5 := Below.nx hb b5
          have ap5 : Apart Lo L5 := fun i hi hm => by have := owo.old i hi; have := n5 i hm; omega
          have hl1 := fun m => lookD (om5.drewN m) (by omega) HVAL.out
          have hl2 := fun m => lookD (om5.drewN m) (by omega) HVAL2.out
          have K2 : ∀ m, Calls Try.prog 34 #[.slice a5 n cap5] (w5.drewN m) fun e w' => e = .returned (.int .i64 q2) ∧ w' = w5.drewN m := fun m => (c_key a5 n cap5 (flipL x k) _ (ow5.rd.drewN m) HDY.out (by omega)).mono (fun e w' h => ⟨by rw [h.1, HQ2.out], h.2.symm⟩)
          have K1 : ∀ m, Calls Try.prog 34 #[.slice la n lc] (w5.drewN m) fun e w' => e = .returned (.int .i64 q) ∧ w' = w5.drewN m := fun m => (CK.out _ (owl5.rd.drewN m)).mono (fun e w' h => ⟨h.1, h.2.symm⟩)
          have K1 := Lib.hid K1
          have K2 := Lib.hid K2
          by_cases hlt : d2 < d
          · go_wp2_with fail
            go_quiet (first | (with_reducible refine Calls.quiet_of_same (K2.out _)) | (with_reducible refine Calls.quiet_of_same (K1.out _)))
            have ow6 := (owo5.drewN nq).alloc (.cells #[.int .i64 (k : Int)] 3)
            go_wp2_with ((with_reducible show wpList _ _ _ (⟨some 44, _, _, _, _, _⟩ :: _) _ _); refine wpList_app _ rfl _ _ 26 rfl 3 Try.underlying26 infoInt rfl rfl rfl ow6 (Rd.one _ _ _) (one_int _) (by omega) (by unfold maxLen; omega) ?_; intro a7 cap7 L7 w7 ow7 kp7 st7)
            rw [ints_snoc] at ow7
            have hk2' : 2 ≤ k := by
              rcases (show k = 0 ∨ k = 1 ∨ 2 ≤ k by omega) with h | h | h
              · exfalso; subst h; have h1 := HD2.out; rw [flipL_zero, HDX.out] at h1; omega
              · exfalso; subst h; have h1 := HD2.out; rw [flipL_one, HDX.out] at h1; omega
              · exact h
            have hb6 : Below w.heap.size w (w5.drewN nq) := hb5.trans (below_drewN (Below.refl _ _) _)
            have hs6 : w.heap.size ≤ w5.heap.size := hb5.size
            have hB5 : B < w5.heap.size := om5.lt
            have kpd : Keeps [] w5 ((w5.drewN nq).alloc (.cells #[.int .i64 (k : Int)] 3)) := (Keeps.drewN [] w5 nq).trans (Keeps.alloc [] _ _) (Step.refl _ _)
            have ow8 := (ow5.keep kpd (fun _ _ h => by cases h)).keep kp7 ap5.symm
            have om8 : OM w7 B (dst n) := ownsMap_keep (ownsMap_keep om5 kpd (by simp)) kp7 hBo
            have hb8 : Below w.heap.size w w7 := kp7.below (hb6.alloc hb6.size _) nwo (by simp; omega)
            have nw8 : New w.heap.size L7 := st7.new nwo (by simp; omega)
            have ap8 : Apart L7 L5 := ap5.step st7 (ow5.keep kpd (fun _ _ h => by cases h)).old
            have nb8 : B ∉ L7 := fun h => by
              rcases st7 _ h with h1 | h1
              · exact hBo h1
              · simp at h1; omega
            go_roundw
            case rel => exact ⟨flipL x k, pre ++ [(k : Int)], L7, a7, on + 1, cap7, L5, a5, cap5, rfl, rfl, HOY.out, by rw [HD2.out]; have := HDD.out; omega, fun t ht => by
              rw [List.append_assoc]
              exact HBEST.out _ (.cons x k t hk2' hk (by rw [HD2.out, HDX.out]; omega) (fun k' h1 h2 h3 => HNO.out k' h2 (by rw [HDX.out] at h3; omega)) ht), ow7, nw8, ow8, n5.mono (by have := hb.size; omega), ap8, om8, nb8, hb8⟩
            case measure => simp [slenB]; have := HDD.out; omega
          · go_wp2_with fail
            go_quiet (first | (with_reducible refine Calls.quiet_of_same (K2.out _)) | (with_reducible refine Calls.quiet_of_same (K1.out _)))
            go_wp2_with fail
            go_roundw
            case rel => exact ⟨k + 1, rfl, rfl, by go_num, by omega, fun k' hk' => by
              rcases Nat.lt_or_ge k' k with h | h
              · exact HNO.out k' h
              · obtain rfl : k' = k := by omega
                rw [HD2.out]; exact hlt, owo5.drewN _, owl5.drewN _, om5.drewN _, hb5.trans (below_drewN (Below.refl _ _) _)⟩
            case measure => simp [intOf]; omega
        · exfalso
          obtain ⟨m, h1, h2, h3⟩ := HDN.out hpos
          exact HNO.out m (by omega) (by omega)
    · have HE := Lib.hid (HZ.out.1 (by omega))
      go_wp2_with fail
      refine (CK.out _ owl.rd).mono ?_
      rintro e w' ⟨rfl, rfl⟩
      go_wp2_with fail
      go_ret2
      have hfin : Best n xs pre := by
        have h := HBEST.out [] (by rw [HE.out]; exact .nil)
        rwa [List.append_nil] at h
      exact ⟨oa, on, oc, rfl, by rw [HV.out, HL.out, ← bestL_eq (by omega) HO.out hfin]; exact ⟨Lo, owo, nwo⟩, by omega, hb⟩


end Go.Proofs.Ytfnkddplmpcbgaa

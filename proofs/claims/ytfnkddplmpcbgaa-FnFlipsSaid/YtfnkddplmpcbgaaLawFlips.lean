/- The law of prefix reversals, walked out of the contracts (printed by flips.py). No condition. -/
import Derived.Test.YtfnkddplmpcbgaaFlipsL
import Derived.Test.YtfnkddplmpcbgaaDraw
import Derived.Test.YtfnkddplmpcbgaaDistV
namespace Go.Proofs.Ytfnkddplmpcbgaa
open Go.RowKit
set_option linter.unusedVariables false
set_option linter.unusedSimpArgs false

theorem smN_mono (f : Nat → Nat) {a b : Nat} (h : a ≤ b) : smN f a ≤ smN f b := by
  induction b with
  | zero => obtain rfl : a = 0 := by omega
            exact Nat.le_refl _
  | succ b ih =>
    rcases Nat.lt_or_ge b a with h1 | h1
    · obtain rfl : a = b + 1 := by omega
      exact Nat.le_refl _
    · have := ih h1; simp only [smN]; omega
theorem facN_le {k : Nat} (h : k ≤ 5) : facN k ≤ 120 := by
  rcases (show k = 0 ∨ k = 1 ∨ k = 2 ∨ k = 3 ∨ k = 4 ∨ k = 5 by omega) with rfl | rfl | rfl | rfl | rfl | rfl <;> decide

set_option maxRecDepth 1000000 in
set_option maxHeartbeats 16000000 in
theorem w_FnFlips (a : Option Addr) (n cap : Nat) (bs : List Int) (w : World) (hr : Rd w a n cap (bys bs)) :
    Calls Try.prog 7 #[.slice a n cap] w fun e w' => e = .returned (.bool true) ∧ Below w.heap.size w w' := by
  by_cases hn : n ≤ 1048576
  case neg =>
    go_enter Try.func7, Try.ntmps7
    go_wp2
    go_ret
    exact ⟨rfl, Below.refl _ _⟩
  have CM := Lib.hid (c_MakeSize a n cap bs 0 0 5 w hr hn (by omega) (by omega) (by omega) : Calls Try.prog 20 #[.slice a n cap, .int .i64 0, .int .i64 0, .int .i64 5] w _)
  go_enter Try.func7, Try.ntmps7
  go_wp2_with fail
  refine CM.out.mono ?_
  rintro e w1 ⟨k, rfl, _, hk5, b1⟩
  clear CM
  have CO := Lib.hid (c_MakeOrder a n cap bs 10 k w1 (hr.below b1) hn (by omega) (by omega) : Calls Try.prog 21 #[.slice a n cap, .int .i64 10, .int .i64 k] w1 _)
  go_wp2_with fail
  refine CO.out.mono ?_
  rintro e w2 ⟨oa, oc, xs, rfl, ho, ⟨Lo, owo, nwo⟩, b2⟩
  clear CO
  have B2 := Below.nx b1 b2
  have F := Lib.hid (flF ho hk5)
  have K := Lib.hid (chkF hk5)
  have HLX := Lib.hid ho.1
  have C1 := Lib.hid (ci_GreedyFlips oa k oc xs w2 owo.rd)
  go_wp2_with fail
  refine C1.out.mono ?_
  rintro e w3 ⟨ga, gn, gc, rfl, ⟨Lg, owg, nwg⟩, _, b3⟩
  clear C1
  have B3 := Below.nx B2 b3
  have owo := owo.below b3
  have hgn : (grV xs).length = gn := owg.lens
  have C2 := ci_RunFlips oa k oc xs ga gn gc (grV xs) w3 owo.rd owg.rd
  rw [F.out.g1, F.out.g2] at C2
  have C2 := Lib.hid C2
  go_wp2_with fail
  refine C2.out.mono ?_
  rintro e w4 ⟨aa, an, ac, rfl, ⟨La, owa, nwa⟩, _, b4⟩
  clear C2
  obtain rfl : k = an := by rw [← owa.lens, idn_len]
  have B4 := Below.nx B3 b4
  have owo := owo.below b4
  have C3 := ci_FlipDistance oa k oc xs w4 owo.rd
  rw [fdV_yes F.out.six, HLX.out] at C3
  have hdm := dv_max (by omega) ho
  have hgp := F.out.gap
  have hgl := F.out.gl
  have hgu := F.out.gu
  have hz := dv_zero (by omega) ho
  have hfl := fun j hj => dv_flip (n := k) (by omega) ho j hj
  have hbk := fun j hj => dv_back (n := k) (by omega) ho j hj
  obtain ⟨d, hd⟩ : ∃ d, dv k xs = d := ⟨_, rfl⟩
  have hbl := F.out.bl
  rw [hd] at C3 hdm hgp hgl hz hfl hbk hbl
  rw [hgn] at hgl hgu
  have HFL := Lib.hid hfl
  have HBK := Lib.hid hbk
  have HZ := Lib.hid hz
  have HD := Lib.hid hd
  have HBL := Lib.hid hbl
  have hmx : maxD (dst k) ≤ 10 := K.out.mx
  have hgv : gapV xs = gapC xs k k := by unfold gapV; rw [F.out.per, HLX.out]; rfl
  have hgf := fun j hj => gap_flip (n := k) (k := j) HLX.out hj
  obtain ⟨gp, hgp2⟩ : ∃ g, gapC xs k k = g := ⟨_, rfl⟩
  rw [hgp2] at hgp hgf hgv
  have HGF := Lib.hid hgf
  have HGV := Lib.hid hgv
  obtain ⟨mx, hmx2⟩ : ∃ m, maxD (dst k) = m := ⟨_, rfl⟩
  rw [hmx2] at hdm hmx
  have HMX := Lib.hid hmx2
  have HO := Lib.hid ho
  clear hgp2 hgv hgf hmx2 ho hz hfl hbk hd hgn hbl
  by_cases hk2 : (2 : Int) < 2 * (k : Int)
  · have C3 := Lib.hid C3
    go_wp2_with fail
    refine C3.out.mono ?_
    rintro e w5 ⟨rfl, b5⟩
    clear C3
    have B5 := Below.nx B4 b5
    have owo := owo.below b5
    have owa := owa.below b5
    have C4 := ci_BestFlips oa k oc xs w5 owo.rd
    rw [F.out.six] at C4
    have C4 := Lib.hid C4
    go_wp2_with fail
    refine C4.out.mono ?_
    rintro e w6 ⟨la, ln, lc, rfl, ⟨Ll, owl, nwl⟩, _, b6⟩
    clear C4
    have hln : (bfL xs).length = ln := owl.lens
    obtain rfl : d = ln := by rw [← hln, HBL.out]
    clear hln
    have B6 := Below.nx B5 b6
    have owo := owo.below b6
    have owa := owa.below b6
    have C5 := ci_RunFlips oa k oc xs la d lc (bfL xs) w6 owo.rd owl.rd
    rw [F.out.b1, F.out.b2] at C5
    have C5 := Lib.hid C5
    go_wp2_with fail
    refine C5.out.mono ?_
    rintro e w7 ⟨ba, bn, bc, rfl, ⟨Lb, owb, nwb⟩, _, b7⟩
    clear C5
    obtain rfl : k = bn := by rw [← owb.lens, idn_len]
    have B7 := Below.nx B6 b7
    have owo := owo.below b7
    have owa := owa.below b7
    have R1 := c_rises aa k ac (idn k) w7 owa.rd (by omega)
    rw [riseB_yes ((rise_idn (idn_order k)).2 rfl)] at R1
    have R1 := Lib.hid R1
    go_wp2_with fail
    refine R1.out.mono ?_
    rintro e w8 ⟨rfl, b8⟩
    clear R1
    have B8 := Below.nx B7 b8
    have owo := owo.below b8
    have owb := owb.below b8
    have R2 := c_rises ba k bc (idn k) w8 owb.rd (by omega)
    rw [riseB_yes ((rise_idn (idn_order k)).2 rfl)] at R2
    have R2 := Lib.hid R2
    go_wp2_with fail
    refine R2.out.mono ?_
    rintro e w9 ⟨rfl, b9⟩
    clear R2
    have B9 := Below.nx B8 b9
    have owo := owo.below b9
    have G1 := ci_GapsOf oa k oc xs w9 owo.rd
    rw [HGV.out] at G1
    have G1 := Lib.hid G1
    go_wp2_with fail
    refine G1.out.mono ?_
    rintro e w10 ⟨rfl, b10⟩
    clear G1
    have B10 := Below.nx B9 b10
    have owo := owo.below b10
    have M1 := ci_MostFlips (k : Int) w10
    rw [mfV_yes hk5, HMX.out] at M1
    have M1 := Lib.hid M1
    go_wp2_with fail
    refine M1.out.mono ?_
    rintro e w11 ⟨rfl, b11⟩
    clear M1
    have B11 := Below.nx B10 b11
    have owo := owo.below b11
    obtain ⟨bb, hb1, hb2⟩ : ∃ bb, ((d : Int) == 0) = bb ∧ riseB xs = bb := by
      by_cases h0 : d = 0
      · exact ⟨true, by simp [h0], riseB_yes ((rise_idn HO.out).2 (HZ.out.1 h0))⟩
      · exact ⟨false, by simp; omega, riseB_no (fun h => h0 (HZ.out.2 ((rise_idn HO.out).1 h)))⟩
    have HB2 := Lib.hid hb2
    clear hb2
    have R3 := c_rises oa k oc xs w11 owo.rd (by omega)
    rw [HB2.out] at R3
    have R3 := Lib.hid R3
    go_wp2_with fail
    refine R3.out.mono ?_
    rintro e w12 ⟨rfl, b12⟩
    clear R3
    have B12 := Below.nx B11 b12
    have owo := owo.below b12
    clear owa owb owl owg b1 b2 b3 b4 b5 b6 b7 b8 b9 b10 b11 b12 B2 B3 B4 B5 B6 B7 B8 B9 B10 B11
    have CM2 := Lib.hid (c_MakeSize a n cap bs 1 0 k w12 (hr.below B12) hn (by omega) (by omega) (by omega) : Calls Try.prog 20 #[.slice a n cap, .int .i64 1, .int .i64 0, .int .i64 k] w12 _)
    go_wp2_with fail
    refine CM2.out.mono ?_
    rintro e w13 ⟨j, rfl, _, hjk, b13⟩
    clear CM2
    have B13 := Below.nx B12 b13
    have owo := owo.below b13
    have P1 := ci_FlipPrefix oa k oc xs (j : Int) w13 owo.rd
    have hjl : j ≤ xs.length := by rw [HLX.out]; exact hjk
    rw [(fp_yes F.out.per hjl).1, (fp_yes F.out.per hjl).2] at P1
    have P1 := Lib.hid P1
    clear hjl
    have hof := HO.out.flip j hjk
    have HPF := Lib.hid (order_isPerm hof (by omega))
    have HOF := Lib.hid hof
    clear hof
    go_wp2_with fail
    refine P1.out.mono ?_
    rintro e w14 ⟨fa, fn, fc, rfl, ⟨Lf, owf, nwf⟩, _, b14⟩
    clear P1
    obtain rfl : k = fn := by rw [← owf.lens, flipL_len, HLX.out]
    have B14 := Below.nx B13 b14
    have owo := owo.below b14
    have P2 := ci_FlipPrefix fa k fc (flipL xs j) (j : Int) w14 owf.rd
    have hjl : j ≤ (flipL xs j).length := by rw [flipL_len, HLX.out]; exact hjk
    rw [(fp_yes HPF.out hjl).1, (fp_yes HPF.out hjl).2, flipL_twice (by rw [HLX.out]; exact hjk)] at P2
    have P2 := Lib.hid P2
    clear hjl
    go_wp2_with fail
    refine P2.out.mono ?_
    rintro e w15 ⟨ha, hn', hc, rfl, ⟨Lh, owh, nwh⟩, _, b15⟩
    clear P2
    obtain rfl : k = hn' := by rw [← owh.lens, HLX.out]
    have B15 := Below.nx B14 b15
    have owo := owo.below b15
    have owf := owf.below b15
    have D2 := ci_FlipDistance fa k fc (flipL xs j) w15 owf.rd
    have hsf : sixB (flipL xs j) = true := by unfold sixB; rw [HPF.out, flipL_len, HLX.out, decide_eq_true (show k ≤ 6 by omega)]; rfl
    rw [fdV_yes hsf, flipL_len, HLX.out] at D2
    have hfl := HFL.out j hjk
    have hbk := HBK.out j hjk
    generalize dv k (flipL xs j) = d2 at *
    have D2 := Lib.hid D2
    clear hsf
    go_wp2_with fail
    refine D2.out.mono ?_
    rintro e w16 ⟨rfl, b16⟩
    clear D2
    have B16 := Below.nx B15 b16
    have owo := owo.below b16
    have owf := owf.below b16
    have owh := owh.below b16
    have S1 := Lib.hid (c_same ha oa k hc k oc xs w16 owh.rd owo.rd (by omega))
    go_wp2_with fail
    refine S1.out.mono ?_
    rintro e w17 ⟨rfl, b17⟩
    clear S1
    have B17 := Below.nx B16 b17
    have owo := owo.below b17
    have owf := owf.below b17
    have G2 := ci_GapsOf fa k fc (flipL xs j) w17 owf.rd
    have hgv2 : gapV (flipL xs j) = gapC (flipL xs j) k k := by unfold gapV; rw [HPF.out, flipL_len, HLX.out]; rfl
    rw [hgv2] at G2
    have hgf := HGF.out j hjk
    have hgl2 := gapC_le (flipL xs j) k k
    clear hgv2
    generalize gapC (flipL xs j) k k = gp2 at *
    have G2 := Lib.hid G2
    go_wp2_with fail
    refine G2.out.mono ?_
    rintro e w18 ⟨rfl, b18⟩
    clear G2
    have B18 := Below.nx B17 b18
    have owo := owo.below b18
    have G3 := ci_GapsOf oa k oc xs w18 owo.rd
    rw [HGV.out] at G3
    have G3 := Lib.hid G3
    go_wp2_with fail
    refine G3.out.mono ?_
    rintro e w19 ⟨rfl, b19⟩
    clear G3
    have B19 := Below.nx B18 b19
    clear b13 b14 b15 b16 b17 b18 b19 B13 B14 B15 B16 B17 B18 owo owf owh
    have hfac := facN_le hk5
    have HSA := Lib.hid (sum_all hk5)
    go_wp2_with fail
    go_loopw [19, 20] (fun s x wr => ∃ q : Nat, q ≤ 11 ∧ x = .int .i64 q ∧ s = .int .i64 (smN (cntD (dst k)) q) ∧ Below w.heap.size w wr) (fun _ x _ => 11 - (intOf x).toNat)
    case atStart => exact ⟨0, by omega, rfl, rfl, B19⟩
    case round =>
      clear B19
      obtain ⟨q, hq, rfl, rfl, hb⟩ := hrel
      by_cases hq1 : q < 11
      · have X1 := ci_CountAtDistance (k : Int) (q : Int) wr
        rw [cdV_yes hk5 (by omega)] at X1
        have hpos := K.out.pos q (by omega)
        have hs1 := smN_mono (cntD (dst k)) (show q + 1 ≤ 11 by omega)
        rw [HSA.out] at hs1
        simp only [smN] at hs1
        have HST := Lib.hid (show smN (cntD (dst k)) (q + 1) = smN (cntD (dst k)) q + cntD (dst k) q from rfl)
        rw [HMX.out] at hpos
        generalize smN (cntD (dst k)) q = sq at *
        generalize cntD (dst k) q = cq at *
        have X1 := Lib.hid X1
        by_cases hc : 0 < cq
        · have hqm := hpos.1 hc
          clear hpos
          go_wp2_with fail
          refine X1.out.mono ?_
          rintro e w20 ⟨rfl, b20⟩
          have M2 := ci_MostFlips (k : Int) w20
          rw [mfV_yes hk5, HMX.out] at M2
          have M2 := Lib.hid M2
          go_wp2_with fail
          refine M2.out.mono ?_
          rintro e w21 ⟨rfl, b21⟩
          have hb2 := Below.nx (Below.nx hb b20) b21
          go_wp2_with fail
          go_roundw
          case rel => exact ⟨q + 1, by omega, by go_num, int_eq (by rw [HST.out]; omega), hb2⟩
          case measure => simp [intOf]; omega
        · obtain rfl : cq = 0 := by omega
          have hqm : ¬ q ≤ mx := fun h => by have := hpos.2 h; omega
          clear hpos
          go_wp2_with fail
          refine X1.out.mono ?_
          rintro e w20 ⟨rfl, b20⟩
          have M2 := ci_MostFlips (k : Int) w20
          rw [mfV_yes hk5, HMX.out] at M2
          have M2 := Lib.hid M2
          go_wp2_with fail
          refine M2.out.mono ?_
          rintro e w21 ⟨rfl, b21⟩
          have hb2 := Below.nx (Below.nx hb b20) b21
          go_wp2_with fail
          go_roundw
          case rel => exact ⟨q + 1, by omega, by go_num, int_eq (by rw [HST.out]; omega), hb2⟩
          case measure => simp [intOf]; omega
      · obtain rfl : q = 11 := by omega
        have hc0 := K.out.c0
        have hc1 := K.out.c1
        rw [HSA.out]
        have X0 : ∀ wx : World, Calls Try.prog 11 #[.int .i64 (k : Int), .int .i64 0] wx fun e w' => e = .returned (.int .i64 1) ∧ Below wx.heap.size wx w' := fun wx => by
          have h := ci_CountAtDistance (k : Int) ((0 : Nat) : Int) wx
          rw [cdV_yes hk5 (by omega), hc0] at h
          exact h
        have X1 : ∀ wx : World, Calls Try.prog 11 #[.int .i64 (k : Int), .int .i64 1] wx fun e w' => e = .returned (.int .i64 ((k - 1 : Nat) : Int)) ∧ Below wx.heap.size wx w' := fun wx => by
          have h := ci_CountAtDistance (k : Int) ((1 : Nat) : Int) wx
          rw [cdV_yes hk5 (by omega), hc1] at h
          exact h
        have X0 := Lib.hid X0
        have X1 := Lib.hid X1
        clear hc0 hc1 HSA
        rcases (show k = 2 ∨ k = 3 ∨ k = 4 ∨ k = 5 by omega) with rfl | rfl | rfl | rfl
        all_goals
          simp only [facN]
          go_wp2_with fail
          refine (X0.out _).mono ?_
          rintro e w30 ⟨rfl, b30⟩
          have hb3 : Below w.heap.size w w30 := Below.nx (hb.alloc hb.size _) b30
          clear b30
          go_wp2_with fail
          refine (X1.out _).mono ?_
          rintro e w31 ⟨rfl, b31⟩
          have hb4 := Below.nx hb3 b31
          clear b31
          go_wp2_with fail
          go_ret
          exact ⟨rfl, hb4⟩
  · obtain rfl : gn = 0 := by omega
    obtain rfl : d = 0 := by omega
    obtain rfl : gp = 0 := by omega
    have C3 := Lib.hid C3
    go_wp2_with fail
    refine C3.out.mono ?_
    rintro e w5 ⟨rfl, b5⟩
    clear C3
    have B5 := Below.nx B4 b5
    have owo := owo.below b5
    have owa := owa.below b5
    have C4 := ci_BestFlips oa k oc xs w5 owo.rd
    rw [F.out.six] at C4
    have C4 := Lib.hid C4
    go_wp2_with fail
    refine C4.out.mono ?_
    rintro e w6 ⟨la, ln, lc, rfl, ⟨Ll, owl, nwl⟩, _, b6⟩
    clear C4
    have hln : (bfL xs).length = ln := owl.lens
    obtain rfl : 0 = ln := by rw [← hln, HBL.out]
    clear hln
    have B6 := Below.nx B5 b6
    have owo := owo.below b6
    have owa := owa.below b6
    have C5 := ci_RunFlips oa k oc xs la 0 lc (bfL xs) w6 owo.rd owl.rd
    rw [F.out.b1, F.out.b2] at C5
    have C5 := Lib.hid C5
    go_wp2_with fail
    refine C5.out.mono ?_
    rintro e w7 ⟨ba, bn, bc, rfl, ⟨Lb, owb, nwb⟩, _, b7⟩
    clear C5
    obtain rfl : k = bn := by rw [← owb.lens, idn_len]
    have B7 := Below.nx B6 b7
    have owo := owo.below b7
    have owa := owa.below b7
    have R1 := c_rises aa k ac (idn k) w7 owa.rd (by omega)
    rw [riseB_yes ((rise_idn (idn_order k)).2 rfl)] at R1
    have R1 := Lib.hid R1
    go_wp2_with fail
    refine R1.out.mono ?_
    rintro e w8 ⟨rfl, b8⟩
    clear R1
    have B8 := Below.nx B7 b8
    have owo := owo.below b8
    have owb := owb.below b8
    have R2 := c_rises ba k bc (idn k) w8 owb.rd (by omega)
    rw [riseB_yes ((rise_idn (idn_order k)).2 rfl)] at R2
    have R2 := Lib.hid R2
    go_wp2_with fail
    refine R2.out.mono ?_
    rintro e w9 ⟨rfl, b9⟩
    clear R2
    have B9 := Below.nx B8 b9
    have owo := owo.below b9
    have G1 := ci_GapsOf oa k oc xs w9 owo.rd
    rw [HGV.out] at G1
    have G1 := Lib.hid G1
    go_wp2_with fail
    refine G1.out.mono ?_
    rintro e w10 ⟨rfl, b10⟩
    clear G1
    have B10 := Below.nx B9 b10
    have owo := owo.below b10
    have M1 := ci_MostFlips (k : Int) w10
    rw [mfV_yes hk5, HMX.out] at M1
    have M1 := Lib.hid M1
    go_wp2_with fail
    refine M1.out.mono ?_
    rintro e w11 ⟨rfl, b11⟩
    clear M1
    have B11 := Below.nx B10 b11
    have owo := owo.below b11
    have HB2 := Lib.hid (show riseB xs = true from riseB_yes ((rise_idn HO.out).2 (HZ.out.1 (by trivial))))
    have R3 := c_rises oa k oc xs w11 owo.rd (by omega)
    rw [HB2.out] at R3
    have R3 := Lib.hid R3
    go_wp2_with fail
    refine R3.out.mono ?_
    rintro e w12 ⟨rfl, b12⟩
    clear R3
    have B12 := Below.nx B11 b12
    have owo := owo.below b12
    clear owa owb owl owg b1 b2 b3 b4 b5 b6 b7 b8 b9 b10 b11 b12 B2 B3 B4 B5 B6 B7 B8 B9 B10 B11
    have CM2 := Lib.hid (c_MakeSize a n cap bs 1 0 k w12 (hr.below B12) hn (by omega) (by omega) (by omega) : Calls Try.prog 20 #[.slice a n cap, .int .i64 1, .int .i64 0, .int .i64 k] w12 _)
    go_wp2_with fail
    refine CM2.out.mono ?_
    rintro e w13 ⟨j, rfl, _, hjk, b13⟩
    clear CM2
    have B13 := Below.nx B12 b13
    have owo := owo.below b13
    have P1 := ci_FlipPrefix oa k oc xs (j : Int) w13 owo.rd
    have hjl : j ≤ xs.length := by rw [HLX.out]; exact hjk
    rw [(fp_yes F.out.per hjl).1, (fp_yes F.out.per hjl).2] at P1
    have P1 := Lib.hid P1
    clear hjl
    have hof := HO.out.flip j hjk
    have HPF := Lib.hid (order_isPerm hof (by omega))
    have HOF := Lib.hid hof
    clear hof
    go_wp2_with fail
    refine P1.out.mono ?_
    rintro e w14 ⟨fa, fn, fc, rfl, ⟨Lf, owf, nwf⟩, _, b14⟩
    clear P1
    obtain rfl : k = fn := by rw [← owf.lens, flipL_len, HLX.out]
    have B14 := Below.nx B13 b14
    have owo := owo.below b14
    have P2 := ci_FlipPrefix fa k fc (flipL xs j) (j : Int) w14 owf.rd
    have hjl : j ≤ (flipL xs j).length := by rw [flipL_len, HLX.out]; exact hjk
    rw [(fp_yes HPF.out hjl).1, (fp_yes HPF.out hjl).2, flipL_twice (by rw [HLX.out]; exact hjk)] at P2
    have P2 := Lib.hid P2
    clear hjl
    go_wp2_with fail
    refine P2.out.mono ?_
    rintro e w15 ⟨ha, hn', hc, rfl, ⟨Lh, owh, nwh⟩, _, b15⟩
    clear P2
    obtain rfl : k = hn' := by rw [← owh.lens, HLX.out]
    have B15 := Below.nx B14 b15
    have owo := owo.below b15
    have owf := owf.below b15
    have D2 := ci_FlipDistance fa k fc (flipL xs j) w15 owf.rd
    have hsf : sixB (flipL xs j) = true := by unfold sixB; rw [HPF.out, flipL_len, HLX.out, decide_eq_true (show k ≤ 6 by omega)]; rfl
    rw [fdV_yes hsf, flipL_len, HLX.out] at D2
    have hfl := HFL.out j hjk
    have hbk := HBK.out j hjk
    generalize dv k (flipL xs j) = d2 at *
    have D2 := Lib.hid D2
    clear hsf
    go_wp2_with fail
    refine D2.out.mono ?_
    rintro e w16 ⟨rfl, b16⟩
    clear D2
    have B16 := Below.nx B15 b16
    have owo := owo.below b16
    have owf := owf.below b16
    have owh := owh.below b16
    have S1 := Lib.hid (c_same ha oa k hc k oc xs w16 owh.rd owo.rd (by omega))
    go_wp2_with fail
    refine S1.out.mono ?_
    rintro e w17 ⟨rfl, b17⟩
    clear S1
    have B17 := Below.nx B16 b17
    have owo := owo.below b17
    have owf := owf.below b17
    have G2 := ci_GapsOf fa k fc (flipL xs j) w17 owf.rd
    have hgv2 : gapV (flipL xs j) = gapC (flipL xs j) k k := by unfold gapV; rw [HPF.out, flipL_len, HLX.out]; rfl
    rw [hgv2] at G2
    have hgf := HGF.out j hjk
    have hgl2 := gapC_le (flipL xs j) k k
    clear hgv2
    generalize gapC (flipL xs j) k k = gp2 at *
    have G2 := Lib.hid G2
    go_wp2_with fail
    refine G2.out.mono ?_
    rintro e w18 ⟨rfl, b18⟩
    clear G2
    have B18 := Below.nx B17 b18
    have owo := owo.below b18
    have G3 := ci_GapsOf oa k oc xs w18 owo.rd
    rw [HGV.out] at G3
    have G3 := Lib.hid G3
    go_wp2_with fail
    refine G3.out.mono ?_
    rintro e w19 ⟨rfl, b19⟩
    clear G3
    have B19 := Below.nx B18 b19
    clear b13 b14 b15 b16 b17 b18 b19 B13 B14 B15 B16 B17 B18 owo owf owh
    have hfac := facN_le hk5
    have HSA := Lib.hid (sum_all hk5)
    go_wp2_with fail
    go_loopw [19, 20] (fun s x wr => ∃ q : Nat, q ≤ 11 ∧ x = .int .i64 q ∧ s = .int .i64 (smN (cntD (dst k)) q) ∧ Below w.heap.size w wr) (fun _ x _ => 11 - (intOf x).toNat)
    case atStart => exact ⟨0, by omega, rfl, rfl, B19⟩
    case round =>
      clear B19
      obtain ⟨q, hq, rfl, rfl, hb⟩ := hrel
      by_cases hq1 : q < 11
      · have X1 := ci_CountAtDistance (k : Int) (q : Int) wr
        rw [cdV_yes hk5 (by omega)] at X1
        have hpos := K.out.pos q (by omega)
        have hs1 := smN_mono (cntD (dst k)) (show q + 1 ≤ 11 by omega)
        rw [HSA.out] at hs1
        simp only [smN] at hs1
        have HST := Lib.hid (show smN (cntD (dst k)) (q + 1) = smN (cntD (dst k)) q + cntD (dst k) q from rfl)
        rw [HMX.out] at hpos
        generalize smN (cntD (dst k)) q = sq at *
        generalize cntD (dst k) q = cq at *
        have X1 := Lib.hid X1
        by_cases hc : 0 < cq
        · have hqm := hpos.1 hc
          clear hpos
          go_wp2_with fail
          refine X1.out.mono ?_
          rintro e w20 ⟨rfl, b20⟩
          have M2 := ci_MostFlips (k : Int) w20
          rw [mfV_yes hk5, HMX.out] at M2
          have M2 := Lib.hid M2
          go_wp2_with fail
          refine M2.out.mono ?_
          rintro e w21 ⟨rfl, b21⟩
          have hb2 := Below.nx (Below.nx hb b20) b21
          go_wp2_with fail
          go_roundw
          case rel => exact ⟨q + 1, by omega, by go_num, int_eq (by rw [HST.out]; omega), hb2⟩
          case measure => simp [intOf]; omega
        · obtain rfl : cq = 0 := by omega
          have hqm : ¬ q ≤ mx := fun h => by have := hpos.2 h; omega
          clear hpos
          go_wp2_with fail
          refine X1.out.mono ?_
          rintro e w20 ⟨rfl, b20⟩
          have M2 := ci_MostFlips (k : Int) w20
          rw [mfV_yes hk5, HMX.out] at M2
          have M2 := Lib.hid M2
          go_wp2_with fail
          refine M2.out.mono ?_
          rintro e w21 ⟨rfl, b21⟩
          have hb2 := Below.nx (Below.nx hb b20) b21
          go_wp2_with fail
          go_roundw
          case rel => exact ⟨q + 1, by omega, by go_num, int_eq (by rw [HST.out]; omega), hb2⟩
          case measure => simp [intOf]; omega
      · obtain rfl : q = 11 := by omega
        have hc0 := K.out.c0
        have hc1 := K.out.c1
        rw [HSA.out]
        have X0 : ∀ wx : World, Calls Try.prog 11 #[.int .i64 (k : Int), .int .i64 0] wx fun e w' => e = .returned (.int .i64 1) ∧ Below wx.heap.size wx w' := fun wx => by
          have h := ci_CountAtDistance (k : Int) ((0 : Nat) : Int) wx
          rw [cdV_yes hk5 (by omega), hc0] at h
          exact h
        have X1 : ∀ wx : World, Calls Try.prog 11 #[.int .i64 (k : Int), .int .i64 1] wx fun e w' => e = .returned (.int .i64 ((k - 1 : Nat) : Int)) ∧ Below wx.heap.size wx w' := fun wx => by
          have h := ci_CountAtDistance (k : Int) ((1 : Nat) : Int) wx
          rw [cdV_yes hk5 (by omega), hc1] at h
          exact h
        have X0 := Lib.hid X0
        have X1 := Lib.hid X1
        clear hc0 hc1 HSA
        rcases (show k = 0 ∨ k = 1 by omega) with rfl | rfl
        all_goals
          simp only [facN]
          go_wp2_with fail
          refine (X0.out _).mono ?_
          rintro e w30 ⟨rfl, b30⟩
          have hb3 : Below w.heap.size w w30 := Below.nx (hb.alloc hb.size _) b30
          clear b30
          go_wp2_with fail
          refine (X1.out _).mono ?_
          rintro e w31 ⟨rfl, b31⟩
          have hb4 := Below.nx hb3 b31
          clear b31
          go_wp2_with fail
          go_ret
          exact ⟨rfl, hb4⟩

end Go.Proofs.Ytfnkddplmpcbgaa

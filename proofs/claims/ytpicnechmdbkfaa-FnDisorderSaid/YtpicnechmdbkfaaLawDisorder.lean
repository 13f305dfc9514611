/- The law of disorder, walked out of the contracts. No condition. -/
import Derived.Test.YtpicnechmdbkfaaLawsH
import Derived.Test.YtpicnechmdbkfaaInB
import Derived.Test.YtpicnechmdbkfaaNear
import Derived.Deep.CutRange
namespace Go.Proofs.Ytpicnechmdbkfaa
open Go.RowKit
set_option linter.unusedVariables false
set_option linter.unusedSimpArgs false

/-- All that the law asks of the first list. -/
structure DisF (xs : List Int) (z : Nat) (I R r f b : Int) (zr : Bool) : Prop where
  dis : disV xs = [I, R, r, f]
  inv : invV xs = I
  run : runsV xs = R
  rem : remV xs = r
  far : farV xs = f
  lon : longV leB xs = b
  lef : leftV xs = leftC xs z
  sum : sumI (leftC xs z) z = I
  ord : ordV xs = ordL xs z
  sta : isStV xs (ordL xs z) = true
  ris : rsB xs = zr
  bd : 0 ≤ I ∧ I ≤ 144 ∧ 0 ≤ R ∧ R ≤ 12 ∧ R - 1 ≤ I ∧ 0 ≤ r ∧ r ≤ 12 ∧ r ≤ I ∧ 0 ≤ f ∧ f ≤ I ∧ 0 ≤ b ∧ b ≤ 12 ∧ r + b = (z : Int)
  zI : (I == 0) = zr
  zr' : (r == 0) = zr
  zf : (f == 0) = zr
theorem dis_facts {xs : List Int} {z : Nat} (hxl : xs.length = z) (hz : z ≤ 12) : ∃ I R r f b zr, DisF xs z I R r f b zr := by
  obtain ⟨f, hf1, hf2, hf3⟩ := far_val hxl hz
  obtain ⟨r, lb, hr1, hr2, hr3, hr4, hr5⟩ := rem_val hxl hz
  have hrun := runs_inv xs z
  have hi1 : invV xs = (sumC xs z : Int) := by unfold invV; rw [hxl, if_pos hz]
  have hu1 : runsV xs = (runsTo xs z : Int) := by unfold runsV; rw [hxl, if_pos hz]
  have hile := sumC_le xs z
  have hule := runsTo_le xs z
  have hzz : z * z ≤ 144 := Nat.mul_le_mul hz hz
  refine ⟨(sumC xs z : Int), (runsTo xs z : Int), (r : Int), (f : Int), (lb : Int), decide (sumC xs z = 0), ?_, hi1, hu1, hr1, hf1, hr2, left_val hxl hz, sumI_left xs z z (Nat.le_refl _), ?_, ?_, ?_, ?_, ?_, ?_, ?_⟩
  · unfold disV; rw [hxl, if_pos hz, hi1, hu1, hr1, hf1]
  · unfold ordV ordL; rw [hxl, if_pos hz]
  · unfold isStV; simp [hxl, hz]
  · unfold rsB; rw [hxl]
  · omega
  · rw [Bool.eq_iff_iff, beq_iff_eq, decide_eq_true_iff]; omega
  · rw [Bool.eq_iff_iff, beq_iff_eq, decide_eq_true_iff]; omega
  · rw [Bool.eq_iff_iff, beq_iff_eq, decide_eq_true_iff]; omega
theorem sumI_bd {xs : List Int} {n : Nat} (h : ∀ i, i < n → 0 ≤ nth xs i ∧ nth xs i ≤ 1000) (k : Nat) (hk : k ≤ n) : 0 ≤ sumI xs k ∧ sumI xs k ≤ 1000 * k := by
  induction k with
  | zero => simp [sumI]
  | succ k ih => have := ih (by omega); have := h k (by omega); simp only [sumI]; omega
theorem leftC_bd (xs : List Int) (z : Nat) (hz : z ≤ 12) (k : Nat) (hk : k ≤ z) : -1099511627776 ≤ sumI (leftC xs z) k ∧ sumI (leftC xs z) k ≤ 1099511627776 := by
  have := sumI_bd (xs := leftC xs z) (n := z) (fun i hi => by rw [leftC_nth _ _ _ hi]; have := cntG_le xs (nth xs i) i; omega) k hk
  omega

set_option maxRecDepth 1000000 in
set_option maxHeartbeats 16000000 in
theorem w_FnDisorder (a : Option Addr) (n cap : Nat) (bs : List Int) (w : World) (hr : Rd w a n cap (bys bs)) :
    Calls Try.prog 3 #[.slice a n cap] w fun e w' => e = .returned (.bool true) ∧ Below w.heap.size w w' := by
  by_cases hn : n ≤ 1048576
  case neg =>
    go_enter Try.func3, Try.ntmps3
    go_wp2
    go_ret
    exact ⟨rfl, Below.refl _ _⟩
  have CM := Lib.hid (c_MakeNear a n cap bs 0 w hr hn (by omega) : Calls Try.prog 5 #[.slice a n cap, .int .i64 0] w _)
  go_enter Try.func3, Try.ntmps3
  go_wp2_with fail
  refine CM.out.mono ?_
  rintro e w1 ⟨la, z, lc, xs, rfl, hz, ⟨Ll, owl, _⟩, b1⟩
  clear CM
  have HXL := Lib.hid owl.lens
  obtain ⟨I, R, rr, ff, bb, zr, DF⟩ := dis_facts HXL.out hz
  have C1 := ci_DisorderOf la z lc xs w1 owl.rd
  rw [DF.dis] at C1
  have C1 := Lib.hid C1
  go_wp2_with fail
  refine C1.out.mono ?_
  rintro e w2 ⟨da, dn, dc, rfl, ⟨Ld, owd, _⟩, _, b2⟩
  clear C1
  obtain rfl : 4 = dn := by rw [← owd.lens]; rfl
  have B2 := Below.nx b1 b2
  have owl := owl.below b2
  have C2 := ci_LeftCounts la z lc xs w2 owl.rd
  rw [DF.lef] at C2
  have C2 := Lib.hid C2
  go_wp2_with fail
  refine C2.out.mono ?_
  rintro e w3 ⟨ca, cn, cc, rfl, ⟨Lc, owc, _⟩, _, b3⟩
  clear C2
  obtain rfl : z = cn := by rw [← owc.lens, leftC_len]
  have B3 := Below.nx B2 b3
  have owl := owl.below b3
  have owd := owd.below b3
  have C3 := ci_StableOrder la z lc xs w3 owl.rd
  rw [DF.ord] at C3
  have C3 := Lib.hid C3
  go_wp2_with fail
  refine C3.out.mono ?_
  rintro e w4 ⟨oa, on, oc, rfl, ⟨Lo, owo, _⟩, _, b4⟩
  clear C3
  obtain rfl : z = on := by rw [← owo.lens, ordL_ln]
  have B4 := Below.nx B3 b4
  have rl := (owl.below b4).rd
  have rd := (owd.below b4).rd
  have rc := (owc.below b4).rd
  have ro := owo.rd
  clear owl owd owc owo b1 b2 b3 b4 B2 B3
  have hb := DF.bd
  obtain ⟨h1, h2, h3, h4, h5, h6, h7, h8, h9, h10, h11, h12, h13⟩ := hb
  obtain ⟨bd, od, rfl, _, hcd⟩ := rd.int (by omega)
  have x0 := beW_cell (hcd 0 (by omega))
  have x1 := beW_cell (hcd 1 (by omega))
  have x2 := beW_cell (hcd 2 (by omega))
  have x3 := beW_cell (hcd 3 (by omega))
  have e0 : nth [I, R, rr, ff] 0 = I := rfl
  have e1 : nth [I, R, rr, ff] 1 = R := rfl
  have e2 : nth [I, R, rr, ff] 2 = rr := rfl
  have e3 : nth [I, R, rr, ff] 3 = ff := rfl
  rw [e0] at x0
  rw [e1] at x1
  rw [e2] at x2
  rw [e3] at x3
  rw [Nat.add_zero] at x0
  clear e0 e1 e2 e3 hcd
  have K9 := Lib.hid (inB_of (v := .int .i64 I) (w0 := w4) (fun wx hx => by have := c_sum ca z cc (leftC xs z) wx (rc.below hx) (leftC_bd xs z hz); rw [DF.sum] at this; exact this))
  have K10 := Lib.hid (inB_of (v := .int .i64 I) (w0 := w4) (fun wx hx => by have := ci_InversionsOf la z lc xs wx (rl.below hx); rw [DF.inv] at this; exact this))
  have K11 := Lib.hid (inB_of (v := .int .i64 R) (w0 := w4) (fun wx hx => by have := ci_RunsOf la z lc xs wx (rl.below hx); rw [DF.run] at this; exact this))
  have K12 := Lib.hid (inB_of (v := .int .i64 rr) (w0 := w4) (fun wx hx => by have := ci_RemoveLeast la z lc xs wx (rl.below hx); rw [DF.rem] at this; exact this))
  have K13 := Lib.hid (inB_of (v := .int .i64 ff) (w0 := w4) (fun wx hx => by have := ci_FarthestMove la z lc xs wx (rl.below hx); rw [DF.far] at this; exact this))
  have K14 := Lib.hid (inB_of (v := .bool zr) (w0 := w4) (fun wx hx => by have := c_rises la z lc xs wx (rl.below hx) (by omega); rw [DF.ris] at this; exact this))
  have K15 := Lib.hid (inB_of (v := .bool true) (w0 := w4) (fun wx hx => by have := ci_IsStable la z lc xs oa z oc (ordL xs z) wx (rl.below hx) (ro.below hx) (by omega); rw [DF.sta] at this; exact this))
  have K16 := Lib.hid (inB_of (v := .int .i64 bb) (w0 := w4) (fun wx hx => by have := ci_LongestRising la z lc xs wx (rl.below hx); rw [DF.lon] at this; exact this))
  have g1 : IntKind.i64.wrap (R - 1) = R - 1 := by rw [IntKind.wrap_i64]; omega
  have g2 : IntKind.i64.wrap (rr + bb) = (z : Int) := by rw [IntKind.wrap_i64]; omega
  have g3 : decide (I < R - 1) = false := decide_eq_false (by omega)
  have g4 : decide (I < rr) = false := decide_eq_false (by omega)
  have g5 : decide (I < ff) = false := decide_eq_false (by omega)
  have g6 := DF.zI
  have g7 := DF.zr'
  have g8 := DF.zf
  have HDF := Lib.hid DF
  have H13 := Lib.hid h13
  clear DF h13
  go_wp2_with fail
  simp only [List.append]
  refine wp_region_inB (by kernel_rfl) (by kernel_rfl) (by kernel_rfl) ?_
  repeat (go_big_quiet_step ((first | with_reducible exact K9.out _ | with_reducible exact K10.out _ | with_reducible exact K11.out _ | with_reducible exact K12.out _ | with_reducible exact K13.out _ | with_reducible exact K14.out _ | with_reducible exact K15.out _ | with_reducible exact K16.out _)))
  refine wpQuiet_nil ?_
  rintro _ ⟨ex, rfl⟩
  have bex := beW_below w4 ex
  obtain ⟨w5, hw5⟩ : ∃ w5, beW w4 ex = w5 := ⟨_, rfl⟩
  rw [hw5] at bex ⊢
  have B5 : Below w.heap.size w w5 := Below.nx B4 bex
  clear hw5 ex x0 x1 x2 x3 K9 K10 K11 K12 K13 K14 K15 K16 g1 g2 g3 g4 g5 g6 g7 g8 h1 h2 h3 h4 h5 h6 h7 h8 h9 h10 h11 h12
  have rl := rl.below bex
  have ro := ro.below bex
  clear rd rc bex B4
  obtain ⟨al, hal⟩ : ∃ al, (ordL xs z).map (keyP xs) = al := ⟨_, rfl⟩
  have HAL := Lib.hid hal
  have HALL := Lib.hid (show al.length = z by rw [← hal, List.length_map, ordL_ln])
  clear hal
  go_wp2_with fail
  obtain ⟨wv, hwv⟩ : ∃ wv : World, wv = w5 := ⟨_, rfl⟩
  subst hwv
  go_loopw [8, 158] (fun v i wr => ∃ q : Nat, ∃ L sa sc, q ≤ z ∧ i = .int .i64 q ∧ v = .slice sa q sc ∧ Ow wr 3 L sa q sc (ints (al.take q)) ∧ New wv.heap.size L ∧ Below wv.heap.size wv wr) (fun _ i _ => z - (intOf i).toNat)
  case atStart => exact ⟨0, [], _, _, by omega, rfl, rfl, Ow.bare _ _ _, fun _ h => (by cases h), (Below.refl _ _).alloc (Nat.le_refl _) _⟩
  case round =>
    as_aux_lemma =>
    obtain ⟨q, L, sa, sc, hq, rfl, rfl, how, hnew, hb⟩ := hrel
    by_cases hqz : q < z
    · obtain ⟨bo, oo, rfl, _, hco⟩ := (ro.below hb).int (by omega)
      obtain ⟨bl, ol, rfl, _, hcl⟩ := (rl.below hb).int (by omega)
      obtain ⟨i, hi, hie, _⟩ := ordL_rk xs z q hqz
      have c1 := hco q hqz
      rw [hie] at c1
      have c2 := hcl i hi
      obtain ⟨x, hx⟩ : ∃ x, nth xs i = x := ⟨_, rfl⟩
      rw [hx] at c2
      have hax : nth al q = x := by
        rw [← HAL.out, nth_mapF _ _ _ (by rw [ordL_ln]; exact hqz), hie, ← hx]; rfl
      have HT := Lib.hid (show al.take (q + 1) = al.take q ++ [x] by rw [take_nth (by rw [HALL.out]; exact hqz), hax])
      have hle := how.le
      have hmx := how.max
      unfold maxLen at hmx
      have g1 : ¬ ((i : Int) < 0) := by omega
      have g2 : ¬ ((z : Int) ≤ (i : Int)) := by omega
      clear hco hcl hie hx hax
      have how1 := how.alloc (.cells #[.int .i64 x] 3)
      go_wp2_with ((with_reducible show wpList _ _ _ (⟨some 175, _, _, _, _, _⟩ :: _) _ _); refine wpList_app _ rfl _ _ 23 rfl 3 Try.underlying23 infoInt rfl rfl rfl how1 (Rd.one _ _ _) (one_int _) (by omega) (by unfold maxLen; omega) ?_; intro a5 cap5 L5 w5 ow5 kp5 st5)
      have n5 : New wv.heap.size L5 := st5.new hnew (by have := hb.size; simp; omega)
      have b5 : Below wv.heap.size wv w5 := kp5.below (hb.alloc hb.size _) hnew (by have := hb.size; simp; omega)
      go_roundw
      case rel => exact ⟨q + 1, L5, a5, cap5, by omega, by go_num, rfl, by rw [HT.out, ← ints_snoc]; exact ow5, n5, b5⟩
      case measure => simp [intOf]; omega
    · obtain rfl : z = q := by omega
      rw [List.take_of_length_le (by rw [HALL.out]; omega)] at how
      have rl := rl.below hb
      have B6 : Below w.heap.size w wr := Below.nx B5 hb
      have S1 := c_sorted la z lc xs wr rl (by omega)
      have es : sortTo ltI xs z = al := by rw [← HAL.out]; exact (along_val HXL.out).symm
      rw [es] at S1
      have S1 := Lib.hid S1
      clear es
      go_wp2_with fail
      refine S1.out.mono ?_
      rintro e w6 ⟨ta, tc, rfl, ⟨Lt, owt, _⟩, b6⟩
      clear S1
      have S2 := Lib.hid (c_same sa ta z sc z tc al w6 (how.below b6).rd owt.rd (by omega) : Calls Try.prog 17 #[.slice sa z sc, .slice ta z tc] w6 _)
      go_wp2_with fail
      refine S2.out.mono ?_
      rintro e w7 ⟨rfl, b7⟩
      clear S2
      have B7 : Below w.heap.size w w7 := Below.nx (Below.nx B6 b6) b7
      clear how owt b6 b7 rl ro B6 B5 hb hnew
      have M1 := Lib.hid (c_MakeSize a n cap bs 30 0 8 w7 (hr.below B7) hn (by omega) (by omega) (by omega) : Calls Try.prog 20 #[.slice a n cap, .int .i64 30, .int .i64 0, .int .i64 8] w7 _)
      go_wp2_with fail
      refine M1.out.mono ?_
      rintro e w8 ⟨m, rfl, _, hm8, b8⟩
      clear M1
      have B8 : Below w.heap.size w w8 := Below.nx B7 b8
      have M2 := Lib.hid (c_MakeOrder a n cap bs 40 m w8 (hr.below B8) hn (by omega) (by omega) : Calls Try.prog 19 #[.slice a n cap, .int .i64 40, .int .i64 m] w8 _)
      go_wp2_with fail
      refine M2.out.mono ?_
      rintro e w9 ⟨qa, qc, os, rfl, hos, ⟨Lq, owq, _⟩, b9⟩
      clear M2
      have B9 : Below w.heap.size w w9 := Below.nx B8 b9
      have hol := hos.1
      have HOL := Lib.hid hol
      have HP := Lib.hid (show isPerm os = true from isPerm_of (by omega) (fun j hj => by rw [hol] at hj ⊢; exact hos.2.1 j hj) (fun i j hij hj => by rw [hol] at hj; exact hos.2.2 i j hij hj))
      clear hos hol b8 b9 B7 B8
      obtain ⟨ex, ht, hx1, hx2, hx3⟩ := ex_val HP.out HOL.out
      obtain ⟨bq, hq1, hq2⟩ := que_val HP.out HOL.out
      obtain ⟨hk1, hk2⟩ := back_val HP.out HOL.out
      have hv1 : invV os = (sumC os m : Int) := by unfold invV; rw [HOL.out, if_pos (by omega)]
      have hlv := left_val HOL.out (show m ≤ 12 by omega)
      have hvle := sumC_le os m
      have hv2 : m * m ≤ 64 := Nat.mul_le_mul hm8 hm8
      obtain ⟨V, hV⟩ : ∃ V, sumC os m = V := ⟨_, rfl⟩
      rw [hV] at hx2 hq2 hv1 hvle
      have N1 := ci_ExchangesNeeded qa m qc os w9 owq.rd
      rw [hx1] at N1
      have N1 := Lib.hid N1
      have HV := Lib.hid hV
      have HLV := Lib.hid hlv
      have HK := Lib.hid (And.intro hk1 hk2)
      have HV1 := Lib.hid hv1
      have HQ1 := Lib.hid hq1
      have HX2 := Lib.hid hx2
      have HX3 := Lib.hid hx3
      clear hx1 hx2 hx3 hV hlv hk1 hk2 hv1 hq1
      go_wp2_with fail
      refine N1.out.mono ?_
      rintro e w10 ⟨rfl, b10⟩
      clear N1
      have B10 : Below w.heap.size w w10 := Below.nx B9 b10
      have owq := owq.below b10
      have N2 := ci_LeftCounts qa m qc os w10 owq.rd
      rw [HLV.out] at N2
      have N2 := Lib.hid N2
      go_wp2_with fail
      refine N2.out.mono ?_
      rintro e w11 ⟨ka, kn, kc, rfl, ⟨Lk, owk, _⟩, _, b11⟩
      clear N2
      obtain rfl : m = kn := by rw [← owk.lens, leftC_len]
      have B11 : Below w.heap.size w w11 := Below.nx B10 b11
      have owq := owq.below b11
      have N3 := ci_FromCounts ka m kc (leftC os m) w11 owk.rd (wf_left os m (by omega))
      rw [HK.out.1, HK.out.2] at N3
      have N3 := Lib.hid N3
      go_wp2_with fail
      refine N3.out.mono ?_
      rintro e w12 ⟨fa, fn, fc, rfl, ⟨Lf, owf, _⟩, _, b12⟩
      clear N3
      obtain rfl : m = fn := by rw [← owf.lens, HOL.out]
      have B12 : Below w.heap.size w w12 := Below.nx B11 b12
      have owq := owq.below b12
      have N4 := ci_InversionsOf qa m qc os w12 owq.rd
      rw [HV1.out] at N4
      have N4 := Lib.hid N4
      go_wp2_with fail
      refine N4.out.mono ?_
      rintro e w13 ⟨rfl, b13⟩
      clear N4
      have B13 : Below w.heap.size w w13 := Below.nx B12 b13
      have rq := (owq.below b13).rd
      have rf := (owf.below b13).rd
      clear owq owf owk b10 b11 b12 b13 B9 B10 B11 B12
      have P1 := Lib.hid (c_same fa qa m fc m qc os w13 rf rq (by omega) : Calls Try.prog 17 #[.slice fa m fc, .slice qa m qc] w13 _)
      obtain ⟨t2, ht2⟩ : ∃ t2 : Nat, (V : Int) - (ex : Int) = (t2 : Int) := ⟨2 * ht, by have := HX2.out; omega⟩
      have ht3 : Int.tmod (t2 : Int) 2 = 0 := by rw [rem_two]; have := HX2.out; omega
      obtain ⟨pv, hpv⟩ : ∃ pv : Nat, V % 2 = pv := ⟨_, rfl⟩
      have hpt : Int.tmod (V : Int) 2 = (pv : Int) := by rw [rem_two, hpv]
      have k1 : ex ≤ V := by have := HX2.out; omega
      have k2 : (bq : Int) ≤ (V : Int) + 1 := by omega
      have HPV := Lib.hid hpv
      have k3 : t2 ≤ 64 := by omega
      clear hpv
      by_cases hm0 : m = 0
      all_goals
        have hmb : ((m : Int) == 0) = decide (m = 0) := by rw [Bool.eq_iff_iff, beq_iff_eq, decide_eq_true_iff]; omega
        first
        | rw [decide_eq_true hm0] at hmb
        | rw [decide_eq_false hm0] at hmb
        try (have k4 : (ex : Int) ≤ (m : Int) - 1 := by have := HX3.out; omega)
        have HM0 := Lib.hid hm0
        clear hm0
        go_wp2_with fail
        refine P1.out.mono ?_
        rintro e w14 ⟨rfl, b14⟩
        have B14 : Below w.heap.size w w14 := Below.nx B13 b14
        have P2 := ci_ParityOf qa m qc os w14 (rq.below b14) HP.out
        rw [HV.out, HPV.out] at P2
        have P2 := Lib.hid P2
        go_wp2_with fail
        refine P2.out.mono ?_
        rintro e w15 ⟨rfl, b15⟩
        have B15 : Below w.heap.size w w15 := Below.nx B14 b15
        have P3 := ci_QueuesNeeded qa m qc os w15 ((rq.below b14).below b15)
        rw [HQ1.out] at P3
        have P3 := Lib.hid P3
        go_wp2_with fail
        refine P3.out.mono ?_
        rintro e w16 ⟨rfl, b16⟩
        have B16 : Below w.heap.size w w16 := Below.nx B15 b16
        clear P1 P2 P3
        go_wp2_with fail
        go_ret
        exact ⟨rfl, B16⟩

end Go.Proofs.Ytpicnechmdbkfaa

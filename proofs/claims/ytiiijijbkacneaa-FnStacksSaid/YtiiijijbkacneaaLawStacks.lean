/- The law of stacks, walked out of the contracts (printed by stacks.py). No condition. -/
import Derived.Test.YtiiijijbkacneaaStkF
import Derived.Deep.CutRange
namespace Go.Proofs.Ytiiijijbkacneaa
open Go.RowKit
set_option linter.unusedVariables false
set_option linter.unusedSimpArgs false

structure Chk2 (m : Nat) : Prop where
  q0 : 0 < ordQ m
  q24 : ordQ m ≤ 24
  ex1 : ∀ q, q + 1 < ordQ m → 0 < iTo (lexO m q) (m - 1)
  ex2 : iTo (lexO m (ordQ m - 1)) (m - 1) = 0
  cnt : ((lexAll m (ordQ m)).countP canV : Int) = csV m
  can : canV (idn m) = true
  pop : popV (idn m).reverse = idn m
  qf : quV (idn m).reverse = m
  ql : quV (idn m) = min 1 m
theorem chk2_of {m : Nat} (h0 : 0 < ordQ m) (h24 : ordQ m ≤ 24) (h : chk2 m = true) : Chk2 m := by
  unfold chk2 at h
  simp only [Bool.and_eq_true, List.all_eq_true, List.mem_range, decide_eq_true_eq] at h
  obtain ⟨⟨⟨⟨⟨⟨⟨⟨a1, a2⟩, a3⟩, a4⟩, a5⟩, a6⟩, a7⟩, a8⟩, a9⟩ := h
  refine ⟨h0, h24, fun q hq => a2 q (by omega), a3, ?_, by rw [canZ_V a6]; exact a5, a7, a8, a9⟩
  rw [← a4]
  congr 1
  apply List.countP_congr
  intro x hx
  obtain ⟨q, hq, rfl⟩ := List.mem_map.1 hx
  rw [canZ_V (a1 q (List.mem_range.1 hq))]
theorem chk2F {m : Nat} (hm : m ≤ 4) : Chk2 m := by
  obtain ⟨h0, h1, h2, h3, h4⟩ := chk2_all
  rcases (show m = 0 ∨ m = 1 ∨ m = 2 ∨ m = 3 ∨ m = 4 by omega) with rfl | rfl | rfl | rfl | rfl
  · exact chk2_of (by decide) (by decide) h0
  · exact chk2_of (by decide) (by decide) h1
  · exact chk2_of (by decide) (by decide) h2
  · exact chk2_of (by decide) (by decide) h3
  · exact chk2_of (by decide) (by decide) h4

theorem getD_memS {xss : List (List Int)} {j : Nat} (h : j < xss.length) : xss.getD j [] ∈ xss := by
  have : xss.getD j [] = xss[j] := by simp [List.getD, h]
  rw [this]; exact List.getElem_mem h

set_option maxRecDepth 1000000 in
set_option maxHeartbeats 16000000 in
theorem w_FnStacks (a : Option Addr) (n cap : Nat) (bs : List Int) (w : World) (hr : Rd w a n cap (bys bs)) :
    Calls Try.prog 3 #[.slice a n cap] w fun e w' => e = .returned (.bool true) ∧ Below w.heap.size w w' := by
  by_cases hn : n ≤ 1048576
  case neg =>
    go_enter Try.func3, Try.ntmps3
    go_wp2
    go_ret
    exact ⟨rfl, Below.refl _ _⟩
  have CM := Lib.hid (c_MakeSize a n cap bs 0 0 7 w hr hn (by omega) (by omega) (by omega) : Calls Try.prog 5 #[.slice a n cap, .int .i64 0, .int .i64 0, .int .i64 7] w _)
  go_enter Try.func3, Try.ntmps3
  go_wp2_with fail
  refine CM.out.mono ?_
  rintro e w1 ⟨k, rfl, _, hk7, b1⟩
  clear CM
  have CO := Lib.hid (c_MakeOrderA a n cap bs 10 k w1 (hr.below b1) hn (by omega) (by omega) : Calls Try.prog 6 #[.slice a n cap, .int .i64 10, .int .i64 k] w1 _)
  go_wp2_with fail
  refine CO.out.mono ?_
  rintro e w2 ⟨oa, oc, xs, rfl, ha, ⟨Lo, owo, nwo⟩, b2⟩
  clear CO
  have B2 := Below.nx b1 b2
  obtain ⟨c, r, hF⟩ := stFa ha hk7
  have F := Lib.hid hF
  clear hF ha
  have C1 := Lib.hid (ci_StackSort oa k oc xs w2 owo.rd)
  go_wp2_with fail
  refine C1.out.mono ?_
  rintro e w3 ⟨sa, sn, sc, rfl, ⟨Ls, ows, nws⟩, _, b3⟩
  clear C1
  obtain rfl : k = sn := by rw [← ows.lens, F.out.sl]
  have B3 := Below.nx B2 b3
  have owo := owo.below b3
  have C2 := ci_CanStackSort oa k oc xs w3 owo.rd
  rw [F.out.can] at C2
  have C2 := Lib.hid C2
  go_wp2_with fail
  refine C2.out.mono ?_
  rintro e w4 ⟨rfl, b4⟩
  clear C2
  have B4 := Below.nx B3 b4
  have owo := owo.below b4
  have ows := ows.below b4
  have C3 := ci_StackWord oa k oc xs w4 owo.rd
  rw [F.out.can] at C3
  have C3 := Lib.hid C3
  go_wp2_with fail
  refine C3.out.mono ?_
  rintro e w5 ⟨rfl, b5⟩
  clear C3
  have B5 := Below.nx B4 b5
  have owo := owo.below b5
  have ows := ows.below b5
  have C4 := ci_StackRounds oa k oc xs w5 owo.rd
  rw [F.out.rnd] at C4
  have C4 := Lib.hid C4
  have hr1 := F.out.r1
  have hrn := F.out.rn
  have HR0 := Lib.hid F.out.r0
  go_wp2_with fail
  refine C4.out.mono ?_
  rintro e w6 ⟨rfl, b6⟩
  clear C4
  have B6 := Below.nx B5 b6
  have owo := owo.below b6
  have ows := ows.below b6
  have C5 := Lib.hid (ci_PopStackSort oa k oc xs w6 owo.rd)
  go_wp2_with fail
  refine C5.out.mono ?_
  rintro e w7 ⟨pa, pn, pc, rfl, ⟨Lp, owp, nwp⟩, _, b7⟩
  clear C5
  obtain rfl : k = pn := by rw [← owp.lens, F.out.pl]
  have B7 := Below.nx B6 b7
  have owo := owo.below b7
  have ows := ows.below b7
  clear b1 b2 b3 b4 b5 b6 b7 B2 B3 B4 B5 B6
  go_upto_region 10 with (fail)
  go_cut [110] from 42 to 109 (fun v wc => v = .bool false ∧ Below w7.heap.size w7 wc)
  case first =>
    have HF9 : True := trivial
    by_cases hk1 : (1 : Int) < (k : Int)
    case neg =>
      by_cases hk0 : k = 0
      · obtain rfl : k = 0 := by omega
        obtain rfl : r = 0 := by omega
        obtain rfl : c = true := by rw [← hr1]; rfl
        have R1 := c_rises sa 0 sc (ssV xs) w7 ows.rd (by omega)
        rw [F.out.ris] at R1
        have R1 := Lib.hid R1
        go_wp2_with fail
        refine R1.out.mono ?_
        rintro e w8 ⟨rfl, b8⟩
        clear R1
        have B8 := b8
        have owo := owo.below b8
        have ows := ows.below b8
        have owp := owp.below b8
        have S1 := c_sorted sa 0 sc (ssV xs) w8 ows.rd (by omega)
        rw [show sortTo ltI (ssV xs) 0 = idn 0 from sort_order F.out.sp F.out.sl] at S1
        have S1 := Lib.hid S1
        go_wp2_with fail
        refine S1.out.mono ?_
        rintro e w9 ⟨ta, tc, rfl, ⟨Lt, owt, _⟩, b9⟩
        clear S1
        have B9 := Below.nx B8 b9
        have owo := owo.below b9
        have ows := ows.below b9
        have owp := owp.below b9
        have T1 := Lib.hid (c_stairs 0 w9 (by omega))
        go_wp2_with fail
        refine T1.out.mono ?_
        rintro e w10 ⟨ua, uc, rfl, ⟨Lu, owu, _⟩, b10⟩
        clear T1
        have B10 := Below.nx B9 b10
        have owo := owo.below b10
        have ows := ows.below b10
        have owp := owp.below b10
        have owt := owt.below b10
        have Q1 := Lib.hid (c_same ta ua 0 tc 0 uc (idn 0) w10 owt.rd owu.rd (by omega))
        go_wp2_with fail
        refine Q1.out.mono ?_
        rintro e w11 ⟨rfl, b11⟩
        clear Q1
        have B11 := Below.nx B10 b11
        have owo := owo.below b11
        have ows := ows.below b11
        have owp := owp.below b11
        have S2 := c_sorted pa 0 pc (popV xs) w11 owp.rd (by omega)
        rw [show sortTo ltI (popV xs) 0 = idn 0 from sort_order F.out.pp F.out.pl] at S2
        have S2 := Lib.hid S2
        go_wp2_with fail
        refine S2.out.mono ?_
        rintro e w12 ⟨va, vc, rfl, ⟨Lv, owv, _⟩, b12⟩
        clear S2
        have B12 := Below.nx B11 b12
        have owo := owo.below b12
        have ows := ows.below b12
        have T2 := Lib.hid (c_stairs 0 w12 (by omega))
        go_wp2_with fail
        refine T2.out.mono ?_
        rintro e w13 ⟨xa, xc, rfl, ⟨Lx, owx, _⟩, b13⟩
        clear T2
        have B13 := Below.nx B12 b13
        have owo := owo.below b13
        have ows := ows.below b13
        have owv := owv.below b13
        have Q2 := Lib.hid (c_same va xa 0 vc 0 xc (idn 0) w13 owv.rd owx.rd (by omega))
        go_wp2_with fail
        refine Q2.out.mono ?_
        rintro e w14 ⟨rfl, b14⟩
        clear Q2
        have B14 := Below.nx B13 b14
        have owo := owo.below b14
        have ows := ows.below b14

        have R3 := c_rises oa 0 oc xs w14 owo.rd (by omega)
        rw [← HR0.out] at R3
        have R3 := Lib.hid R3
        go_wp2_with fail
        refine R3.out.mono ?_
        rintro e w15 ⟨rfl, b15⟩
        clear R3
        have B15 := Below.nx B14 b15
        go_wp2_with fail
        go_meet
        exact ⟨by first | (simp; done) | (simp; omega), B15⟩
      · obtain rfl : k = 1 := by omega
        obtain rfl : r = 0 := by omega
        obtain rfl : c = true := by rw [← hr1]; rfl
        have R1 := c_rises sa 1 sc (ssV xs) w7 ows.rd (by omega)
        rw [F.out.ris] at R1
        have R1 := Lib.hid R1
        go_wp2_with fail
        refine R1.out.mono ?_
        rintro e w8 ⟨rfl, b8⟩
        clear R1
        have B8 := b8
        have owo := owo.below b8
        have ows := ows.below b8
        have owp := owp.below b8
        have S1 := c_sorted sa 1 sc (ssV xs) w8 ows.rd (by omega)
        rw [show sortTo ltI (ssV xs) 1 = idn 1 from sort_order F.out.sp F.out.sl] at S1
        have S1 := Lib.hid S1
        go_wp2_with fail
        refine S1.out.mono ?_
        rintro e w9 ⟨ta, tc, rfl, ⟨Lt, owt, _⟩, b9⟩
        clear S1
        have B9 := Below.nx B8 b9
        have owo := owo.below b9
        have ows := ows.below b9
        have owp := owp.below b9
        have T1 := Lib.hid (c_stairs 1 w9 (by omega))
        go_wp2_with fail
        refine T1.out.mono ?_
        rintro e w10 ⟨ua, uc, rfl, ⟨Lu, owu, _⟩, b10⟩
        clear T1
        have B10 := Below.nx B9 b10
        have owo := owo.below b10
        have ows := ows.below b10
        have owp := owp.below b10
        have owt := owt.below b10
        have Q1 := Lib.hid (c_same ta ua 1 tc 1 uc (idn 1) w10 owt.rd owu.rd (by omega))
        go_wp2_with fail
        refine Q1.out.mono ?_
        rintro e w11 ⟨rfl, b11⟩
        clear Q1
        have B11 := Below.nx B10 b11
        have owo := owo.below b11
        have ows := ows.below b11
        have owp := owp.below b11
        have S2 := c_sorted pa 1 pc (popV xs) w11 owp.rd (by omega)
        rw [show sortTo ltI (popV xs) 1 = idn 1 from sort_order F.out.pp F.out.pl] at S2
        have S2 := Lib.hid S2
        go_wp2_with fail
        refine S2.out.mono ?_
        rintro e w12 ⟨va, vc, rfl, ⟨Lv, owv, _⟩, b12⟩
        clear S2
        have B12 := Below.nx B11 b12
        have owo := owo.below b12
        have ows := ows.below b12
        have T2 := Lib.hid (c_stairs 1 w12 (by omega))
        go_wp2_with fail
        refine T2.out.mono ?_
        rintro e w13 ⟨xa, xc, rfl, ⟨Lx, owx, _⟩, b13⟩
        clear T2
        have B13 := Below.nx B12 b13
        have owo := owo.below b13
        have ows := ows.below b13
        have owv := owv.below b13
        have Q2 := Lib.hid (c_same va xa 1 vc 1 xc (idn 1) w13 owv.rd owx.rd (by omega))
        go_wp2_with fail
        refine Q2.out.mono ?_
        rintro e w14 ⟨rfl, b14⟩
        clear Q2
        have B14 := Below.nx B13 b14
        have owo := owo.below b14
        have ows := ows.below b14
        obtain ⟨g, _, rfl, _, hoc, _⟩ := ows.int (by have := ows.le; omega)
        have d1 := hoc (1 - 1) (by omega)
        rw [F.out.las (by omega)] at d1
        clear hoc
        have R3 := c_rises oa 1 oc xs w14 owo.rd (by omega)
        rw [← HR0.out] at R3
        have R3 := Lib.hid R3
        go_wp2_with fail
        refine R3.out.mono ?_
        rintro e w15 ⟨rfl, b15⟩
        clear R3
        have B15 := Below.nx B14 b15
        go_wp2_with fail
        go_meet
        exact ⟨by first | (simp; done) | (simp; omega), B15⟩
    case pos =>
      cases c
      · have hr2 : ¬ r ≤ 1 := by simpa using hr1
        have R1 := c_rises sa k sc (ssV xs) w7 ows.rd (by omega)
        rw [F.out.ris] at R1
        have R1 := Lib.hid R1
        go_wp2_with fail
        refine R1.out.mono ?_
        rintro e w8 ⟨rfl, b8⟩
        clear R1
        have B8 := b8
        have owo := owo.below b8
        have ows := ows.below b8
        have owp := owp.below b8
        have S1 := c_sorted sa k sc (ssV xs) w8 ows.rd (by omega)
        rw [show sortTo ltI (ssV xs) k = idn k from sort_order F.out.sp F.out.sl] at S1
        have S1 := Lib.hid S1
        go_wp2_with fail
        refine S1.out.mono ?_
        rintro e w9 ⟨ta, tc, rfl, ⟨Lt, owt, _⟩, b9⟩
        clear S1
        have B9 := Below.nx B8 b9
        have owo := owo.below b9
        have ows := ows.below b9
        have owp := owp.below b9
        have T1 := Lib.hid (c_stairs k w9 (by omega))
        go_wp2_with fail
        refine T1.out.mono ?_
        rintro e w10 ⟨ua, uc, rfl, ⟨Lu, owu, _⟩, b10⟩
        clear T1
        have B10 := Below.nx B9 b10
        have owo := owo.below b10
        have ows := ows.below b10
        have owp := owp.below b10
        have owt := owt.below b10
        have Q1 := Lib.hid (c_same ta ua k tc k uc (idn k) w10 owt.rd owu.rd (by omega))
        go_wp2_with fail
        refine Q1.out.mono ?_
        rintro e w11 ⟨rfl, b11⟩
        clear Q1
        have B11 := Below.nx B10 b11
        have owo := owo.below b11
        have ows := ows.below b11
        have owp := owp.below b11
        have S2 := c_sorted pa k pc (popV xs) w11 owp.rd (by omega)
        rw [show sortTo ltI (popV xs) k = idn k from sort_order F.out.pp F.out.pl] at S2
        have S2 := Lib.hid S2
        go_wp2_with fail
        refine S2.out.mono ?_
        rintro e w12 ⟨va, vc, rfl, ⟨Lv, owv, _⟩, b12⟩
        clear S2
        have B12 := Below.nx B11 b12
        have owo := owo.below b12
        have ows := ows.below b12
        have T2 := Lib.hid (c_stairs k w12 (by omega))
        go_wp2_with fail
        refine T2.out.mono ?_
        rintro e w13 ⟨xa, xc, rfl, ⟨Lx, owx, _⟩, b13⟩
        clear T2
        have B13 := Below.nx B12 b13
        have owo := owo.below b13
        have ows := ows.below b13
        have owv := owv.below b13
        have Q2 := Lib.hid (c_same va xa k vc k xc (idn k) w13 owv.rd owx.rd (by omega))
        go_wp2_with fail
        refine Q2.out.mono ?_
        rintro e w14 ⟨rfl, b14⟩
        clear Q2
        have B14 := Below.nx B13 b14
        have owo := owo.below b14
        have ows := ows.below b14
        obtain ⟨g, _, rfl, _, hoc, _⟩ := ows.int (by have := ows.le; omega)
        have d1 := hoc (k - 1) (by omega)
        rw [F.out.las (by omega)] at d1
        clear hoc
        have R3 := c_rises oa k oc xs w14 owo.rd (by omega)
        rw [← HR0.out] at R3
        have R3 := Lib.hid R3
        go_wp2_with fail
        refine R3.out.mono ?_
        rintro e w15 ⟨rfl, b15⟩
        clear R3
        have B15 := Below.nx B14 b15
        go_wp2_with fail
        go_meet
        exact ⟨by first | (simp; done) | (simp; omega), B15⟩
      · have hr2 : r ≤ 1 := by simpa using hr1
        have R1 := c_rises sa k sc (ssV xs) w7 ows.rd (by omega)
        rw [F.out.ris] at R1
        have R1 := Lib.hid R1
        go_wp2_with fail
        refine R1.out.mono ?_
        rintro e w8 ⟨rfl, b8⟩
        clear R1
        have B8 := b8
        have owo := owo.below b8
        have ows := ows.below b8
        have owp := owp.below b8
        have S1 := c_sorted sa k sc (ssV xs) w8 ows.rd (by omega)
        rw [show sortTo ltI (ssV xs) k = idn k from sort_order F.out.sp F.out.sl] at S1
        have S1 := Lib.hid S1
        go_wp2_with fail
        refine S1.out.mono ?_
        rintro e w9 ⟨ta, tc, rfl, ⟨Lt, owt, _⟩, b9⟩
        clear S1
        have B9 := Below.nx B8 b9
        have owo := owo.below b9
        have ows := ows.below b9
        have owp := owp.below b9
        have T1 := Lib.hid (c_stairs k w9 (by omega))
        go_wp2_with fail
        refine T1.out.mono ?_
        rintro e w10 ⟨ua, uc, rfl, ⟨Lu, owu, _⟩, b10⟩
        clear T1
        have B10 := Below.nx B9 b10
        have owo := owo.below b10
        have ows := ows.below b10
        have owp := owp.below b10
        have owt := owt.below b10
        have Q1 := Lib.hid (c_same ta ua k tc k uc (idn k) w10 owt.rd owu.rd (by omega))
        go_wp2_with fail
        refine Q1.out.mono ?_
        rintro e w11 ⟨rfl, b11⟩
        clear Q1
        have B11 := Below.nx B10 b11
        have owo := owo.below b11
        have ows := ows.below b11
        have owp := owp.below b11
        have S2 := c_sorted pa k pc (popV xs) w11 owp.rd (by omega)
        rw [show sortTo ltI (popV xs) k = idn k from sort_order F.out.pp F.out.pl] at S2
        have S2 := Lib.hid S2
        go_wp2_with fail
        refine S2.out.mono ?_
        rintro e w12 ⟨va, vc, rfl, ⟨Lv, owv, _⟩, b12⟩
        clear S2
        have B12 := Below.nx B11 b12
        have owo := owo.below b12
        have ows := ows.below b12
        have T2 := Lib.hid (c_stairs k w12 (by omega))
        go_wp2_with fail
        refine T2.out.mono ?_
        rintro e w13 ⟨xa, xc, rfl, ⟨Lx, owx, _⟩, b13⟩
        clear T2
        have B13 := Below.nx B12 b13
        have owo := owo.below b13
        have ows := ows.below b13
        have owv := owv.below b13
        have Q2 := Lib.hid (c_same va xa k vc k xc (idn k) w13 owv.rd owx.rd (by omega))
        go_wp2_with fail
        refine Q2.out.mono ?_
        rintro e w14 ⟨rfl, b14⟩
        clear Q2
        have B14 := Below.nx B13 b14
        have owo := owo.below b14
        have ows := ows.below b14
        obtain ⟨g, _, rfl, _, hoc, _⟩ := ows.int (by have := ows.le; omega)
        have d1 := hoc (k - 1) (by omega)
        rw [F.out.las (by omega)] at d1
        clear hoc
        have R3 := c_rises oa k oc xs w14 owo.rd (by omega)
        rw [← HR0.out] at R3
        have R3 := Lib.hid R3
        go_wp2_with fail
        refine R3.out.mono ?_
        rintro e w15 ⟨rfl, b15⟩
        clear R3
        have B15 := Below.nx B14 b15
        go_wp2_with fail
        go_meet
        exact ⟨by first | (simp; done) | (simp; omega), B15⟩
  case rest =>
    obtain ⟨wd, rfl⟩ : ∃ wd : World, wd = wc := ⟨_, rfl⟩
    obtain ⟨rfl, Bc⟩ := hcut
    have owo := owo.below Bc
    have Bd := Below.nx B7 Bc
    clear Bc B7 ows owp hr1 hrn
    go_upto_if 111 with (fail)
    go_cut [] from 112 to 133 (fun wc => Below wd.heap.size wd wc)
    case first =>
      cases c
      · go_wp2_with fail
        go_meet
        exact Below.refl _ _
      · obtain ⟨hw1, hw2, hw3⟩ := F.out.wo rfl
        have C6 := ci_RunWord oa k oc xs (swV xs) wd owo.rd (by omega)
        rw [hw1, hw2] at C6
        clear hw1 hw2
        generalize swV xs = ws at *
        have hw4 : ws.size = 2 * k := hw3
        have HW := Lib.hid hw3
        clear hw3
        have C6 := Lib.hid C6
        go_wp2_with fail
        refine C6.out.mono ?_
        rintro e w16 ⟨ra, rn, rc, rfl, ⟨Lr, owr, _⟩, _, b16⟩
        clear C6
        obtain rfl : k = rn := by rw [← owr.lens, idn_len]
        have T3 := Lib.hid (c_stairs k w16 (by omega))
        go_wp2_with fail
        refine T3.out.mono ?_
        rintro e w17 ⟨ya, yc, rfl, ⟨Ly, owy, _⟩, b17⟩
        clear T3
        have B17 := Below.nx b16 b17
        have owr := owr.below b17
        have Q3 := Lib.hid (c_same ra ya k rc k yc (idn k) w17 owr.rd owy.rd (by omega))
        have hw5 : (ws.size : Int) = 2 * (k : Int) := by omega
        clear hw4
        go_wp2_with fail
        refine Q3.out.mono ?_
        rintro e w18 ⟨rfl, b18⟩
        clear Q3
        have B18 := Below.nx B17 b18
        go_wp2_with fail
        go_meet
        exact B18
    case rest =>
      obtain ⟨wf, rfl⟩ : ∃ wf : World, wf = wc := ⟨_, rfl⟩
      have Bf := Below.nx Bd hcut
      clear hcut Bd owo F HR0
      go_wp2_with fail
      obtain ⟨m, hm, hm4⟩ : ∃ m : Nat, (k : Int) % 5 = (m : Int) ∧ m ≤ 4 := ⟨k % 5, by omega, by omega⟩
      rw [hm]
      clear hm
      have Y := Lib.hid (chk2F hm4)
      have hq0 := Y.out.q0
      have hq24 := Y.out.q24
      obtain ⟨Q, hQ⟩ : ∃ Q, ordQ m = Q := ⟨_, rfl⟩
      rw [hQ] at hq0 hq24
      have HQ := Lib.hid hQ
      clear hQ
      go_loopw [15, 16] (fun l i wr => ∃ t : Nat, ∃ L la lc, t ≤ m ∧ i = .int .i64 t ∧ l = .slice la t lc ∧ Ow wr 3 L la t lc (ints (idn t)) ∧ New w.heap.size L ∧ Below w.heap.size w wr) (fun _ i _ => m - (intOf i).toNat)
      case atStart => exact ⟨0, [], _, _, by omega, rfl, rfl, Ow.bare _ _ _, fun _ h => (by cases h), Bf.alloc Bf.size _⟩
      case round =>
        clear Bf
        obtain ⟨t, L, la, lc, ht, rfl, rfl, how, hnew, hb⟩ := hrel
        by_cases hlt : t < m
        · have hsz := hb.size
          have how2 := how.alloc (.cells #[.int .i64 (t : Int)] 3)
          go_wp2_with (at_builtin; refine wpList_app _ rfl _ _ 24 rfl 3 Try.underlying24 infoInt rfl rfl rfl how2 (Rd.one _ _ _) (one_int _) (by omega) (by unfold maxLen; omega) ?_; intro a1 cap1 L1 w1' ow1 kp1 st1)
          have n1 : New w.heap.size L1 := st1.new hnew (by simp; omega)
          have b1 : Below w.heap.size w w1' := kp1.below (hb.alloc hsz _) hnew (by simp; omega)
          go_roundw
          case rel => exact ⟨t + 1, L1, a1, cap1, by omega, by go_num, rfl, by rw [ints_snoc, ← idn_snoc] at ow1; exact ow1, n1, b1⟩
          case measure => simp [intOf]; omega
        · obtain rfl : t = m := by omega
          obtain ⟨we, rfl⟩ : ∃ we : World, we = wr := ⟨_, rfl⟩
          have CO := c_MakeOrders t (ordQ t) we hm4 (by rw [HQ.out]; exact hq0) (by rw [HQ.out]; omega) Y.out.ex1 Y.out.ex2
          rw [HQ.out] at CO
          have CO := Lib.hid CO
          go_wp2_with fail
          refine CO.out.mono ?_
          rintro e w20 ⟨ga, gc, rfl, hgr, b20⟩
          clear CO
          obtain ⟨Lg, csg, og, hexg, _⟩ := hgr
          have hrd : RdG w20 ga Q gc (lexAll t Q) := by rw [← hexg]; exact og.rd
          have B20 := Below.nx hb b20
          have how := how.below b20
          have hcn := Y.out.cnt
          rw [HQ.out] at hcn
          have HLA : Hid ((lexAll t Q).length = Q) := Lib.hid (by simp [lexAll])
          have HLR := Lib.hid (show ∀ x ∈ lexAll t Q, x.length = t from fun x hx => by obtain ⟨q, _, rfl⟩ := List.mem_map.1 hx; exact lexO_len t q)
          generalize lexAll t Q = os at *
          have HCN := Lib.hid hcn
          clear hcn hexg og hb b20
          go_wp2_with fail
          go_loopw [14, 149] (fun cv iv wr => ∃ q : Nat, q ≤ Q ∧ iv = .int .i64 q ∧ cv = .int .i64 (((os.take q).countP canV : Nat) : Int) ∧ Below w20.heap.size w20 wr) (fun _ iv _ => Q - (intOf iv).toNat)
          case atStart => exact ⟨0, by omega, rfl, rfl, Below.refl _ _⟩
          case round =>
            obtain ⟨q, hq, rfl, rfl, hb⟩ := hrel
            have hcl : (os.take q).countP canV ≤ q := Nat.le_trans List.countP_le_length (by rw [List.length_take]; omega)
            by_cases hqQ : q < Q
            · obtain ⟨b, off, xa, xn, xc, rfl, hbl, hcell0, hrow⟩ := (hrd.below hb).at' hqQ
              have hmem : os.getD q [] ∈ os := getD_memS (by rw [HLA.out]; exact hqQ)
              have C7 := ci_CanStackSort xa xn xc (os.getD q []) wr hrow
              have hstp : (os.take (q + 1)).countP canV = (os.take q).countP canV + (if canV (os.getD q []) = true then 1 else 0) := by
                rw [List.take_add_one, List.countP_append, List.getD, List.getElem?_eq_getElem (by rw [HLA.out]; exact hqQ)]
                simp [List.countP_cons]
              have HST := Lib.hid hstp
              clear hstp hrow hmem
              generalize (os.take q).countP canV = cq at *
              cases hcv : canV (os.getD q [])
              · rw [hcv] at C7
                have C7 := Lib.hid C7
                have HCV := Lib.hid hcv
                clear hcv
                go_wp2_with fail
                refine C7.out.mono ?_
                rintro e w21 ⟨rfl, b21⟩
                have hb2 := Below.nx hb b21
                go_wp2_with fail
                go_roundw
                case rel => exact ⟨q + 1, by omega, by go_num, int_eq (by rw [HST.out, HCV.out]; simp), hb2⟩
                case measure => simp [intOf]; omega
              · rw [hcv] at C7
                have C7 := Lib.hid C7
                have HCV := Lib.hid hcv
                clear hcv
                go_wp2_with fail
                refine C7.out.mono ?_
                rintro e w21 ⟨rfl, b21⟩
                have hb2 := Below.nx hb b21
                go_wp2_with fail
                go_roundw
                case rel => exact ⟨q + 1, by omega, by go_num, int_eq (by rw [HST.out, HCV.out]; simp), hb2⟩
                case measure => simp [intOf]; omega
            · obtain rfl : q = Q := by omega
              have hfin : (((os.take q).countP canV : Nat) : Int) = csV t := by rw [List.take_of_length_le (by rw [HLA.out]; exact Nat.le_refl _)]; exact HCN.out
              rw [hfin]
              have B21 := Below.nx B20 hb
              have how := how.below hb
              obtain ⟨wg, rfl⟩ : ∃ wg : World, wg = wr := ⟨_, rfl⟩
              clear hfin hcl hb hrd B20
              have hrl : (idn t).reverse.length = t := by rw [List.length_reverse, idn_len]
              have HRL := Lib.hid hrl
              clear hrl
              go_wp2_with fail
              go_loopw [19, 161] (fun l i wr => ∃ u : Nat, ∃ L2 la2 lc2, u ≤ t ∧ i = .int .i64 u ∧ l = .slice la2 u lc2 ∧ Ow wr 3 L2 la2 u lc2 (ints ((idn t).reverse.take u)) ∧ New wg.heap.size L2 ∧ Below wg.heap.size wg wr) (fun _ i _ => t - (intOf i).toNat)
              case atStart => exact ⟨0, [], _, _, by omega, rfl, rfl, Ow.bare _ _ _, fun _ h => (by cases h), (Below.refl _ _).alloc (Nat.le_refl _) _⟩
              case round =>
                obtain ⟨u, L2, la2, lc2, hu, rfl, rfl, how3, hnew3, hb3⟩ := hrel
                by_cases hlt3 : u < t
                · have hsz3 := hb3.size
                  have hnth : nth (idn t).reverse u = (t : Int) - 1 - u := by
                    rw [nth_rev (by rw [idn_len]; exact hlt3), idn_len, nth_idn (by omega)]; omega
                  have HNT := Lib.hid hnth
                  clear hnth
                  have how4 := how3.alloc (.cells #[.int .i64 ((t : Int) - 1 - u)] 3)
                  go_wp2_with (at_builtin; refine wpList_app _ rfl _ _ 24 rfl 3 Try.underlying24 infoInt rfl rfl rfl how4 (Rd.one _ _ _) (one_int _) (by omega) (by unfold maxLen; omega) ?_; intro a5 cap5 L5 w5' ow5 kp5 st5)
                  have n5 : New wg.heap.size L5 := st5.new hnew3 (by simp; omega)
                  have b5 : Below wg.heap.size wg w5' := kp5.below (hb3.alloc hsz3 _) hnew3 (by simp; omega)
                  go_roundw
                  case rel => exact ⟨u + 1, L5, a5, cap5, by omega, by go_num, rfl, by
                    rw [ints_snoc, ← HNT.out, ← take_nth (by rw [HRL.out]; exact hlt3)] at ow5; exact ow5, n5, b5⟩
                  case measure => simp [intOf]; omega
                · obtain rfl : u = t := by omega
                  rw [List.take_of_length_le (by rw [HRL.out]; exact Nat.le_refl _)] at how3
                  have B22 := Below.nx B21 hb3
                  have how := how.below hb3
                  obtain ⟨wh, rfl⟩ : ∃ wh : World, wh = wr := ⟨_, rfl⟩
                  have how3 := how3
                  clear hb3 B21
                  have X1 := ci_CountStackSortable (u : Int) wh
                  have X2 := fun wx h => ci_CanStackSort la u lc (idn u) wx h
                  have X3 := fun wx h => ci_PopStackSort la2 u lc2 (idn u).reverse wx h
                  have X4 := fun wx h => ci_QueuesNeeded la2 u lc2 (idn u).reverse wx h
                  have X5 := fun wx h => ci_QueuesNeeded la u lc (idn u) wx h
                  rw [Y.out.can] at X2
                  rw [Y.out.pop] at X3
                  rw [Y.out.qf] at X4
                  rw [Y.out.ql] at X5
                  generalize csV (u : Int) = cs at *
                  have X1 := Lib.hid X1
                  have X2 := Lib.hid X2
                  have X3 := Lib.hid X3
                  have X4 := Lib.hid X4
                  have X5 := Lib.hid X5
                  go_wp2_with fail
                  refine X1.out.mono ?_
                  rintro e w31 ⟨rfl, b31⟩
                  have B31 := Below.nx B22 b31
                  have how := how.below b31
                  have how3 := how3.below b31
                  go_wp2_with fail
                  refine (X2.out _ how.rd).mono ?_
                  rintro e w32 ⟨rfl, b32⟩
                  have B32 := Below.nx B31 b32
                  have how := how.below b32
                  have how3 := how3.below b32
                  go_wp2_with fail
                  refine (X3.out _ how3.rd).mono ?_
                  rintro e w33 ⟨pa, pn, pc, rfl, ⟨Lp, owp, _⟩, _, b33⟩
                  obtain rfl : u = pn := by rw [← owp.lens, idn_len]
                  have B33 := Below.nx B32 b33
                  have how := how.below b33
                  have how3 := how3.below b33
                  have Q5 := Lib.hid (c_same pa la u pc u lc (idn u) w33 owp.rd how.rd (by omega))
                  go_wp2_with fail
                  refine Q5.out.mono ?_
                  rintro e w34 ⟨rfl, b34⟩
                  have B34 := Below.nx B33 b34
                  have how := how.below b34
                  have how3 := how3.below b34
                  go_wp2_with fail
                  refine (X4.out _ how3.rd).mono ?_
                  rintro e w35 ⟨rfl, b35⟩
                  have B35 := Below.nx B34 b35
                  have how := how.below b35
                  go_wp2_with fail
                  refine (X5.out _ how.rd).mono ?_
                  rintro e w36 ⟨rfl, b36⟩
                  have B36 := Below.nx B35 b36
                  clear X1 X2 X3 X4 X5 Q5
                  by_cases hu0 : u = 0
                  · subst hu0
                    go_wp2_with fail
                    go_ret
                    exact ⟨rfl, B36⟩
                  · have hmin : ((min 1 u : Nat) : Int) = 1 := by omega
                    rw [hmin]
                    have hu1 : ¬ (u : Int) < 1 := by omega
                    go_wp2_with fail
                    go_ret
                    exact ⟨rfl, B36⟩

end Go.Proofs.Ytiiijijbkacneaa

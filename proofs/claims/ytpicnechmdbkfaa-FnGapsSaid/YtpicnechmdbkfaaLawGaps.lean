/- The law of gaps, walked out of the contracts. No condition. -/
import Derived.Test.YtpicnechmdbkfaaGaps
import Derived.Deep.CutRange
namespace Go.Proofs.Ytpicnechmdbkfaa
open Go.RowKit
set_option linter.unusedVariables false
set_option linter.unusedSimpArgs false

set_option maxRecDepth 1000000 in
set_option maxHeartbeats 16000000 in
theorem w_FnGaps (a : Option Addr) (n cap : Nat) (bs : List Int) (w : World) (hr : Rd w a n cap (bys bs)) :
    Calls Try.prog 4 #[.slice a n cap] w fun e w' => e = .returned (.bool true) ∧ Below w.heap.size w w' := by
  by_cases hn : n ≤ 1048576
  case neg =>
    go_enter Try.func4, Try.ntmps4
    go_wp2
    go_ret
    exact ⟨rfl, Below.refl _ _⟩
  have C0 := Lib.hid (c_MakeSize a n cap bs 20 0 10 w hr hn (by omega) (by omega) (by omega) : Calls Try.prog 20 #[.slice a n cap, .int .i64 20, .int .i64 0, .int .i64 10] w _)
  go_enter Try.func4, Try.ntmps4
  go_wp2_with fail
  refine C0.out.mono ?_
  rintro e w1 ⟨z, rfl, _, hz, B1⟩
  clear C0
  have C := Lib.hid (c_MakeList a n cap bs 0 z w1 (hr.below B1) hn (by omega) (by omega) : Calls Try.prog 25 #[.slice a n cap, .int .i64 0, .int .i64 z] w1 _)
  go_wp2_with fail
  refine C.out.mono ?_
  rintro e w2 ⟨la, lc, xs, rfl, ⟨Ll, owl, _⟩, b2⟩
  clear C
  have B2 : Below w.heap.size w w2 := Below.nx B1 b2
  have HXL := Lib.hid owl.lens
  have rl := owl.rd
  clear owl
  have C := Lib.hid (c_MakeSize a n cap bs 21 1 5 w2 (hr.below B2) hn (by omega) (by omega) (by omega) : Calls Try.prog 20 #[.slice a n cap, .int .i64 21, .int .i64 1, .int .i64 5] w2 _)
  go_wp2_with fail
  refine C.out.mono ?_
  rintro e w3 ⟨h, rfl, hh1, hh5, b3⟩
  clear C
  have B3 : Below w.heap.size w w3 := Below.nx B2 b3
  have rl := rl.below b3
  have C := Lib.hid (c_MakeSize a n cap bs 22 1 5 w3 (hr.below B3) hn (by omega) (by omega) (by omega) : Calls Try.prog 20 #[.slice a n cap, .int .i64 22, .int .i64 1, .int .i64 5] w3 _)
  go_wp2_with fail
  refine C.out.mono ?_
  rintro e w4 ⟨k, rfl, hk1, hk5, b4⟩
  clear C
  have B4 : Below w.heap.size w w4 := Below.nx B3 b4
  have rl := rl.below b4
  have HSa := Lib.hid (gs_HS xs k hk1)
  have HSb := Lib.hid (gs_HS (gsG xs k k) h hh1)
  have HSc := Lib.hid (gs_keep (gsG xs k k) h k hh1 (gs_HS xs k hk1))
  have HPa := Lib.hid (gs_permF xs k hk1)
  have HPb := Lib.hid ((gs_permF (gsG xs k k) h hh1).trans (gs_permF xs k hk1))
  have HLa := Lib.hid (show (gsG xs k k).length = z by rw [gsG_len]; exact HXL.out)
  have HLb := Lib.hid (show (gsG (gsG xs k k) h h).length = z by rw [gsG_len, gsG_len]; exact HXL.out)
  have HM0 := Lib.hid (show gmT (gsG xs k k) k z z = 0 by have := gm_zero hk1 HSa.out; rwa [HLa.out] at this)
  have HM1 := Lib.hid (show (gmT xs 1 z z : Int) = invV xs by have := gm_one xs; rw [HXL.out] at this; rw [this]; unfold invV; rw [HXL.out, if_pos (by omega)])
  have HMZ := Lib.hid (show ((gmT xs k z z : Int) == 0) = hsB xs k by
    have a1 := gm_zero (xs := xs) hk1
    have a2 := gm_none (xs := xs) hk1
    rw [HXL.out] at a1 a2
    by_cases e : HS xs k
    · rw [hsB_yes e, a1 e]; rfl
    · rw [hsB_no e]
      have : gmT xs k z z ≠ 0 := fun e2 => e (a2 e2)
      simp; omega)
  have C := Lib.hid (c_GapSort la z lc k xs w4 rl (by omega) hk1 (by omega) : Calls Try.prog 26 #[.slice la z lc, .int .i64 k] w4 _)
  go_wp2_with fail
  refine C.out.mono ?_
  rintro e w5 ⟨aa, ac, rfl, ⟨La, owa, _⟩, b5⟩
  clear C
  have B5 : Below w.heap.size w w5 := Below.nx B4 b5
  have rl := rl.below b5
  obtain ⟨xa, hxa⟩ : ∃ xa, gsG xs k k = xa := ⟨_, rfl⟩
  rw [hxa] at owa HSa HSb HSc HPa HPb HLa HLb HM0
  have ra := owa.rd
  clear owa
  have C := Lib.hid (c_GapSort aa z ac h xa w5 ra (by omega) hh1 (by omega) : Calls Try.prog 26 #[.slice aa z ac, .int .i64 h] w5 _)
  go_wp2_with fail
  refine C.out.mono ?_
  rintro e w6 ⟨ba, bc, rfl, ⟨Lb, owb, _⟩, b6⟩
  clear C
  have B6 : Below w.heap.size w w6 := Below.nx B5 b6
  have rl := rl.below b6
  have ra := ra.below b6
  obtain ⟨xb, hxb⟩ : ∃ xb, gsG xa h h = xb := ⟨_, rfl⟩
  rw [hxb] at owb HSb HSc HPb HLb
  have rb := owb.rd
  clear owb hxa hxb
  have C0 := c_IsGapSorted aa z ac k xa w6 ra (by omega) hk1 (by omega)
  rw [hsB_yes HSa.out] at C0
  have C := Lib.hid C0
  clear C0
  go_wp2_with fail
  refine C.out.mono ?_
  rintro e w7 ⟨rfl, b7⟩
  clear C
  have B7 : Below w.heap.size w w7 := Below.nx B6 b7
  have rl := rl.below b7
  have ra := ra.below b7
  have rb := rb.below b7
  clear b7
  have C0 := c_IsGapSorted ba z bc h xb w7 rb (by omega) hh1 (by omega)
  rw [hsB_yes HSb.out] at C0
  have C := Lib.hid C0
  clear C0
  go_wp2_with fail
  refine C.out.mono ?_
  rintro e w8 ⟨rfl, b8⟩
  clear C
  have B8 : Below w.heap.size w w8 := Below.nx B7 b8
  have rl := rl.below b8
  have ra := ra.below b8
  have rb := rb.below b8
  clear b8
  have C0 := c_IsGapSorted ba z bc k xb w8 rb (by omega) hk1 (by omega)
  rw [hsB_yes HSc.out] at C0
  have C := Lib.hid C0
  clear C0
  go_wp2_with fail
  refine C.out.mono ?_
  rintro e w9 ⟨rfl, b9⟩
  clear C
  have B9 : Below w.heap.size w w9 := Below.nx B8 b9
  have rl := rl.below b9
  have ra := ra.below b9
  have rb := rb.below b9
  clear b9
  have hsl : ∃ sl, sortTo ltI xs z = sl := ⟨_, rfl⟩
  obtain ⟨sl, hsl⟩ := hsl
  have hsa : sortTo ltI xa z = sl := by rw [← hsl]; exact sort_eqP HLa.out HPa.out
  have hsb : sortTo ltI xb z = sl := by rw [← hsl]; exact sort_eqP HLb.out HPb.out
  have HSL := Lib.hid hsl
  have HSLa := Lib.hid hsa
  have HSLb := Lib.hid hsb
  clear hsl hsa hsb
  have C0 := c_sorted aa z ac xa w9 ra (by omega)
  rw [HSLa.out] at C0
  have C := Lib.hid C0
  clear C0
  go_wp2_with fail
  refine C.out.mono ?_
  rintro e w10 ⟨s1a, s1c, rfl, ⟨s1L, ows1, _⟩, b10⟩
  clear C
  have B10 : Below w.heap.size w w10 := Below.nx B9 b10
  have r1 := ows1.rd
  have rl := rl.below b10
  have ra := ra.below b10
  have rb := rb.below b10
  clear b10
  have C0 := c_sorted la z lc xs w10 rl (by omega)
  rw [HSL.out] at C0
  have C := Lib.hid C0
  clear C0
  go_wp2_with fail
  refine C.out.mono ?_
  rintro e w11 ⟨t1a, t1c, rfl, ⟨t1L, owt1, _⟩, b11⟩
  clear C
  have B11 : Below w.heap.size w w11 := Below.nx B10 b11
  have r1 := r1.below b11
  have r2 := owt1.rd
  have rl := rl.below b11
  have ra := ra.below b11
  have rb := rb.below b11
  clear b11
  have C := Lib.hid (c_same s1a t1a z s1c z t1c sl w11 r1 r2 (by omega) : Calls Try.prog 17 #[.slice s1a z s1c, .slice t1a z t1c] w11 _)
  go_wp2_with fail
  refine C.out.mono ?_
  rintro e w12 ⟨rfl, b12⟩
  clear C
  have B12 : Below w.heap.size w w12 := Below.nx B11 b12
  have rl := rl.below b12
  have ra := ra.below b12
  have rb := rb.below b12
  clear b12
  clear r1 r2 ows1 owt1
  have C0 := c_sorted ba z bc xb w12 rb (by omega)
  rw [HSLb.out] at C0
  have C := Lib.hid C0
  clear C0
  go_wp2_with fail
  refine C.out.mono ?_
  rintro e w13 ⟨s2a, s2c, rfl, ⟨s2L, ows2, _⟩, b13⟩
  clear C
  have B13 : Below w.heap.size w w13 := Below.nx B12 b13
  have r1 := ows2.rd
  have rl := rl.below b13
  have ra := ra.below b13
  have rb := rb.below b13
  clear b13
  have C0 := c_sorted la z lc xs w13 rl (by omega)
  rw [HSL.out] at C0
  have C := Lib.hid C0
  clear C0
  go_wp2_with fail
  refine C.out.mono ?_
  rintro e w14 ⟨t2a, t2c, rfl, ⟨t2L, owt2, _⟩, b14⟩
  clear C
  have B14 : Below w.heap.size w w14 := Below.nx B13 b14
  have r1 := r1.below b14
  have r2 := owt2.rd
  have rl := rl.below b14
  have ra := ra.below b14
  have rb := rb.below b14
  clear b14
  have C := Lib.hid (c_same s2a t2a z s2c z t2c sl w14 r1 r2 (by omega) : Calls Try.prog 17 #[.slice s2a z s2c, .slice t2a z t2c] w14 _)
  go_wp2_with fail
  refine C.out.mono ?_
  rintro e w15 ⟨rfl, b15⟩
  clear C
  have B15 : Below w.heap.size w w15 := Below.nx B14 b15
  have rl := rl.below b15
  have ra := ra.below b15
  have rb := rb.below b15
  clear b15
  clear r1 r2 ows2 owt2
  have C0 := c_GapMoves aa z ac k xa w15 ra (by omega) hk1 (by omega)
  rw [HM0.out] at C0
  have C := Lib.hid C0
  clear C0
  go_wp2_with fail
  refine C.out.mono ?_
  rintro e w16 ⟨rfl, b16⟩
  clear C
  have B16 : Below w.heap.size w w16 := Below.nx B15 b16
  have rl := rl.below b16
  have ra := ra.below b16
  have rb := rb.below b16
  clear b16
  have CG1 := c_GapMoves la z lc 1 xs w16 rl (by omega) (by omega) (by omega)
  obtain ⟨iv, hiv⟩ : ∃ iv : Int, invV xs = iv := ⟨_, rfl⟩
  have HIV := Lib.hid hiv
  rw [HM1.out, hiv] at CG1
  clear hiv
  have C := Lib.hid (CG1)
  go_wp2_with fail
  refine C.out.mono ?_
  rintro e w17 ⟨rfl, b17⟩
  clear C
  have B17 : Below w.heap.size w w17 := Below.nx B16 b17
  have rl := rl.below b17
  have ra := ra.below b17
  have rb := rb.below b17
  clear b17
  clear CG1
  have C0 := ci_InversionsOf la z lc xs w17 rl
  rw [HIV.out] at C0
  have C := Lib.hid C0
  clear C0
  go_wp2_with fail
  refine C.out.mono ?_
  rintro e w18 ⟨rfl, b18⟩
  clear C
  have B18 : Below w.heap.size w w18 := Below.nx B17 b18
  have rl := rl.below b18
  have ra := ra.below b18
  have rb := rb.below b18
  clear b18
  obtain ⟨gv, hgv⟩ : ∃ gv : Int, (gmT xs k z z : Int) = gv := ⟨_, rfl⟩
  obtain ⟨hb, hhb⟩ : ∃ hb, hsB xs k = hb := ⟨_, rfl⟩
  have hz0 : (gv == 0) = hb := by rw [← hgv, ← hhb]; exact HMZ.out
  have HGV := Lib.hid hgv
  have HHB := Lib.hid hhb
  clear hgv hhb
  have C0 := c_GapMoves la z lc k xs w18 rl (by omega) hk1 (by omega)
  rw [HGV.out] at C0
  have C := Lib.hid C0
  clear C0
  go_wp2_with fail
  refine C.out.mono ?_
  rintro e w19 ⟨rfl, b19⟩
  clear C
  have B19 : Below w.heap.size w w19 := Below.nx B18 b19
  have rl := rl.below b19
  have ra := ra.below b19
  have rb := rb.below b19
  clear b19
  have C0 := c_IsGapSorted la z lc k xs w19 rl (by omega) hk1 (by omega)
  rw [HHB.out] at C0
  have C := Lib.hid C0
  clear C0
  go_wp2_with fail
  refine C.out.mono ?_
  rintro e w20 ⟨rfl, b20⟩
  clear C
  have B20 : Below w.heap.size w w20 := Below.nx B19 b20
  have rl := rl.below b20
  have ra := ra.below b20
  have rb := rb.below b20
  clear b20
  clear hz0
  have C := Lib.hid (c_Unreached h k w20 hh1 (by omega) hk1 (by omega) : Calls Try.prog 29 #[.int .i64 h, .int .i64 k] w20 _)
  go_wp2_with fail
  refine C.out.mono ?_
  rintro e w21 ⟨ua, lu, uc, rfl, ⟨Lu, owu, _⟩, hlu, b21⟩
  clear C
  have B21 : Below w.heap.size w w21 := Below.nx B20 b21
  have rl := rl.below b21
  have ra := ra.below b21
  have rb := rb.below b21
  have ru := owu.rd
  clear b21 owu
  have hull : (unV h k).length = lu := ru.lens
  obtain ⟨ap, hap⟩ : ∃ ap, apartB h k = ap := ⟨_, rfl⟩
  obtain ⟨gu, hgu⟩ : ∃ gu, guV h k = gu := ⟨_, rfl⟩
  have F1 := Lib.hid (fun e : ap = true => un_apart hh1 hh5 hk1 hk5 (by rw [hap]; exact e))
  have F0 := Lib.hid (fun e : ap = false => un_not hh1 hh5 hk1 hk5 (by rw [hap]; exact e))
  rw [hull, hgu] at F1
  rw [hull] at F0
  have HAP := Lib.hid hap
  have HUL := Lib.hid hull
  have HGU := Lib.hid hgu
  clear hull hap hgu
  obtain ⟨p1, hp1⟩ : ∃ p1 : Nat, (h : Int) - 1 = (p1 : Int) := ⟨h - 1, by omega⟩
  obtain ⟨p2, hp2⟩ : ∃ p2 : Nat, (k : Int) - 1 = (p2 : Int) := ⟨k - 1, by omega⟩
  obtain ⟨r1, hr1⟩ : ∃ r1 : Nat, p1 * p2 = r1 := ⟨_, rfl⟩
  obtain ⟨r2, hr2⟩ : ∃ r2 : Nat, h * k = r2 := ⟨_, rfl⟩
  obtain ⟨r3, hr3⟩ : ∃ r3 : Nat, r1 / 2 = r3 := ⟨_, rfl⟩
  have b1 : r1 ≤ 16 := by rw [← hr1]; exact Nat.mul_le_mul (show p1 ≤ 4 by omega) (show p2 ≤ 4 by omega)
  have b2 : r2 ≤ 25 := by rw [← hr2]; exact Nat.mul_le_mul hh5 hk5
  have m1 : IntKind.i64.wrap ((p1 : Int) * (p2 : Int)) = (r1 : Int) := by rw [← Int.natCast_mul, hr1, IntKind.wrap_i64]; omega
  have m2 : IntKind.i64.wrap ((h : Int) * (k : Int)) = (r2 : Int) := by rw [← Int.natCast_mul, hr2, IntKind.wrap_i64]; omega
  have m3 : Int.tdiv (r1 : Int) 2 = (r3 : Int) := by rw [Int.tdiv_eq_ediv_of_nonneg (by omega)]; omega
  have F1 := Lib.hid (fun e : ap = true => (show lu = r3 ∧ (lu = 0 ∨ (r2 : Int) - (h : Int) - (k : Int) = gu) from by
    have f := F1.out e
    refine ⟨by rw [f.1, ← hr3, ← hr1, show p1 = h - 1 by omega, show p2 = k - 1 by omega], ?_⟩
    rcases f.2.1 with g | g
    · exact Or.inl g
    · right; rw [hr2] at g; omega))
  have HR := Lib.hid (And.intro hr1 (And.intro hr2 hr3))
  clear hr1 hr2 hr3
  obtain ⟨wz, hwz⟩ : ∃ wz : World, wz = w21 := ⟨_, rfl⟩
  subst hwz
  have CG := Lib.hid (fun wx => c_GreatestUnreached h k wx hh1 (by omega) hk1 (by omega))
  rw [HGU.out] at CG
  go_upto_region 11 with (fail)
  go_cut [9] from 93 to 121 (fun v wc => v = .bool ap ∧ wc = wz)
  case first =>
    by_cases e1 : h = 1
    · have zh1 : (((h : Nat) : Int) == 1) = true := by
        first | (simp; omega) | (rw [beq_iff_eq]; omega) | (rw [beq_eq_false_iff_ne]; omega)
      have hav : ap = true := by
        rw [← HAP.out]
        unfold apartB
        have qh1 : (h == 1) = true := by first | (simp; omega) | (rw [beq_iff_eq]; omega) | (rw [beq_eq_false_iff_ne]; omega)
        simp [qh1]
      subst hav
      clear e1
      go_wp2_with fail
      go_meet
      exact ⟨rfl, rfl⟩
    · by_cases e2 : k = 1
      · have zh1 : (((h : Nat) : Int) == 1) = false := by
          first | (simp; omega) | (rw [beq_iff_eq]; omega) | (rw [beq_eq_false_iff_ne]; omega)
        have zk1 : (((k : Nat) : Int) == 1) = true := by
          first | (simp; omega) | (rw [beq_iff_eq]; omega) | (rw [beq_eq_false_iff_ne]; omega)
        have hav : ap = true := by
          rw [← HAP.out]
          unfold apartB
          have qh1 : (h == 1) = false := by first | (simp; omega) | (rw [beq_iff_eq]; omega) | (rw [beq_eq_false_iff_ne]; omega)
          have qk1 : (k == 1) = true := by first | (simp; omega) | (rw [beq_iff_eq]; omega) | (rw [beq_eq_false_iff_ne]; omega)
          simp [qh1, qk1]
        subst hav
        clear e1 e2
        go_wp2_with fail
        go_meet
        exact ⟨rfl, rfl⟩
      · by_cases e3 : h = k
        · have zh1 : (((h : Nat) : Int) == 1) = false := by
            first | (simp; omega) | (rw [beq_iff_eq]; omega) | (rw [beq_eq_false_iff_ne]; omega)
          have zk1 : (((k : Nat) : Int) == 1) = false := by
            first | (simp; omega) | (rw [beq_iff_eq]; omega) | (rw [beq_eq_false_iff_ne]; omega)
          have zhk1 : ((h : Int) == (k : Int)) = true := by first | (simp; omega) | (rw [beq_iff_eq]; omega)
          have zhk2 : (h == k) = true := by first | (simp; omega) | (rw [beq_iff_eq]; omega)
          have zhk3 : ((h : Int) != (k : Int)) = false := by rw [bne, zhk1]; rfl
          have zhk4 : (h != k) = false := by rw [bne, zhk2]; rfl
          have hav : ap = false := by
            rw [← HAP.out]
            unfold apartB
            have q0 : (h != k) = false := zhk4
            have qh1 : (h == 1) = false := by first | (simp; omega) | (rw [beq_iff_eq]; omega) | (rw [beq_eq_false_iff_ne]; omega)
            have qk1 : (k == 1) = false := by first | (simp; omega) | (rw [beq_iff_eq]; omega) | (rw [beq_eq_false_iff_ne]; omega)
            simp [q0, qh1, qk1]
          subst hav
          clear e1 e2 e3
          go_wp2_with fail
          go_meet
          exact ⟨rfl, rfl⟩
        · by_cases e4 : h = 2
          · by_cases e5 : k = 4
            · have zh1 : (((h : Nat) : Int) == 1) = false := by
                first | (simp; omega) | (rw [beq_iff_eq]; omega) | (rw [beq_eq_false_iff_ne]; omega)
              have zk1 : (((k : Nat) : Int) == 1) = false := by
                first | (simp; omega) | (rw [beq_iff_eq]; omega) | (rw [beq_eq_false_iff_ne]; omega)
              have zh2 : (((h : Nat) : Int) == 2) = true := by
                first | (simp; omega) | (rw [beq_iff_eq]; omega) | (rw [beq_eq_false_iff_ne]; omega)
              have zk4 : (((k : Nat) : Int) == 4) = true := by
                first | (simp; omega) | (rw [beq_iff_eq]; omega) | (rw [beq_eq_false_iff_ne]; omega)
              have zhk1 : ((h : Int) == (k : Int)) = false := by first | (simp; omega) | (rw [beq_eq_false_iff_ne]; omega)
              have zhk2 : (h == k) = false := by first | (simp; omega) | (rw [beq_eq_false_iff_ne]; omega)
              have zhk3 : ((h : Int) != (k : Int)) = true := by rw [bne, zhk1]; rfl
              have zhk4 : (h != k) = true := by rw [bne, zhk2]; rfl
              have hav : ap = false := by
                rw [← HAP.out]
                unfold apartB
                have q0 : (h != k) = true := zhk4
                have qh1 : (h == 1) = false := by first | (simp; omega) | (rw [beq_iff_eq]; omega) | (rw [beq_eq_false_iff_ne]; omega)
                have qk1 : (k == 1) = false := by first | (simp; omega) | (rw [beq_iff_eq]; omega) | (rw [beq_eq_false_iff_ne]; omega)
                have qh2 : (h == 2) = true := by first | (simp; omega) | (rw [beq_iff_eq]; omega) | (rw [beq_eq_false_iff_ne]; omega)
                have qk4 : (k == 4) = true := by first | (simp; omega) | (rw [beq_iff_eq]; omega) | (rw [beq_eq_false_iff_ne]; omega)
                simp [q0, qh1, qk1, qh2, qk4]
              subst hav
              clear e1 e2 e3 e4 e5
              go_wp2_with fail
              go_meet
              exact ⟨rfl, rfl⟩
            · have zh1 : (((h : Nat) : Int) == 1) = false := by
                first | (simp; omega) | (rw [beq_iff_eq]; omega) | (rw [beq_eq_false_iff_ne]; omega)
              have zk1 : (((k : Nat) : Int) == 1) = false := by
                first | (simp; omega) | (rw [beq_iff_eq]; omega) | (rw [beq_eq_false_iff_ne]; omega)
              have zh2 : (((h : Nat) : Int) == 2) = true := by
                first | (simp; omega) | (rw [beq_iff_eq]; omega) | (rw [beq_eq_false_iff_ne]; omega)
              have zk4 : (((k : Nat) : Int) == 4) = false := by
                first | (simp; omega) | (rw [beq_iff_eq]; omega) | (rw [beq_eq_false_iff_ne]; omega)
              have zh4 : (((h : Nat) : Int) == 4) = false := by
                first | (simp; omega) | (rw [beq_iff_eq]; omega) | (rw [beq_eq_false_iff_ne]; omega)
              have zhk1 : ((h : Int) == (k : Int)) = false := by first | (simp; omega) | (rw [beq_eq_false_iff_ne]; omega)
              have zhk2 : (h == k) = false := by first | (simp; omega) | (rw [beq_eq_false_iff_ne]; omega)
              have zhk3 : ((h : Int) != (k : Int)) = true := by rw [bne, zhk1]; rfl
              have zhk4 : (h != k) = true := by rw [bne, zhk2]; rfl
              have hav : ap = true := by
                rw [← HAP.out]
                unfold apartB
                have q0 : (h != k) = true := zhk4
                have qh1 : (h == 1) = false := by first | (simp; omega) | (rw [beq_iff_eq]; omega) | (rw [beq_eq_false_iff_ne]; omega)
                have qk1 : (k == 1) = false := by first | (simp; omega) | (rw [beq_iff_eq]; omega) | (rw [beq_eq_false_iff_ne]; omega)
                have qh2 : (h == 2) = true := by first | (simp; omega) | (rw [beq_iff_eq]; omega) | (rw [beq_eq_false_iff_ne]; omega)
                have qk4 : (k == 4) = false := by first | (simp; omega) | (rw [beq_iff_eq]; omega) | (rw [beq_eq_false_iff_ne]; omega)
                have qh4 : (h == 4) = false := by first | (simp; omega) | (rw [beq_iff_eq]; omega) | (rw [beq_eq_false_iff_ne]; omega)
                simp [q0, qh1, qk1, qh2, qk4, qh4]
              subst hav
              clear e1 e2 e3 e4 e5
              go_wp2_with fail
              go_meet
              exact ⟨rfl, rfl⟩
          · by_cases e5 : h = 4
            · by_cases e6 : k = 2
              · have zh1 : (((h : Nat) : Int) == 1) = false := by
                  first | (simp; omega) | (rw [beq_iff_eq]; omega) | (rw [beq_eq_false_iff_ne]; omega)
                have zk1 : (((k : Nat) : Int) == 1) = false := by
                  first | (simp; omega) | (rw [beq_iff_eq]; omega) | (rw [beq_eq_false_iff_ne]; omega)
                have zh2 : (((h : Nat) : Int) == 2) = false := by
                  first | (simp; omega) | (rw [beq_iff_eq]; omega) | (rw [beq_eq_false_iff_ne]; omega)
                have zh4 : (((h : Nat) : Int) == 4) = true := by
                  first | (simp; omega) | (rw [beq_iff_eq]; omega) | (rw [beq_eq_false_iff_ne]; omega)
                have zk2 : (((k : Nat) : Int) == 2) = true := by
                  first | (simp; omega) | (rw [beq_iff_eq]; omega) | (rw [beq_eq_false_iff_ne]; omega)
                have zhk1 : ((h : Int) == (k : Int)) = false := by first | (simp; omega) | (rw [beq_eq_false_iff_ne]; omega)
                have zhk2 : (h == k) = false := by first | (simp; omega) | (rw [beq_eq_false_iff_ne]; omega)
                have zhk3 : ((h : Int) != (k : Int)) = true := by rw [bne, zhk1]; rfl
                have zhk4 : (h != k) = true := by rw [bne, zhk2]; rfl
                have hav : ap = false := by
                  rw [← HAP.out]
                  unfold apartB
                  have q0 : (h != k) = true := zhk4
                  have qh1 : (h == 1) = false := by first | (simp; omega) | (rw [beq_iff_eq]; omega) | (rw [beq_eq_false_iff_ne]; omega)
                  have qk1 : (k == 1) = false := by first | (simp; omega) | (rw [beq_iff_eq]; omega) | (rw [beq_eq_false_iff_ne]; omega)
                  have qh2 : (h == 2) = false := by first | (simp; omega) | (rw [beq_iff_eq]; omega) | (rw [beq_eq_false_iff_ne]; omega)
                  have qh4 : (h == 4) = true := by first | (simp; omega) | (rw [beq_iff_eq]; omega) | (rw [beq_eq_false_iff_ne]; omega)
                  have qk2 : (k == 2) = true := by first | (simp; omega) | (rw [beq_iff_eq]; omega) | (rw [beq_eq_false_iff_ne]; omega)
                  simp [q0, qh1, qk1, qh2, qh4, qk2]
                subst hav
                clear e1 e2 e3 e4 e5 e6
                go_wp2_with fail
                go_meet
                exact ⟨rfl, rfl⟩
              · have zh1 : (((h : Nat) : Int) == 1) = false := by
                  first | (simp; omega) | (rw [beq_iff_eq]; omega) | (rw [beq_eq_false_iff_ne]; omega)
                have zk1 : (((k : Nat) : Int) == 1) = false := by
                  first | (simp; omega) | (rw [beq_iff_eq]; omega) | (rw [beq_eq_false_iff_ne]; omega)
                have zh2 : (((h : Nat) : Int) == 2) = false := by
                  first | (simp; omega) | (rw [beq_iff_eq]; omega) | (rw [beq_eq_false_iff_ne]; omega)
                have zh4 : (((h : Nat) : Int) == 4) = true := by
                  first | (simp; omega) | (rw [beq_iff_eq]; omega) | (rw [beq_eq_false_iff_ne]; omega)
                have zk2 : (((k : Nat) : Int) == 2) = false := by
                  first | (simp; omega) | (rw [beq_iff_eq]; omega) | (rw [beq_eq_false_iff_ne]; omega)
                have zhk1 : ((h : Int) == (k : Int)) = false := by first | (simp; omega) | (rw [beq_eq_false_iff_ne]; omega)
                have zhk2 : (h == k) = false := by first | (simp; omega) | (rw [beq_eq_false_iff_ne]; omega)
                have zhk3 : ((h : Int) != (k : Int)) = true := by rw [bne, zhk1]; rfl
                have zhk4 : (h != k) = true := by rw [bne, zhk2]; rfl
                have hav : ap = true := by
                  rw [← HAP.out]
                  unfold apartB
                  have q0 : (h != k) = true := zhk4
                  have qh1 : (h == 1) = false := by first | (simp; omega) | (rw [beq_iff_eq]; omega) | (rw [beq_eq_false_iff_ne]; omega)
                  have qk1 : (k == 1) = false := by first | (simp; omega) | (rw [beq_iff_eq]; omega) | (rw [beq_eq_false_iff_ne]; omega)
                  have qh2 : (h == 2) = false := by first | (simp; omega) | (rw [beq_iff_eq]; omega) | (rw [beq_eq_false_iff_ne]; omega)
                  have qh4 : (h == 4) = true := by first | (simp; omega) | (rw [beq_iff_eq]; omega) | (rw [beq_eq_false_iff_ne]; omega)
                  have qk2 : (k == 2) = false := by first | (simp; omega) | (rw [beq_iff_eq]; omega) | (rw [beq_eq_false_iff_ne]; omega)
                  simp [q0, qh1, qk1, qh2, qh4, qk2]
                subst hav
                clear e1 e2 e3 e4 e5 e6
                go_wp2_with fail
                go_meet
                exact ⟨rfl, rfl⟩
            · have zh1 : (((h : Nat) : Int) == 1) = false := by
                first | (simp; omega) | (rw [beq_iff_eq]; omega) | (rw [beq_eq_false_iff_ne]; omega)
              have zk1 : (((k : Nat) : Int) == 1) = false := by
                first | (simp; omega) | (rw [beq_iff_eq]; omega) | (rw [beq_eq_false_iff_ne]; omega)
              have zh2 : (((h : Nat) : Int) == 2) = false := by
                first | (simp; omega) | (rw [beq_iff_eq]; omega) | (rw [beq_eq_false_iff_ne]; omega)
              have zh4 : (((h : Nat) : Int) == 4) = false := by
                first | (simp; omega) | (rw [beq_iff_eq]; omega) | (rw [beq_eq_false_iff_ne]; omega)
              have zhk1 : ((h : Int) == (k : Int)) = false := by first | (simp; omega) | (rw [beq_eq_false_iff_ne]; omega)
              have zhk2 : (h == k) = false := by first | (simp; omega) | (rw [beq_eq_false_iff_ne]; omega)
              have zhk3 : ((h : Int) != (k : Int)) = true := by rw [bne, zhk1]; rfl
              have zhk4 : (h != k) = true := by rw [bne, zhk2]; rfl
              have hav : ap = true := by
                rw [← HAP.out]
                unfold apartB
                have q0 : (h != k) = true := zhk4
                have qh1 : (h == 1) = false := by first | (simp; omega) | (rw [beq_iff_eq]; omega) | (rw [beq_eq_false_iff_ne]; omega)
                have qk1 : (k == 1) = false := by first | (simp; omega) | (rw [beq_iff_eq]; omega) | (rw [beq_eq_false_iff_ne]; omega)
                have qh2 : (h == 2) = false := by first | (simp; omega) | (rw [beq_iff_eq]; omega) | (rw [beq_eq_false_iff_ne]; omega)
                have qh4 : (h == 4) = false := by first | (simp; omega) | (rw [beq_iff_eq]; omega) | (rw [beq_eq_false_iff_ne]; omega)
                simp [q0, qh1, qk1, qh2, qh4]
              subst hav
              clear e1 e2 e3 e4 e5
              go_wp2_with fail
              go_meet
              exact ⟨rfl, rfl⟩
  case rest =>
    obtain ⟨rfl, rfl⟩ := hcut
    obtain ⟨wz, hwz⟩ : ∃ wz : World, wz = wc := ⟨_, rfl⟩
    subst hwz
    go_upto_region 12 with (fail)
    go_cut [163] from 122 to 162 (fun u wd => u = .bool false ∧ Below wz.heap.size wz wd)
    case first =>
      cases ap
      · have f0 : lu = 0 := F0.out rfl
        subst f0
        go_wp2_with fail
        go_meet
        exact ⟨rfl, Below.refl _ _⟩
      · obtain ⟨f0, f2⟩ := F1.out rfl
        subst f0
        have zl3 : ((lu : Int) == (lu : Int)) = true := by simp
        by_cases f1 : lu = 0
        · have zl1 : decide ((0 : Int) < (lu : Int)) = false := decide_eq_false (by omega)
          have zl2 : decide (0 < lu) = false := decide_eq_false (by omega)
          clear f1 f2
          go_wp2_with fail
          go_meet
          exact ⟨rfl, Below.refl _ _⟩
        · have f2 : (r2 : Int) - (h : Int) - (k : Int) = gu := by
            rcases f2 with g | g
            · omega
            · exact g
          obtain ⟨x1, hx1⟩ : ∃ x1 : Int, (r2 : Int) - (h : Int) = x1 := ⟨_, rfl⟩
          rw [hx1] at f2
          have zl1 : decide ((0 : Int) < (lu : Int)) = true := decide_eq_true (by omega)
          have zl2 : decide (0 < lu) = true := decide_eq_true (by omega)
          have zl4 : (gu == gu) = true := by simp
          clear f1
          go_wp2_with fail
          refine (CG.out _).mono ?_
          rintro e wg ⟨rfl, bg⟩
          go_wp2_with fail
          go_meet
          exact ⟨rfl, bg⟩
    case rest =>
      obtain ⟨rfl, bc⟩ := hcut
      have Bz : Below w.heap.size w wc := Below.nx B21 bc
      have rl := rl.below bc
      have rb := rb.below bc
      have ru := ru.below bc
      clear bc ra
      have hap : ap = true → ∀ d : Nat, 1 ≤ d → d ≤ 16 → ((d : Int) ∈ unV h k) ∨ HS xb d := fun e d h1 h2 => by
        rcases (un_apart hh1 hh5 hk1 hk5 (by rw [HAP.out]; exact e)).2.2 d h1 h2 with h3 | h3
        · exact Or.inl h3
        · exact Or.inr (HS_rep HSb.out HSc.out h3)
      have HHP := Lib.hid hap
      clear hap p1 p2 r1 r2 r3 hp1 hp2 b1 b2 m1 m2 m3 HR F0 F1 CG
      go_wp2_with fail
      obtain ⟨wo, hwo⟩ : ∃ wo : World, wo = wc := ⟨_, rfl⟩
      subst hwo
      go_loopw [10] (fun i wr => ∃ d : Nat, 1 ≤ d ∧ d ≤ 17 ∧ i = .int .i64 d ∧ Below wo.heap.size wo wr) (fun i _ => 17 - (intOf i).toNat)
      case atStart => exact ⟨1, by omega, by omega, rfl, Below.refl _ _⟩
      case round =>
        as_aux_lemma =>
        obtain ⟨d, hd1, hd2, rfl, hb⟩ := hrel
        by_cases hd : d ≤ 16
        · cases ap
          · go_wp2_with fail
            go_roundw
            case rel => exact ⟨d + 1, by omega, by omega, by go_num, hb⟩
            case measure => simp [intOf]; omega
          · have D1 := c_has ua lu uc (unV h k) (d : Int) wr (ru.below hb) (by omega)
            by_cases hm : (d : Int) ∈ unV h k
            · rw [decide_eq_true hm] at D1
              have D1 := Lib.hid D1
              clear hm
              go_wp2_with fail
              refine D1.out.mono ?_
              rintro e wh ⟨rfl, bh⟩
              go_wp2_with fail
              go_roundw
              case rel => exact ⟨d + 1, by omega, by omega, by go_num, Below.nx hb bh⟩
              case measure => simp [intOf]; omega
            · have hs : HS xb d := by
                rcases HHP.out rfl d hd1 hd with h3 | h3
                · exact absurd h3 hm
                · exact h3
              rw [decide_eq_false hm] at D1
              have D1 := Lib.hid D1
              have HSd := Lib.hid hs
              clear hm hs
              go_wp2_with fail
              refine D1.out.mono ?_
              rintro e wh ⟨rfl, bh⟩
              have D2 := c_IsGapSorted ba z bc d xb wh ((rb.below hb).below bh) (by omega) (by omega) (by omega)
              rw [hsB_yes HSd.out] at D2
              have D2 := Lib.hid D2
              go_wp2_with fail
              refine D2.out.mono ?_
              rintro e wi ⟨rfl, bi⟩
              go_wp2_with fail
              go_roundw
              case rel => exact ⟨d + 1, by omega, by omega, by go_num, Below.nx (Below.nx hb bh) bi⟩
              case measure => simp [intOf]; omega
        · have rl := rl.below hb
          have By : Below w.heap.size w wr := Below.nx Bz hb
          clear hb Bz rb ru
          have M1 := Lib.hid (c_MakeSize a n cap bs 23 1 7 wr (hr.below By) hn (by omega) (by omega) (by omega) : Calls Try.prog 20 #[.slice a n cap, .int .i64 23, .int .i64 1, .int .i64 7] wr _)
          go_wp2_with fail
          refine M1.out.mono ?_
          rintro e y1 ⟨nn, rfl, hn1, hn7, c1⟩
          clear M1
          have Y1 : Below w.heap.size w y1 := Below.nx By c1
          obtain ⟨nm, hnm⟩ : ∃ nm : Nat, (nn : Int) - 1 = (nm : Int) := ⟨nn - 1, by omega⟩
          have M2 := Lib.hid (c_MakeSize a n cap bs 24 0 nm y1 (hr.below Y1) hn (by omega) (by omega) (by omega) : Calls Try.prog 20 #[.slice a n cap, .int .i64 24, .int .i64 0, .int .i64 nm] y1 _)
          go_wp2_with fail
          refine M2.out.mono ?_
          rintro e y2 ⟨x, rfl, _, hx, c2⟩
          clear M2
          have Y2 : Below w.heap.size w y2 := Below.nx Y1 c2
          obtain ⟨g, hg⟩ : ∃ g : Nat, (1 : Int) + (x : Int) = (g : Int) := ⟨1 + x, by omega⟩
          obtain ⟨m, hm⟩ : ∃ m : Nat, m + g = nn := ⟨nn - g, by omega⟩
          obtain ⟨T, hT⟩ : ∃ T : Nat, T = (nn + g - 1) / g := ⟨_, rfl⟩
          have hTs := gap_sizes nn (by omega) g (by omega)
          rw [← hT, show nn - g = m by omega] at hTs
          have hT1 : T * m ≤ 60 := by omega
          have hT2 : nn ≤ T * g := by omega
          have G1 := Lib.hid (c_GapNetwork nn g m T y2 hn1 hn7 (by omega) hm hT hT1)
          obtain ⟨K, hK⟩ : ∃ K, T * m = K := ⟨_, rfl⟩
          have hok : OkN nn (npF g m K) := npF_ok (by omega) (by omega) (by
            rcases Nat.eq_zero_or_pos m with h9 | h9
            · exact Or.inl (by rw [← hK, h9, Nat.mul_zero])
            · exact Or.inr h9)
          have HAP2 := Lib.hid (fun ys : List Int => fun e : ys.length = nn => (show apN ys (npF g m K) K = gsG ys g g by rw [← hK]; exact apN_gs ys g m T (by omega) (by omega) (by rw [e]; exact hT2)))
          rw [hK] at G1 hT1
          have HG1 : 1 ≤ g ∧ g ≤ 16 := by omega
          have HOK := Lib.hid hok
          clear hT hT2 hTs hK hm hok hx hnm
          go_wp2_with fail
          refine G1.out.mono ?_
          rintro e y3 ⟨pa, pc, rfl, rp, c3⟩
          clear G1
          have Y3 : Below w.heap.size w y3 := Below.nx Y2 c3
          obtain ⟨y4, hy4⟩ : ∃ y4, y3.alloc (.cells #[.int .i64 nn, .slice pa K pc] 41) = y4 := ⟨_, rfl⟩
          have c4 : Below y3.heap.size y3 y4 := by rw [← hy4]; exact (Below.refl _ _).alloc (Nat.le_refl _) _
          have Y4 : Below w.heap.size w y4 := Below.nx Y3 c4
          have hg0 : y4.cell? ⟨y3.heap.size, 0, none⟩ = some (.int .i64 nn) := by rw [← hy4]; simp
          have hg1 : y4.cell? ⟨y3.heap.size, 1, none⟩ = some (.slice pa K pc) := by rw [← hy4]; simp
          have HY4 := Lib.hid hy4
          clear hy4
          go_wp2_with fail
          rw [HY4.out]
          have M3 := Lib.hid (c_MakeList a n cap bs 40 nn y4 (hr.below Y4) hn (by omega) (by omega) : Calls Try.prog 25 #[.slice a n cap, .int .i64 40, .int .i64 nn] y4 _)
          refine M3.out.mono ?_
          rintro e y5 ⟨ma, mc, ys, rfl, ⟨Lm, owm, _⟩, c5⟩
          clear M3
          have Y5 : Below w.heap.size w y5 := Below.nx Y4 c5
          have HYL := Lib.hid owm.lens
          have x0 := (c5.cell (p := ⟨y3.heap.size, 0, none⟩) (World.block_lt_of_cell? y4 _ hg0)).trans hg0
          have x1 := (c5.cell (p := ⟨y3.heap.size, 1, none⟩) (World.block_lt_of_cell? y4 _ hg1)).trans hg1
          have A1 := c_ApplyNetwork nn K pc mc pa ma (npF g m K) ys y5 ((rp.below c4).below c5) HOK.out hn1 (by omega) hT1 owm.rd
          rw [HAP2.out ys HYL.out] at A1
          have A1 := Lib.hid A1
          go_wp2_with fail
          refine A1.out.mono ?_
          rintro e y6 ⟨oa, oc, rfl, ⟨Lo, owo, _⟩, c6⟩
          clear A1 x0 x1 hg0 hg1 HY4 rp HOK
          have Y6 : Below w.heap.size w y6 := Below.nx Y5 c6
          have S1 := Lib.hid (c_GapSort ma nn mc g ys y6 (owm.below c6).rd (by omega) HG1.1 HG1.2 : Calls Try.prog 26 #[.slice ma nn mc, .int .i64 g] y6 _)
          go_wp2_with fail
          refine S1.out.mono ?_
          rintro e y7 ⟨qa, qc, rfl, ⟨Lq, owq, _⟩, c7⟩
          clear S1
          have Y7 : Below w.heap.size w y7 := Below.nx Y6 c7
          have S2 := Lib.hid (c_same oa qa nn oc nn qc (gsG ys g g) y7 (owo.below c7).rd owq.rd (by omega) : Calls Try.prog 17 #[.slice oa nn oc, .slice qa nn qc] y7 _)
          go_wp2_with fail
          refine S2.out.mono ?_
          rintro e y8 ⟨rfl, c8⟩
          clear S2 owm owo owq
          have Y8 : Below w.heap.size w y8 := Below.nx Y7 c8
          have rl := (((((((rl.below c1).below c2).below c3).below c4).below c5).below c6).below c7).below c8
          clear c1 c2 c3 c4 c5 c6 c7 c8 Y1 Y2 Y3 Y4 Y5 Y6 Y7
          go_wp2_with fail
          have rg3 : RdI (y8.alloc (.cells #[.int .i64 (k : Int), .int .i64 (h : Int), .int .i64 1] 3)) (some ⟨y8.heap.size, 0, none⟩) 3 3 [(k : Int), (h : Int), 1] :=
            (Ow.new' y8 3 #[.int .i64 (k : Int), .int .i64 (h : Int), .int .i64 1] 3 (ints [(k : Int), (h : Int), 1]) rfl rfl (by unfold maxLen; omega)).rd
          have c9 : Below y8.heap.size y8 (y8.alloc (.cells #[.int .i64 (k : Int), .int .i64 (h : Int), .int .i64 1] 3)) := (Below.refl _ _).alloc (Nat.le_refl _) _
          have rl9 := rl.below c9
          have Z1 := ci_ShellSort la z lc xs _ 3 3 _ _ rl9 rg3 (by omega)
          rw [sh_three HXL.out (by omega) hh1 (by omega) hk1 (by omega), HSL.out] at Z1
          have Z1 := Lib.hid Z1
          have Y9 : Below w.heap.size w _ := Below.nx Y8 c9
          refine Z1.out.mono ?_
          rintro e y10 ⟨za, zn, zc, rfl, ⟨Lz, owz, _⟩, _, c10⟩
          clear Z1
          have HSLL := Lib.hid (show sl.length = z by rw [← HSL.out, sortTo_len])
          obtain rfl : z = zn := by rw [← owz.lens, HSLL.out]
          have Y10 : Below w.heap.size w y10 := Below.nx Y9 c10
          have rl := rl9.below c10
          clear rg3 rl9 c9 c10 Y9
          have Z2 := c_sorted la z lc xs y10 rl (by omega)
          rw [HSL.out] at Z2
          have Z2 := Lib.hid Z2
          go_wp2_with fail
          refine Z2.out.mono ?_
          rintro e y11 ⟨va, vc, rfl, ⟨Lv, owv, _⟩, c11⟩
          clear Z2
          have Y11 : Below w.heap.size w y11 := Below.nx Y10 c11
          have Z3 := Lib.hid (c_same za va z zc z vc sl y11 (owz.below c11).rd owv.rd (by omega) : Calls Try.prog 17 #[.slice za z zc, .slice va z vc] y11 _)
          go_wp2_with fail
          refine Z3.out.mono ?_
          rintro e y12 ⟨rfl, c12⟩
          clear Z3
          have Y12 : Below w.heap.size w y12 := Below.nx Y11 c12
          have rl := (rl.below c11).below c12
          clear owz owv c11 c12 Y8 Y10 Y11
          go_wp2_with fail
          have rg2 : RdI (y12.alloc (.cells #[.int .i64 (h : Int), .int .i64 1] 3)) (some ⟨y12.heap.size, 0, none⟩) 2 2 [(h : Int), 1] :=
            (Ow.new' y12 3 #[.int .i64 (h : Int), .int .i64 1] 2 (ints [(h : Int), 1]) rfl rfl (by unfold maxLen; omega)).rd
          have c13 : Below y12.heap.size y12 (y12.alloc (.cells #[.int .i64 (h : Int), .int .i64 1] 3)) := (Below.refl _ _).alloc (Nat.le_refl _) _
          have Z4 := ci_ShellSort la z lc xs _ 2 2 _ _ (rl.below c13) rg2 (by omega)
          have HS2 := Lib.hid (sh_two (h := h) HXL.out (by omega) hh1 (by omega))
          obtain ⟨sv, hsv⟩ : ∃ sv, shV xs [(h : Int), 1] = sv := ⟨_, rfl⟩
          rw [hsv] at HS2 Z4
          have Z4 := Lib.hid Z4
          have Y13 : Below w.heap.size w _ := Below.nx Y12 c13
          clear hsv
          refine Z4.out.mono ?_
          rintro e y14 ⟨fa, fn, fc, rfl, ⟨Lf, owf, _⟩, _, c14⟩
          clear Z4
          obtain rfl : z = fn := by rw [← owf.lens, HS2.out.2]
          have Y14 : Below w.heap.size w y14 := Below.nx Y13 c14
          have Z5 := c_rises fa z fc sv y14 owf.rd (by omega)
          rw [HS2.out.1] at Z5
          have Z5 := Lib.hid Z5
          go_wp2_with fail
          refine Z5.out.mono ?_
          rintro e y15 ⟨rfl, c15⟩
          clear Z5
          have Y15 : Below w.heap.size w y15 := Below.nx Y14 c15
          go_wp2_with fail
          go_ret
          exact ⟨rfl, Y15⟩

end Go.Proofs.Ytpicnechmdbkfaa

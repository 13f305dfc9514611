/- The law of runs, walked out of the contracts. No condition. -/
import Derived.Test.YtaffokicnabkiaaRunsW
import Derived.Deep.CutRange
import Derived.BigQuiet
namespace Go.Proofs.Ytaffokicnabkiaa
open Go.RowKit
set_option linter.unusedVariables false
set_option linter.unusedSimpArgs false

set_option maxRecDepth 1000000 in
set_option maxHeartbeats 16000000 in
theorem w_FnRuns (a : Option Addr) (n cap : Nat) (bs : List Int) (w : World) (hr : Rd w a n cap (bys bs)) :
    Calls Try.prog 4 #[.slice a n cap] w fun e w' => e = .returned (.bool true) ∧ Below w.heap.size w w' := by
  by_cases hn : n ≤ 1048576
  case neg =>
    go_enter Try.func4, Try.ntmps4
    go_wp2
    go_ret
    exact ⟨rfl, Below.refl _ _⟩
  have CM := Lib.hid (c_MakeRuns a n cap bs 0 w hr hn (by omega) : Calls Try.prog 11 #[.slice a n cap, .int .i64 0] w _)
  go_enter Try.func4, Try.ntmps4
  go_wp2_with fail
  refine CM.out.mono ?_
  rintro e w1 ⟨ra, z, rc, rs, rfl, hz, ⟨Lr, owr, _⟩, hx, b1⟩
  clear CM
  obtain ⟨D, A, B, S, RF⟩ := runs_facts owr.lens hz hx
  clear hx
  have rr := owr.rd
  clear owr
  have C1 := ci_CheapestMerge ra z rc rs w1 rr
  rw [RF.ch] at C1
  have C1 := Lib.hid C1
  go_wp2_with fail
  refine C1.out.mono ?_
  rintro e w2 ⟨rfl, b2⟩
  clear C1
  have B2 := Below.nx b1 b2
  have rr := rr.below b2
  have C2 := ci_CheapestNeighbors ra z rc rs w2 rr
  rw [RF.ne] at C2
  have C2 := Lib.hid C2
  go_wp2_with fail
  refine C2.out.mono ?_
  rintro e w3 ⟨rfl, b3⟩
  clear C2
  have B3 := Below.nx B2 b3
  have rr := rr.below b3
  have C3 := ci_MergeDepths ra z rc rs w3 rr
  rw [RF.md] at C3
  have C3 := Lib.hid C3
  go_wp2_with fail
  refine C3.out.mono ?_
  rintro e w4 ⟨da, dn, dc, rfl, ⟨Ld, owd, _⟩, _, b4⟩
  clear C3
  obtain rfl : z = dn := by rw [← owd.lens, RF.dl]
  have B4 := Below.nx B3 b4
  have rr := rr.below b4
  have rd := owd.rd
  clear owd
  have C4 := ci_LengthsOk ra z rc rs w4 rr
  rw [RF.ok] at C4
  have C4 := Lib.hid C4
  obtain ⟨hA0, hAB, hS0, hS72⟩ := RF.bd
  have h1 : ¬ A < 0 := by omega
  have h2 : ¬ B < A := by omega
  have HRF := Lib.hid RF
  clear RF b1 b2 b3 b4 B2 B3
  go_wp2_with fail
  refine C4.out.mono ?_
  rintro e w5 ⟨rfl, b5⟩
  clear C4
  have B5 := Below.nx B4 b5
  have rr := rr.below b5
  have rd := rd.below b5
  clear b5 B4
  go_wp2_with fail
  obtain ⟨wv, hwv⟩ : ∃ wv : World, wv = w5 := ⟨_, rfl⟩
  subst hwv
  go_loopw [7, 55] (fun v i wr => ∃ k : Nat, k ≤ z ∧ i = .int .i64 k ∧ v = .int .i64 (payTo rs D k) ∧ Below wv.heap.size wv wr) (fun _ i _ => z - (intOf i).toNat)
  case atStart => exact ⟨0, by omega, rfl, rfl, Below.refl _ _⟩
  case round =>
    as_aux_lemma =>
    obtain ⟨k, hk, rfl, rfl, hb⟩ := hrel
    by_cases hkz : k < z
    · obtain ⟨b1, o1, rfl, _, hc1⟩ := (rr.below hb).int (by omega)
      obtain ⟨b2, o2, rfl, _, hc2⟩ := (rd.below hb).int (by omega)
      have c1 := hc1 k hkz
      have c2 := hc2 k hkz
      have hx := HRF.out.xb k hkz
      have hd := HRF.out.db k hkz
      have hp := HRF.out.pb k (by omega)
      obtain ⟨x, hxe⟩ : ∃ x, nth rs k = x := ⟨_, rfl⟩
      obtain ⟨d, hde⟩ : ∃ d, nth D k = d := ⟨_, rfl⟩
      obtain ⟨s, hse⟩ : ∃ s, payTo rs D k = s := ⟨_, rfl⟩
      have HE := Lib.hid (show payTo rs D (k + 1) = s + x * d by simp only [payTo]; rw [hxe, hde, hse])
      rw [hxe] at c1 hx
      rw [hde] at c2 hd
      rw [hse] at hp ⊢
      have hm := mul_bd (x := x) (d := d) (by omega) hx.2 hd.1 hd.2
      obtain ⟨y, hy⟩ : ∃ y, x * d = y := ⟨_, rfl⟩
      rw [hy] at HE hm
      have g1 : IntKind.i64.wrap (x * d) = y := by rw [hy, IntKind.wrap_i64]; omega
      have g2 : IntKind.i64.wrap (s + y) = s + y := by rw [IntKind.wrap_i64]; omega
      have HY := Lib.hid hy
      clear hxe hde hse hc1 hc2 hy
      go_wp2_with fail
      go_roundw
      case rel => exact ⟨k + 1, by omega, by go_num, int_eq (by rw [HE.out]), hb⟩
      case measure => simp [intOf]; omega
    · obtain rfl : k = z := by omega
      rw [HRF.out.pay]
      have rr := rr.below hb
      have B6 := Below.nx B5 hb
      have C5 := c_sumT ra k rc rs wr rr (fun j hj => by have := HRF.out.sb j hj; omega)
      rw [HRF.out.sum] at C5
      have C5 := Lib.hid C5
      have hup := HRF.out.up
      go_upto_region 15 with (fail)
      go_cut [82] from 69 to 81 (fun v wc => v = .bool false ∧ Below wr.heap.size wr wc)
      case first =>
        have hcs : k = 0 ∨ k = 1 ∨ k = 2 ∨ k = 3 ∨ k = 4 ∨ k = 5 ∨ k = 6 := by omega
        rcases hcs with e | e | e | e | e | e | e
        all_goals
          subst e
          simp at hup
          go_wp2_with fail
          refine C5.out.mono ?_
          rintro e w6 ⟨rfl, b6⟩
          go_wp2_with fail
          go_meet
          refine ⟨congrArg Value.bool (decide_eq_false ?_), b6⟩
          try simp only [show max (0 : Int) (-1) = 0 from rfl, show max (0 : Int) 1 = 1 from rfl, show max (0 : Int) 2 = 2 from rfl, show max (0 : Int) 3 = 3 from rfl, show max (0 : Int) 4 = 4 from rfl, show max (0 : Int) 5 = 5 from rfl]
          first | omega | (unfold wrap64; omega)
      case rest =>
        as_aux_lemma =>
        obtain ⟨rfl, b6⟩ := hcut
        have B7 := Below.nx B6 b6
        clear rr rd hb B5 B6 b6 C5 hup hk
        clear HRF h1 h2 hA0 hAB hS0 hS72
        obtain ⟨w7, rfl⟩ : ∃ w7 : World, w7 = wc := ⟨_, rfl⟩
        have CN := Lib.hid (c_MakeNear a n cap bs 20 w7 (hr.below B7) hn (by omega) : Calls Try.prog 17 #[.slice a n cap, .int .i64 20] w7 _)
        go_wp2_with fail
        refine CN.out.mono ?_
        rintro e w8 ⟨la, y, lc, xs, rfl, hy, ⟨Ll, owl, _⟩, b8⟩
        clear CN
        have HXL := Lib.hid owl.lens
        obtain ⟨O, u, N, LF⟩ := list_facts owl.lens hy
        have rl := owl.rd
        have B8 := Below.nx B7 b8
        clear owl B7 b8
        have C6 := c_SplitRunsT la y lc xs w8 rl
        rw [LF.spl] at C6
        have C6 := Lib.hid C6
        go_wp2_with fail
        refine C6.out.mono ?_
        rintro e w9 ⟨sa, sn, sc, rfl, ⟨Ls, cs, ogs, hexs, _⟩, _, b9⟩
        clear C6
        have rO : RdG w9 sa sn sc O := by rw [← hexs]; exact ogs.rd
        obtain rfl : u = sn := by rw [← rO.len, LF.len]
        clear ogs hexs
        have rl := rl.below b9
        have B9 := Below.nx B8 b9
        clear B8 b9
        have C7 := ci_MergeRuns la y lc xs w9 rl
        rw [LF.mer, LF.rou] at C7
        have C7 := Lib.hid C7
        go_wp2_with fail
        refine C7.out.mono ?_
        rintro e w10 ⟨ma, mn, mc, rfl, ⟨Lm, owm, _⟩, _, b10⟩
        clear C7
        obtain rfl : y = mn := by rw [← owm.lens, srt_len, HXL.out]
        have rm := owm.rd
        have rl := rl.below b10
        have rO := rO.below b10
        have B10 := Below.nx B9 b10
        clear owm B9 b10
        have huz := LF.uz
        have HLF := Lib.hid LF
        clear LF
        go_wp2_with fail
        obtain ⟨wx, hwx⟩ : ∃ wx : World, wx = w10 := ⟨_, rfl⟩
        subst hwx
        go_loopw [14, 95] (fun v i wr => ∃ q t : Nat, ∃ L aa ac, q ≤ u ∧ t ≤ y ∧ i = .int .i64 q ∧ v = .slice aa t ac ∧ Ow wr 3 L aa t ac (ints (O.take q).flatten) ∧ New wx.heap.size L ∧ Below wx.heap.size wx wr) (fun _ i _ => u - (intOf i).toNat)
        case atStart => exact ⟨0, 0, [], _, _, by omega, by omega, rfl, rfl, Ow.bare _ _ _, fun _ h => (by cases h), (Below.refl _ _).alloc (Nat.le_refl _) _⟩
        case round =>
          as_aux_lemma =>
          obtain ⟨q, t, L, aa, ac, hq, ht, rfl, rfl, how, hnew, hb⟩ := hrel
          have HTL := Lib.hid how.lens
          by_cases hqu : q < u
          · obtain ⟨b1, o1, ea, en, ec, hsa, hb1, hc1, hrow⟩ := (rO.below hb).at' hqu
            subst hsa
            have hrl := HLF.out.row q hqu
            have HRL := Lib.hid hrow.lens
            rw [HRL.out] at hrl
            obtain ⟨hen0, heny⟩ := hrl
            have HRI := Lib.hid (HLF.out.rise q hqu)
            have HFL := Lib.hid (show (O.take (q + 1)).flatten = (O.take q).flatten ++ O.getD q [] from flat_take_succ (by rw [HLF.out.len]; exact hqu))
            have HTS := Lib.hid (show t + en ≤ y by
              have h := flat_take_le O (q + 1)
              rw [HFL.out, List.length_append, HTL.out, HRL.out, HLF.out.flat, HXL.out] at h; exact h)
            obtain ⟨R, hR⟩ : ∃ R, O.getD q [] = R := ⟨_, rfl⟩
            rw [hR] at hrow HRL HFL HRI
            obtain ⟨T, hT⟩ : ∃ T, (O.take q).flatten = T := ⟨_, rfl⟩
            rw [hT] at how HTL HFL
            have HR := Lib.hid hR
            have HT := Lib.hid hT
            clear hR hT
            have hE0 : ((en : Int) == 0) = false := by simp only [beq_eq_false_iff_ne, ne_eq]; omega
            have KR := Lib.hid (inB_of (v := .bool true) (w0 := wr) (fun wx hx => c_risesT ea en ec R wx (hrow.below hx) (by omega) (by rw [HRL.out] at HRI; exact HRI.out)))
            obtain ⟨be, oe, rfl, _, hce⟩ := hrow.int hen0
            have x0 := beW_cell (hce 0 hen0)
            rw [Nat.add_zero] at x0
            obtain ⟨e0, he0⟩ : ∃ e0, nth R 0 = e0 := ⟨_, rfl⟩
            rw [he0] at x0
            clear hce
            have hE1 : ¬ ((en : Int) = 0) := by omega
            have hrowE := hrow
            have HE0 := Lib.hid he0
            clear he0
            by_cases hq0 : q = 0
            · have g8d : decide ((0 : Int) < (q : Int)) = false := decide_eq_false (by omega)
              have g8n : ¬ (0 < q) := by omega
              have HQ0 := Lib.hid hq0
              clear hq0
              go_wp2_with fail
              refine wp_region_inB (by kernel_rfl) (by kernel_rfl) (by kernel_rfl) ?_
              repeat (go_big_quiet_step ((first | with_reducible exact KR.out _)))
              refine wpQuiet_nil ?_
              rintro _ ⟨ex, rfl⟩
              have bex := beW_below wr ex
              obtain ⟨w12, hw12⟩ : ∃ w12, beW wr ex = w12 := ⟨_, rfl⟩
              rw [hw12] at bex ⊢
              clear hw12 ex x0 KR
              have hrow2 := hrow.below bex
              have how2 := how.below bex
              have B12 := Below.nx hb bex
              go_wp2_with ((with_reducible show wpList _ _ _ (⟨some 131, _, _, _, _, _⟩ :: _) _ _); refine wpList_app _ rfl _ _ 22 rfl 3 Try.underlying22 infoInt rfl rfl rfl how2 hrow2 (one_ints _) (by have := HTS.out; omega) (by unfold maxLen; have := HTS.out; omega) ?_; intro a5 cap5 L5 w5 ow5 kp5 st5; rw [ints_append] at ow5)
              have n5 : New wx.heap.size L5 := st5.new hnew (by have := B12.size; omega)
              have b5 : Below wx.heap.size wx w5 := kp5.below B12 hnew B12.size
              go_roundw
              case rel => exact ⟨q + 1, t + en, L5, a5, cap5, by omega, HTS.out, by go_num, rfl, by rw [HFL.out]; exact ow5, n5, b5⟩
              case measure => simp [intOf]; omega
            · have g8d : decide ((0 : Int) < (q : Int)) = true := decide_eq_true (by omega)
              have g8n : 0 < q := by omega
              have ht0 : 0 < t := by
                have h := flat_take_pos (O := O) g8n (by rw [HLF.out.len]; omega) (HLF.out.row 0 (by omega)).1
                rw [HT.out, HTL.out] at h; exact h
              have hfall := HLF.out.fall q g8n (by rw [HLF.out.len]; exact hqu)
              rw [HR.out, HT.out, HTL.out, HE0.out] at hfall
              obtain ⟨p, hp, hp'⟩ : ∃ p : Nat, (t : Int) - 1 = (p : Int) ∧ p = t - 1 := ⟨t - 1, by omega, rfl⟩
              obtain ⟨b3, o3, rfl, _, hca⟩ := how.rd.int ht0
              have x1 := beW_cell (hca p (by omega))
              rw [← hp'] at hfall
              obtain ⟨el, hel⟩ : ∃ el, nth T p = el := ⟨_, rfl⟩
              rw [hel] at x1 hfall
              have g9 : decide ((0 : Int) < (t : Int)) = true := decide_eq_true (by omega)
              have g10 : decide (el ≤ e0) = false := decide_eq_false (by omega)
              have g11 : ¬ el ≤ e0 := by omega
              have hpt : p < t := by omega
              have HQ0 := Lib.hid hq0
              have HP := Lib.hid hp'
              have HEL := Lib.hid hel
              clear hq0 hca hel hp' hfall
              go_wp2_with fail
              refine wp_region_inB (by kernel_rfl) (by kernel_rfl) (by kernel_rfl) ?_
              repeat (go_big_quiet_step ((first | with_reducible exact KR.out _)))
              refine wpQuiet_nil ?_
              rintro _ ⟨ex, rfl⟩
              have bex := beW_below wr ex
              obtain ⟨w12, hw12⟩ : ∃ w12, beW wr ex = w12 := ⟨_, rfl⟩
              rw [hw12] at bex ⊢
              clear hw12 ex x0 x1 KR
              have hrow2 := hrow.below bex
              have how2 := how.below bex
              have B12 := Below.nx hb bex
              go_wp2_with ((with_reducible show wpList _ _ _ (⟨some 131, _, _, _, _, _⟩ :: _) _ _); refine wpList_app _ rfl _ _ 22 rfl 3 Try.underlying22 infoInt rfl rfl rfl how2 hrow2 (one_ints _) (by have := HTS.out; omega) (by unfold maxLen; have := HTS.out; omega) ?_; intro a5 cap5 L5 w5 ow5 kp5 st5; rw [ints_append] at ow5)
              have n5 : New wx.heap.size L5 := st5.new hnew (by have := B12.size; omega)
              have b5 : Below wx.heap.size wx w5 := kp5.below B12 hnew B12.size
              go_roundw
              case rel => exact ⟨q + 1, t + en, L5, a5, cap5, by omega, HTS.out, by go_num, rfl, by rw [HFL.out]; exact ow5, n5, b5⟩
              case measure => simp [intOf]; omega
          · obtain rfl : q = u := by omega
            have hOx : (O.take q).flatten = xs := by rw [List.take_of_length_le (by rw [HLF.out.len]; exact Nat.le_refl _)]; exact HLF.out.flat
            rw [hOx] at how HTL
            obtain rfl : t = y := by rw [← HTL.out, HXL.out]
            clear hOx
            have rm := rm.below hb
            have rl := rl.below hb
            have rO := rO.below hb
            have B11 := Below.nx B10 hb
            have ra := how.rd
            clear how hnew hb hq ht
            obtain ⟨w11, rfl⟩ : ∃ w11 : World, w11 = wr := ⟨_, rfl⟩
            have D1 := Lib.hid (c_same aa la t ac t lc xs w11 ra rl (by omega) : Calls Try.prog 21 #[.slice aa t ac, .slice la t lc] w11 _)
            go_upto_region 28 with (fail)
            go_cut [171] from 133 to 170 (fun v wc => v = .bool false ∧ Below w11.heap.size w11 wc)
            case first =>
              as_aux_lemma =>
              go_wp2_with fail
              refine D1.out.mono ?_
              rintro e w12 ⟨rfl, b12⟩
              clear D1
              have rm := rm.below b12
              have rl := rl.below b12
              have D2 := Lib.hid (c_sortedT la t lc xs w12 rl (by omega))
              go_wp2_with fail
              refine D2.out.mono ?_
              rintro e w13 ⟨ta, tc, rfl, ⟨Lt, owt, _⟩, b13⟩
              clear D2
              have rm := rm.below b13
              have rl := rl.below b13
              have D3 := Lib.hid (c_same ma ta t mc t tc (srt xs) w13 rm owt.rd (by omega) : Calls Try.prog 21 #[.slice ma t mc, .slice ta t tc] w13 _)
              have B13 := Below.nx b12 b13
              clear owt b12 b13
              go_wp2_with fail
              refine D3.out.mono ?_
              rintro e w14 ⟨rfl, b14⟩
              clear D3
              have D4 := ci_RunsOf la t lc xs w14 (rl.below b14)
              rw [HLF.out.run] at D4
              have D4 := Lib.hid D4
              have B14 := Below.nx B13 b14
              clear B13 b14
              go_wp2_with fail
              refine D4.out.mono ?_
              rintro e w15 ⟨rfl, b15⟩
              clear D4
              have B15 := Below.nx B14 b15
              clear B14 b15
              by_cases hq0 : q = 0
              · have hN := HLF.out.none hq0
                have gN : ((N : Int) == 0) = true := by simp only [beq_iff_eq]; omega
                have gq : ((q : Int) == 0) = true := by simp only [beq_iff_eq]; omega
                have g1 : decide ((0 : Int) < (q : Int)) = false := decide_eq_false (by omega)
                have HH := Lib.hid (And.intro hq0 hN)
                clear hq0 hN
                have g1n : ¬ (0 < q) := by have := HH.out.1; omega
                go_wp2_with fail
                go_meet
                exact ⟨congrArg Value.bool (by unfold bne; rw [gN]; rfl), B15⟩
              · have g1n : 0 < q := by omega
                have g1 : decide ((0 : Int) < (q : Int)) = true := decide_eq_true (by omega)
                have g2 : ((q : Int) == 0) = false := by simp only [beq_eq_false_iff_ne, ne_eq]; omega
                have D5 := Lib.hid (ci_RoundsFor q N w15 (by omega) (by omega) HLF.out.up HLF.out.low)
                have HH := Lib.hid hq0
                clear hq0
                go_wp2_with fail
                refine D5.out.mono ?_
                rintro e w16 ⟨rfl, rfl⟩
                go_wp2_with fail
                go_meet
                exact ⟨rfl, B15⟩
            case rest =>
              as_aux_lemma =>
              obtain ⟨rfl, b12⟩ := hcut
              have rl := rl.below b12
              have rO := rO.below b12
              have B12 := Below.nx B11 b12
              clear D1 b12 B11 rm ra
              obtain ⟨w12, rfl⟩ : ∃ w12 : World, w12 = wc := ⟨_, rfl⟩
              have E1 := Lib.hid (c_MakeSize a n cap bs 40 1 4 w12 (hr.below B12) hn (by omega) (by omega) (by omega) : Calls Try.prog 25 #[.slice a n cap, .int .i64 40, .int .i64 1, .int .i64 4] w12 _)
              go_wp2_with fail
              refine E1.out.mono ?_
              rintro e w13 ⟨room, rfl, hr1, hr4, b13⟩
              clear E1
              obtain ⟨P, v, f, PF⟩ := store_facts HXL.out hy hr1 hr4
              have rl := rl.below b13
              have rO := rO.below b13
              have B13 := Below.nx B12 b13
              clear b13 B12
              have E2 := ci_ReplacementRuns la t lc xs (room : Int) w13 rl
              rw [PF.rep] at E2
              have E2 := Lib.hid E2
              go_wp2_with fail
              refine E2.out.mono ?_
              rintro e w14 ⟨pa, pn, pc, rfl, ⟨Lp, cp, ogp, hexp, _⟩, _, b14⟩
              clear E2
              have rP : RdG w14 pa pn pc P := by rw [← hexp]; exact ogp.rd
              obtain rfl : v = pn := by rw [← rP.len, PF.len]
              clear ogp hexp
              have rl := rl.below b14
              have rO := rO.below b14
              have B14 := Below.nx B13 b14
              clear b14 B13
              have hvz := PF.vz
              have HPF := Lib.hid PF
              clear PF
              go_wp2_with fail
              obtain ⟨wy, hwy⟩ : ∃ wy : World, wy = w14 := ⟨_, rfl⟩
              subst hwy
              go_loopw [19, 180] (fun g i wr => ∃ p m : Nat, ∃ L aa ac, p ≤ v ∧ m ≤ t ∧ i = .int .i64 p ∧ g = .slice aa m ac ∧ Ow wr 3 L aa m ac (ints (P.take p).flatten) ∧ New wy.heap.size L ∧ Below wy.heap.size wy wr) (fun _ i _ => v - (intOf i).toNat)
              case atStart => exact ⟨0, 0, [], _, _, by omega, by omega, rfl, rfl, Ow.bare _ _ _, fun _ h => (by cases h), (Below.refl _ _).alloc (Nat.le_refl _) _⟩
              case round =>
                as_aux_lemma =>
                obtain ⟨p, m, L, aa, ac, hp, hm, rfl, rfl, how, hnew, hb⟩ := hrel
                have HTL := Lib.hid how.lens
                by_cases hpv : p < v
                · obtain ⟨b1, o1, ea, en, ec, hsa, hb1, hc1, hrow⟩ := (rP.below hb).at' hpv
                  subst hsa
                  have hrl := HPF.out.row p hpv
                  have HRL := Lib.hid hrow.lens
                  rw [HRL.out] at hrl
                  obtain ⟨hen0, heny⟩ := hrl
                  have HRI := Lib.hid (HPF.out.rise p hpv)
                  have HFL := Lib.hid (show (P.take (p + 1)).flatten = (P.take p).flatten ++ P.getD p [] from flat_take_succ (by rw [HPF.out.len]; exact hpv))
                  have HTS := Lib.hid (show m + en ≤ t by
                    have h := flat_take_le P (p + 1)
                    rw [HFL.out, List.length_append, HTL.out, HRL.out, HPF.out.flat.length_eq, HXL.out] at h; exact h)
                  obtain ⟨R, hR⟩ : ∃ R, P.getD p [] = R := ⟨_, rfl⟩
                  rw [hR] at hrow HRL HFL HRI
                  obtain ⟨T, hT⟩ : ∃ T, (P.take p).flatten = T := ⟨_, rfl⟩
                  rw [hT] at how HTL HFL
                  have HR := Lib.hid hR
                  have HT := Lib.hid hT
                  clear hR hT
                  have hE0 : ((en : Int) == 0) = false := by simp only [beq_eq_false_iff_ne, ne_eq]; omega
                  have hE1 : ¬ ((en : Int) = 0) := by omega
                  have KR := Lib.hid (c_risesT ea en ec R wr hrow (by omega) (by rw [HRL.out] at HRI; exact HRI.out))
                  go_wp2_with fail
                  refine KR.out.mono ?_
                  rintro e w15 ⟨rfl, b15⟩
                  clear KR
                  have hrow2 := hrow.below b15
                  have how2 := how.below b15
                  have B15 := Below.nx hb b15
                  go_wp2_with ((with_reducible show wpList _ _ _ (⟨some 194, _, _, _, _, _⟩ :: _) _ _); refine wpList_app _ rfl _ _ 22 rfl 3 Try.underlying22 infoInt rfl rfl rfl how2 hrow2 (one_ints _) (by have := HTS.out; omega) (by unfold maxLen; have := HTS.out; omega) ?_; intro a5 cap5 L5 w5 ow5 kp5 st5; rw [ints_append] at ow5)
                  have n5 : New wy.heap.size L5 := st5.new hnew (by have := B15.size; omega)
                  have b5 : Below wy.heap.size wy w5 := kp5.below B15 hnew B15.size
                  go_roundw
                  case rel => exact ⟨p + 1, m + en, L5, a5, cap5, by omega, HTS.out, by go_num, rfl, by rw [HFL.out]; exact ow5, n5, b5⟩
                  case measure => simp [intOf]; omega
                · obtain rfl : p = v := by omega
                  have hOx : (P.take p).flatten = P.flatten := by rw [List.take_of_length_le (by rw [HPF.out.len]; exact Nat.le_refl _)]
                  rw [hOx] at how HTL
                  obtain rfl : m = t := by rw [← HTL.out, HPF.out.flat.length_eq, HXL.out]
                  have HS := Lib.hid (show srt P.flatten = srt xs from srt_of (srt_srt _) ((srt_perm _).trans HPF.out.flat))
                  clear hOx
                  have rl := rl.below hb
                  have rO := rO.below hb
                  have B15 := Below.nx B14 hb
                  have ra := how.rd
                  clear how hnew hb hp hm
                  obtain ⟨w15, rfl⟩ : ∃ w15 : World, w15 = wr := ⟨_, rfl⟩
                  have F1 := ci_ReplacementRuns la m lc xs 1 w15 rl
                  rw [HLF.out.one] at F1
                  have F1 := Lib.hid F1
                  go_wp2_with fail
                  refine F1.out.mono ?_
                  rintro e w16 ⟨oa, on, oc, rfl, ⟨Lo, co, ogo, hexo, _⟩, _, b16⟩
                  clear F1
                  obtain rfl : q = on := by
                    have h : RdG w16 oa on oc O := by rw [← hexo]; exact ogo.rd
                    rw [← h.len, HLF.out.len]
                  clear ogo hexo
                  have rl := rl.below b16
                  have ra := ra.below b16
                  have B16 := Below.nx B15 b16
                  clear b16 B15
                  have F2 := c_sortedT aa m ac P.flatten w16 ra (by omega)
                  rw [HS.out] at F2
                  have F2 := Lib.hid F2
                  go_wp2_with fail
                  refine F2.out.mono ?_
                  rintro e w17 ⟨ta, tc, rfl, ⟨Lt, owt, _⟩, b17⟩
                  clear F2
                  have rl := rl.below b17
                  have B17 := Below.nx B16 b17
                  clear b17 B16
                  have F3 := Lib.hid (c_sortedT la m lc xs w17 rl (by omega))
                  go_wp2_with fail
                  refine F3.out.mono ?_
                  rintro e w18 ⟨ua, uc, rfl, ⟨Lu, owu, _⟩, b18⟩
                  clear F3
                  have rl := rl.below b18
                  have owt := owt.below b18
                  have B18 := Below.nx B17 b18
                  clear b18 B17
                  have F4 := Lib.hid (c_same ta ua m tc m uc (srt xs) w18 owt.rd owu.rd (by omega) : Calls Try.prog 21 #[.slice ta m tc, .slice ua m uc] w18 _)
                  go_wp2_with fail
                  refine F4.out.mono ?_
                  rintro e w19 ⟨rfl, b19⟩
                  clear F4
                  have F5 := ci_FarthestMove la m lc xs w19 (rl.below b19)
                  rw [HPF.out.far] at F5
                  have F5 := Lib.hid F5
                  have B19 := Below.nx B18 b19
                  clear b19 B18 owt owu
                  go_wp2_with fail
                  refine F5.out.mono ?_
                  rintro e w20 ⟨rfl, b20⟩
                  clear F5
                  have B20 := Below.nx B19 b20
                  clear b20 B19
                  have hnear := HPF.out.near
                  by_cases hf : (room : Int) ≤ f
                  · have g1 : decide ((room : Int) ≤ f) = true := decide_eq_true hf
                    clear hnear
                    go_wp2_with fail
                    go_ret
                    exact ⟨rfl, B20⟩
                  · have g1 : decide ((room : Int) ≤ f) = false := decide_eq_false hf
                    have g2 : p ≤ 1 := by omega
                    have g3 : (p : Int) ≤ 1 := by omega
                    have g4 : decide ((p : Int) ≤ 1) = true := decide_eq_true g3
                    clear hnear
                    go_wp2_with fail
                    go_ret
                    exact ⟨rfl, B20⟩

end Go.Proofs.Ytaffokicnabkiaa

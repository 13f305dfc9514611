/- The law of windows, walked out of the contracts. No condition. -/
import Derived.Test.YtiiijijbkacneaaWinF
import Derived.Test.YtiiijijbkacneaaNear
import Derived.Test.YtiiijijbkacneaaSortd
import Derived.Deep.CutRange
import Derived.BigQuiet
import Derived.Test.YtiiijijbkacneaaQuietF
namespace Go.Proofs.Ytiiijijbkacneaa
open Go.RowKit
set_option linter.unusedVariables false
set_option linter.unusedSimpArgs false

theorem wm_yes {g : List Int → Int} {xs : List Int} {z wd : Nat} (hl : xs.length = z) (hz : z ≤ 12) (h1 : 1 ≤ wd) (h5 : wd ≤ 5) : wmV g xs (wd : Int) = winMap g xs wd (winN z wd) := by
  subst hl
  unfold wmV; rw [if_pos (okWin_12 hz h1 h5), Int.toNat_natCast]
theorem lqV_yes {xs : List Int} {z wd : Nat} (hl : xs.length = z) (hz : z ≤ 12) (h1 : 1 ≤ wd) (h5 : wd ≤ 5) : lqV xs (wd : Int) = lqG xs wd (winN z wd) := by
  subst hl
  unfold lqV; rw [if_pos (okWin_12 hz h1 h5), Int.toNat_natCast]
theorem swV_yes {xs : List Int} {z wd : Nat} (hl : xs.length = z) (hz : z ≤ 12) (h1 : 1 ≤ wd) (h5 : wd ≤ 5) : swdV xs (wd : Int) = swG xs wd (winN z wd) := by
  subst hl
  unfold swdV; rw [if_pos (okWin_12 hz h1 h5), Int.toNat_natCast]
theorem winMap_len (g : List Int → Int) (xs : List Int) (wd k : Nat) : (winMap g xs wd k).length = k := by simp [winMap]
theorem nth_winMap {g : List Int → Int} {xs : List Int} {wd k i : Nat} (h : i < k) : nth (winMap g xs wd k) i = g (winL xs i wd) := by
  rw [nth_eq (by rw [winMap_len]; exact h)]; simp [winMap]
theorem getD_swG {xs : List Int} {wd k i : Nat} (h : i < k) : (swG xs wd k).getD i [] = srt (winL xs i wd) := by simp [swG, List.getD, h]
theorem getD_lqG {xs : List Int} {wd k i : Nat} (h : i < k) : (lqG xs wd k).getD i [] = lqTo (winL xs i wd) i wd := by simp [lqG, List.getD, h]

set_option maxRecDepth 1000000 in
set_option maxHeartbeats 16000000 in
theorem w_FnWindows (a : Option Addr) (n cap : Nat) (bs : List Int) (w : World) (hr : Rd w a n cap (bys bs)) :
    Calls Try.prog 4 #[.slice a n cap] w fun e w' => e = .returned (.bool true) ∧ Below w.heap.size w w' := by
  by_cases hn : n ≤ 1048576
  case neg =>
    go_enter Try.func4, Try.ntmps4
    go_wp2
    go_ret
    exact ⟨rfl, Below.refl _ _⟩
  have CM := Lib.hid (c_MakeNear a n cap bs 0 w hr hn (by omega) : Calls Try.prog 20 #[.slice a n cap, .int .i64 0] w _)
  go_enter Try.func4, Try.ntmps4
  go_wp2_with fail
  refine CM.out.mono ?_
  rintro e w1 ⟨la, z, lc, xs, rfl, hz, ⟨Ll, owl, _⟩, b1⟩
  clear CM
  have CS := Lib.hid (c_MakeSize a n cap bs 20 1 5 w1 (hr.below b1) hn (by omega) (by omega) (by omega) : Calls Try.prog 5 #[.slice a n cap, .int .i64 20, .int .i64 1, .int .i64 5] w1 _)
  go_wp2_with fail
  refine CS.out.mono ?_
  rintro e w2 ⟨wd, rfl, hw1, hw5, b2⟩
  clear CS
  have B2 := Below.nx b1 b2
  have owl := owl.below b2
  have hxl : xs.length = z := owl.lens
  have HXL := Lib.hid hxl
  clear hxl
  obtain ⟨N, hN⟩ : ∃ N, winN z wd = N := ⟨_, rfl⟩
  have HN := Lib.hid hN
  have hN12 : N ≤ 12 := by unfold winN at hN; omega
  clear hN
  have C1 := ci_WindowMedians la z lc xs (wd : Int) w2 owl.rd
  rw [wm_yes HXL.out hz hw1 hw5, HN.out] at C1
  have C1 := Lib.hid C1
  go_wp2_with fail
  refine C1.out.mono ?_
  rintro e w3 ⟨ma, mn, mc, rfl, ⟨Lm, owm, _⟩, _, b3⟩
  clear C1
  obtain rfl : N = mn := by rw [← owm.lens, winMap_len]
  have B3 := Below.nx B2 b3
  have owl := owl.below b3
  have C2 := ci_WindowLeast la z lc xs (wd : Int) w3 owl.rd
  rw [wm_yes HXL.out hz hw1 hw5, HN.out] at C2
  have C2 := Lib.hid C2
  go_wp2_with fail
  refine C2.out.mono ?_
  rintro e w4 ⟨aa, an, ac, rfl, ⟨La, owa, _⟩, _, b4⟩
  clear C2
  obtain rfl : N = an := by rw [← owa.lens, winMap_len]
  have B4 := Below.nx B3 b4
  have owl := owl.below b4
  have owm := owm.below b4
  have C3 := ci_WindowGreatest la z lc xs (wd : Int) w4 owl.rd
  rw [wm_yes HXL.out hz hw1 hw5, HN.out] at C3
  have C3 := Lib.hid C3
  go_wp2_with fail
  refine C3.out.mono ?_
  rintro e w5 ⟨ba, bn, bc, rfl, ⟨Lb, owb, _⟩, _, b5⟩
  clear C3
  obtain rfl : N = bn := by rw [← owb.lens, winMap_len]
  have B5 := Below.nx B4 b5
  have owl := owl.below b5
  have owm := owm.below b5
  have owa := owa.below b5
  have C4 := ci_LeastQueue la z lc xs (wd : Int) w5 owl.rd
  rw [lqV_yes HXL.out hz hw1 hw5, HN.out] at C4
  have C4 := Lib.hid C4
  go_wp2_with fail
  refine C4.out.mono ?_
  rintro e w6 ⟨qa, qn, qc, rfl, ⟨Lq', cq, ogq, hexq, _⟩, _, b6⟩
  clear C4
  have rdq : RdG w6 qa qn qc (lqG xs wd N) := by rw [← hexq]; exact ogq.rd
  obtain rfl : N = qn := by rw [← rdq.len]; simp [lqG]
  clear ogq hexq
  have B6 := Below.nx B5 b6
  have owl := owl.below b6
  have owm := owm.below b6
  have owa := owa.below b6
  have owb := owb.below b6
  have C5 := ci_SortedWindows la z lc xs (wd : Int) w6 owl.rd
  rw [swV_yes HXL.out hz hw1 hw5, HN.out] at C5
  have C5 := Lib.hid C5
  go_wp2_with fail
  refine C5.out.mono ?_
  rintro e w7 ⟨sa, sn, sc, rfl, ⟨Ls, cs, ogs, hexs, _⟩, _, b7⟩
  clear C5
  have rds : RdG w7 sa sn sc (swG xs wd N) := by rw [← hexs]; exact ogs.rd
  obtain rfl : N = sn := by rw [← rds.len]; simp [swG]
  clear ogs hexs
  have B7 := Below.nx B6 b7
  have owl := owl.below b7
  have owm := owm.below b7
  have owa := owa.below b7
  have owb := owb.below b7
  have rdq := rdq.below b7
  have C6 := ci_WindowRanks la z lc xs (wd : Int) w7 owl.rd
  rw [wm_yes HXL.out hz hw1 hw5, HN.out] at C6
  have C6 := Lib.hid C6
  go_wp2_with fail
  refine C6.out.mono ?_
  rintro e w8 ⟨ra, rn, rc, rfl, ⟨Lr, owr, _⟩, _, b8⟩
  clear C6
  obtain rfl : N = rn := by rw [← owr.lens, winMap_len]
  have B8 := Below.nx B7 b8
  have rl := (owl.below b8).rd
  have rm := (owm.below b8).rd
  have ra' := (owa.below b8).rd
  have rb := (owb.below b8).rd
  have rdq := rdq.below b8
  have rds := rds.below b8
  have rr := owr.rd
  clear owl owm owa owb owr b1 b2 b3 b4 b5 b6 b7 b8 B2 B3 B4 B5 B6 B7
  go_upto_region 11 with (fail)
  go_cut [11] from 49 to 54 (fun v wc => v = .int .i64 (N : Int) ∧ wc = w8)
  case first =>
    have hNd : N = z + 1 - wd := HN.out.symm
    by_cases hwz : wd ≤ z
    · have hpos : (0 : Int) < (z : Int) - wd + 1 := by omega
      have HE := Lib.hid (show (z : Int) - wd + 1 = (N : Int) by omega)
      clear hNd
      go_wp2_with fail
      go_meet
      exact ⟨int_eq (by have := HE.out; omega), rfl⟩
    · have hpos : ¬ (0 : Int) < (z : Int) - wd + 1 := by omega
      have HE := Lib.hid (show (0 : Int) = (N : Int) by omega)
      clear hNd
      go_wp2_with fail
      go_meet
      exact ⟨int_eq (by have := HE.out; omega), rfl⟩
  case rest =>
    obtain ⟨rfl, rfl⟩ := hcut
    go_wp2_with fail
    obtain ⟨we, hwe⟩ : ∃ we : World, we = wc := ⟨_, rfl⟩
    subst hwe
    go_loopw [91] (fun i wr => ∃ t : Nat, t ≤ N ∧ i = .int .i64 t ∧ Below we.heap.size we wr) (fun i _ => N - (intOf i).toNat)
    case atStart => exact ⟨0, by omega, rfl, Below.refl _ _⟩
    case round =>
      obtain ⟨t, ht, rfl, hb⟩ := hrel
      by_cases htN : t < N
      · have hNd : N = z + 1 - wd := HN.out.symm
        have hwz : t + wd ≤ z := by omega
        have HYL := Lib.hid (winL_len (xs := xs) (i := t) (wd := wd) (by rw [HXL.out]; exact hwz))
        obtain ⟨b1, o1, xa, xn, xc, hsa, hb1, hx0, hxr⟩ := (rds.below hb).at' htN
        rw [getD_swG htN] at hxr
        obtain rfl : wd = xn := by rw [← hxr.lens, srt_len, HYL.out]
        subst hsa
        have hlc : z ≤ lc := rl.le
        have hlm := rl.max
        unfold maxLen at hlm
        clear hNd
        go_wp2_with fail
        simp only [List.append]
        refine wp_region_any (by kernel_rfl) ?_
        change wpAny _ _ _ _ _ _ _ (World.drew _)
        refine wpAny_take (i := 0) (v := ?_) rfl (by kernel_rfl) (by kernel_rfl) (by kernel_rfl) (fun _ _ _ h => h) (Or.inl ⟨by rfl, ?_⟩) ?_
        case refine_2 => intro w; go_simp; with_reducible rfl
        refine wpAny_take (i := 1) (v := ?_) rfl (by kernel_rfl) (by kernel_rfl) (by kernel_rfl) (fun _ _ _ h => h) (Or.inl ⟨by rfl, ?_⟩) ?_
        case refine_2 => intro w; go_simp; with_reducible rfl
        refine wpAny_take (i := 2) (v := ?_) rfl (by kernel_rfl) (by kernel_rfl) (by kernel_rfl) (fun _ _ _ h => h) (Or.inl ⟨by rfl, ?_⟩) ?_
        case refine_2 => intro w; go_simp; with_reducible rfl
        refine wpAny_take (i := 3) (v := ?_) rfl (by kernel_rfl) (by kernel_rfl) (by kernel_rfl) (fun _ _ _ h => h) (Or.inl ⟨by rfl, ?_⟩) ?_
        case refine_2 => intro w; go_simp; with_reducible rfl
        refine wpAny_take (i := 4) (v := ?_) rfl (by kernel_rfl) (by kernel_rfl) (by kernel_rfl) (fun _ _ _ h => h) (Or.inl ⟨by rfl, ?_⟩) ?_
        case refine_2 => intro w; go_simp; with_reducible rfl
        have hwtw : IntKind.i64.wrap ((t : Int) + (wd : Int)) = (t : Int) + (wd : Int) := by rw [IntKind.wrap_i64]; omega
        refine wpAny_take (i := 5) (v := .int .i64 ((t : Int) + (wd : Int))) rfl (by kernel_rfl) (by kernel_rfl) (by kernel_rfl) (fun _ _ _ h => h) (Or.inl ⟨by rfl, ?_⟩) ?_
        · intro w
          go_simp
          try rw [hwtw]
        refine wpAny_take (i := 6) (v := .slice (cutAt lc t la) wd (lc - t)) rfl (by kernel_rfl) (by kernel_rfl) (by kernel_rfl) (fun _ _ _ h => h) (Or.inl ⟨by rfl, ?_⟩) ?_
        · intro w
          have hw : IntKind.i64.wrap ((t : Int) + wd) = (t : Int) + wd := by rw [IntKind.wrap_i64]; omega
          have h1 : (0 : Int) ≤ (t : Int) + wd := by omega
          have h1' : (t : Int) + wd ≤ (lc : Int) := by omega
          have h2 : t ≤ ((t : Int) + wd).toNat := by omega
          have h3 : ((t : Int) + wd).toNat - t = wd := by omega
          go_simp
          try simp only [hw, h1, h1', h2, h3, and_self, if_true]
          rfl
        refine wpAny_ready (rs := [7]) (by kernel_rfl) (by simp) ?_
        refine AllReady.cons (by simp only [List.getElem?_toArray, List.getElem?_cons_succ, List.getElem?_cons_zero]; rfl) (fun K hK => ?_) AllReady.nil
        have C7 := Lib.hid (c_sorted _ wd _ (winL xs t wd) wr.drew ((rl.below hb).drew.win (by omega)) (by omega) : Calls Try.prog 14 #[.slice (cutAt lc t la) wd (lc - t)] wr.drew _)
        go_simp
        refine C7.out.mono ?_
        rintro e w9 ⟨ya, yc, rfl, ⟨Ly, owy, _⟩, b9⟩
        refine hK _ _ ?_
        clear hK K C7
        have B9 : Below we.heap.size we w9 := Below.nx hb.drew b9
        have ey : sortTo ltI (winL xs t wd) wd = srt (winL xs t wd) := by
          have h := srt_eq (winL xs t wd); rw [HYL.out] at h; exact h
        rw [ey] at owy
        have hxr9 := hxr.drew.below b9
        have C8 := Lib.hid (c_same xa ya wd xc wd yc (srt (winL xs t wd)) w9 hxr9 owy.rd (by omega) : Calls Try.prog 13 #[.slice xa wd xc, .slice ya wd yc] w9 _)
        refine wpAny_ready (rs := [8]) (by kernel_rfl) (by simp) ?_
        refine AllReady.cons (by simp only [List.getElem?_toArray, List.getElem?_cons_succ, List.getElem?_cons_zero]; rfl) (fun K hK => ?_) AllReady.nil
        go_simp
        refine C8.out.mono ?_
        rintro e w10 ⟨rfl, b10⟩
        refine hK _ _ ?_
        clear hK K C8
        have B10 : Below we.heap.size we w10 := Below.nx B9 b10
        have hxr10 := hxr9.below b10
        obtain ⟨bx, ox, rfl, hbx, hcx⟩ := hxr10.at' (by omega)
        obtain ⟨ba1, oa1, rfl, hba1, hca⟩ := (ra'.below B10).at' (by omega)
        obtain ⟨bb1, ob1, rfl, hbb1, hcb⟩ := (rb.below B10).at' (by omega)
        obtain ⟨bm1, om1, rfl, hbm1, hcm⟩ := (rm.below B10).at' (by omega)
        obtain ⟨br1, or1, rfl, hbr1, hcr⟩ := (rr.below B10).at' (by omega)
        obtain ⟨bq1, oq1, va, vn, vc, hqs, hbq1, hq0, hqr⟩ := (rdq.below B10).at' htN
        subst hqs
        rw [getD_lqG htN] at hqr
        have HLQ := Lib.hid (lq_ok (ys := winL xs t wd) t (by rw [HYL.out]; omega))
        rw [HYL.out] at HLQ
        have hvn : vn = (lqTo (winL xs t wd) t wd).length := hqr.lens.symm
        have hvp : 0 < vn := by rw [hvn]; exact HLQ.out.pos
        obtain ⟨rk, hrk, hrk1, hrk2⟩ := rkF_lt (ys := winL xs t wd) (by rw [HYL.out]; omega)
        rw [HYL.out] at hrk1 hrk2
        have HRK2 := Lib.hid hrk2
        clear hrk2
        obtain ⟨p1, hp1, hp1'⟩ : ∃ p1 : Nat, (wd : Int) - 1 = (p1 : Int) ∧ p1 = wd - 1 := ⟨wd - 1, by omega, rfl⟩
        obtain ⟨p2, hp2, hp2'⟩ : ∃ p2 : Nat, Int.tdiv (p1 : Int) 2 = (p2 : Int) ∧ p2 = (wd - 1) / 2 := ⟨p1 / 2, half_eq' p1, by rw [hp1']⟩
        obtain ⟨mnv, hmn⟩ : ∃ v, minF (winL xs t wd) = v := ⟨_, rfl⟩
        obtain ⟨mxv, hmx⟩ : ∃ v, maxF (winL xs t wd) = v := ⟨_, rfl⟩
        obtain ⟨mdv, hmd⟩ : ∃ v, medF (winL xs t wd) = v := ⟨_, rfl⟩
        have x0 : w10.cell? ⟨bx, ox, none⟩ = some (.int .i64 mnv) := by
          have h := hcx 0 (by omega)
          rw [ints_nth (by rw [srt_len, HYL.out]; omega), srt_first (by rw [HYL.out]; omega), hmn] at h; exact h
        have x1 : w10.cell? ⟨bx, ox + p1, none⟩ = some (.int .i64 mxv) := by
          have h := hcx p1 (by omega)
          have h2 := srt_last (ys := winL xs t wd) (by rw [HYL.out]; omega)
          rw [HYL.out, ← hp1'] at h2
          rw [ints_nth (by rw [srt_len, HYL.out]; omega), h2, hmx] at h; exact h
        have x2 : w10.cell? ⟨bx, ox + p2, none⟩ = some (.int .i64 mdv) := by
          have h := hcx p2 (by omega)
          have h2 : medF (winL xs t wd) = nth (srt (winL xs t wd)) p2 := by unfold medF; rw [HYL.out, hp2']
          rw [ints_nth (by rw [srt_len, HYL.out]; omega), ← h2, hmd] at h; exact h
        have a0 : w10.cell? ⟨ba1, oa1 + t, none⟩ = some (.int .i64 mnv) := by
          have h := hca t htN
          rw [ints_nth (by rw [winMap_len]; exact htN), nth_winMap htN, hmn] at h; exact h
        have b0 : w10.cell? ⟨bb1, ob1 + t, none⟩ = some (.int .i64 mxv) := by
          have h := hcb t htN
          rw [ints_nth (by rw [winMap_len]; exact htN), nth_winMap htN, hmx] at h; exact h
        have m0 : w10.cell? ⟨bm1, om1 + t, none⟩ = some (.int .i64 mdv) := by
          have h := hcm t htN
          rw [ints_nth (by rw [winMap_len]; exact htN), nth_winMap htN, hmd] at h; exact h
        have r0 : w10.cell? ⟨br1, or1 + t, none⟩ = some (.int .i64 (rk : Int)) := by
          have h := hcr t htN
          rw [ints_nth (by rw [winMap_len]; exact htN), nth_winMap htN, hrk] at h; exact h
        have hp1l : p1 < wd := by omega
        have hp2l : p2 < wd := by omega
        have ok1 : ¬ ((rk : Int) < 0) := by omega
        have ok2 : ¬ ((wd : Int) ≤ (rk : Int)) := by omega
        have ok3 : ¬ ((vn : Int) = 0) := by omega
        have ok3' : ((vn : Int) == 0) = false := by simp only [beq_eq_false_iff_ne, ne_eq]; omega
        have HMN := Lib.hid hmn
        have HVL := Lib.hid (show vn ≤ rk + 1 by
          have h := HLQ.out.len
          rw [HYL.out] at h
          have h2 := HRK2.out; omega)
        have hv5 : vn ≤ 5 := by have := HVL.out; omega
        obtain ⟨v, hv⟩ : ∃ v, lqTo (winL xs t wd) t wd = v := ⟨_, rfl⟩
        rw [hv] at hqr HLQ hvn
        have HV := Lib.hid hv
        have HVN := Lib.hid hvn
        clear hmn hmx hmd hvn hv hp1' hp2' hrk hcx hca hcb hcm hcr
        refine wpAny_quiet_from 9 (C := fun w' => ∃ m, w' = w10.drewN m) rfl (by kernel_rfl) (by kernel_rfl) (by kernel_rfl) ⟨0, rfl⟩ ?_
        simp only [List.drop_succ_cons, List.drop_zero]
        repeat (go_big_quiet_step (fail))
        refine wpQuiet_nil ?_
        rintro _ ⟨nq, rfl⟩
        obtain ⟨bv, ov, rfl, hbv, hcv⟩ := hqr.int hvp
        obtain ⟨bl, ol, rfl, hbl, hcl⟩ := (rl.below B10).int (by omega)
        have A0 := Lib.hid a0
        have R0 := Lib.hid r0
        clear x0 x1 x2 a0 b0 m0 r0 ok1 ok2 ok3 hxr9 hxr10 hx0 hxr owy hp1 hp2 b9 b10 B9 hcv hcl
        go_wp2_with fail
        obtain ⟨wq, rfl⟩ : ∃ wq : World, wq = wr := ⟨_, rfl⟩
        go_loopw [176] (fun i wr => ∃ k : Nat, k ≤ vn ∧ i = .int .i64 k ∧ Below w10.heap.size w10 wr) (fun i _ => vn - (intOf i).toNat)
        case atStart => exact ⟨0, by omega, rfl, below_drewN (Below.refl _ _) _⟩
        case round =>
          as_aux_lemma =>
          obtain ⟨k, hk, rfl, hb2⟩ := hrel
          obtain ⟨bv', ov', hbv', _, hcv⟩ := (hqr.below hb2).int hvp
          obtain ⟨bl', ol', hbl', _, hcl⟩ := (rl.below (Below.nx B10 hb2)).int (by omega)
          cases hbv'
          cases hbl'
          by_cases hkn : k < vn
          · obtain ⟨q, hq, hqw⟩ := HLQ.out.bd k (by rw [← HVN.out]; exact hkn)
            rw [HYL.out] at hqw
            have ck := hcv k hkn
            rw [hq] at ck
            have cx := hcl (t + q) (by omega)
            obtain ⟨p, hp⟩ : ∃ p, t + q = p := ⟨_, rfl⟩
            have hq1 : nth v k = ((t + q : Nat) : Int) := hq
            obtain ⟨x1, hx1⟩ : ∃ x1, nth xs p = x1 := ⟨_, rfl⟩
            rw [hp] at ck cx
            rw [hx1] at cx
            have g1 : ¬ ((p : Int) < (t : Int)) := by omega
            have g2 : ¬ ((t : Int) + (wd : Int) ≤ (p : Int)) := by omega
            have g4 : p < z := by omega
            have g1n : ¬ (p < t) := by omega
            have hwk : IntKind.i64.wrap ((k : Int) + 1) = (k : Int) + 1 := by rw [IntKind.wrap_i64]; omega
            have hwt : IntKind.i64.wrap ((t : Int) + (wd : Int)) = (t : Int) + (wd : Int) := by rw [IntKind.wrap_i64]; omega
            have g1d : decide ((p : Int) < (t : Int)) = false := decide_eq_false g1
            have g1e : decide (p < t) = false := decide_eq_false g1n
            have g2d : decide ((t : Int) + (wd : Int) ≤ (p : Int)) = false := decide_eq_false g2
            by_cases hk0 : k = 0
            · subst hk0
              rw [Nat.add_zero] at ck
              have HP := Lib.hid (And.intro hp (And.intro hq1 hx1))
              clear hp hq hq1 hx1 hcv hcl
              go_wp2_with fail
              go_quiet (fail)
              go_wp2_with fail
              go_roundw
              case rel =>
                first
                | exact ⟨1, by omega, by go_num, by first | exact hb2 | exact hb2.trans (below_drewN (Below.refl _ _) _)⟩
                | ((repeat apply Exists.intro); exact ⟨⟨1, by omega, by go_num, by first | exact hb2 | exact hb2.trans (below_drewN (Below.refl _ _) _)⟩, rfl⟩)
              case measure => simp [intOf] <;> omega
            · obtain ⟨j, hj, hj2⟩ : ∃ j : Nat, (k : Int) - 1 = (j : Int) ∧ k = j + 1 := ⟨k - 1, by omega, by omega⟩
              obtain ⟨q', hq', hqw'⟩ := HLQ.out.bd j (by rw [← HVN.out]; omega)
              rw [HYL.out] at hqw'
              have hup := HLQ.out.up j (by rw [← HVN.out]; omega)
              have huv := HLQ.out.upv j (by rw [← HVN.out]; omega) q' q hq' (by rw [← hj2]; exact hq1)
              rw [nth_winL hqw', nth_winL hqw, hp, hx1] at huv
              rw [hq', ← hj2, hq1] at hup
              have cj := hcv j (by omega)
              rw [hq'] at cj
              have cy := hcl (t + q') (by omega)
              obtain ⟨p', hp'⟩ : ∃ p', t + q' = p' := ⟨_, rfl⟩
              obtain ⟨x0, hx0⟩ : ∃ x0, nth xs p' = x0 := ⟨_, rfl⟩
              rw [hp'] at cj cy huv
              rw [hx0] at cy huv
              have g5 : ¬ ((p : Int) ≤ (p' : Int)) := by omega
              have g6 : ¬ (x1 ≤ x0) := by omega
              have g7 : p' < z := by omega
              have g8 : (0 : Int) < (k : Int) := by omega
              have g9 : j < vn := by omega
              have hwj : IntKind.i64.wrap (j : Int) = (j : Int) := by rw [IntKind.wrap_i64]; omega
              have g5n : ¬ (p ≤ p') := by omega
              have g5d : decide ((p : Int) ≤ (p' : Int)) = false := decide_eq_false g5
              have g5e : decide (p ≤ p') = false := decide_eq_false g5n
              have g6d : decide (x1 ≤ x0) = false := decide_eq_false g6
              have g8d : decide ((0 : Int) < (k : Int)) = true := decide_eq_true g8
              have g8n : 0 < k := by omega
              have HP := Lib.hid (And.intro hp (And.intro hq1 hx1))
              clear hp hq hq1 hx1 hcv hcl hq' hp' hx0 huv hup hj2
              go_wp2_with fail
              go_quiet (fail)
              go_wp2_with fail
              go_roundw
              case rel =>
                first
                | exact ⟨k + 1, by omega, by go_num, by first | exact hb2 | exact hb2.trans (below_drewN (Below.refl _ _) _)⟩
                | ((repeat apply Exists.intro); exact ⟨⟨k + 1, by omega, by go_num, by first | exact hb2 | exact hb2.trans (below_drewN (Below.refl _ _) _)⟩, rfl⟩)
              case measure => simp [intOf] <;> omega
          · obtain rfl : k = vn := by omega
            obtain ⟨q0, hq0', hqw0⟩ := HLQ.out.bd 0 HLQ.out.pos
            rw [HYL.out] at hqw0
            have hd0 := HLQ.out.hd q0 hq0'
            rw [nth_winL hqw0, HMN.out] at hd0
            have hlast := HLQ.out.last
            rw [HYL.out, ← HVN.out] at hlast
            obtain ⟨lj, hlj, hlj2⟩ : ∃ lj : Nat, (k : Int) - 1 = (lj : Int) ∧ lj = k - 1 := ⟨k - 1, by omega, rfl⟩
            obtain ⟨p3, hp3, hp3'⟩ : ∃ p3 : Nat, (t : Int) + (wd : Int) - 1 = (p3 : Int) ∧ p3 = t + (wd - 1) := ⟨t + (wd - 1), by omega, rfl⟩
            rw [← hlj2, ← hp3'] at hlast
            have cv0 := hcv 0 (by omega)
            rw [hq0', Nat.add_zero] at cv0
            have cl0 := hcl (t + q0) (by omega)
            rw [hd0] at cl0
            have cvl := hcv lj (by omega)
            rw [hlast] at cvl
            obtain ⟨p0, hp0⟩ : ∃ p0, t + q0 = p0 := ⟨_, rfl⟩
            rw [hp0] at cv0 cl0
            have a0' : wr.cell? ⟨ba1, oa1 + t, none⟩ = some (.int .i64 mnv) := by rw [hb2.cell (block_lt_of_cell A0.out)]; exact A0.out
            have r0' : wr.cell? ⟨br1, or1 + t, none⟩ = some (.int .i64 (rk : Int)) := by rw [hb2.cell (block_lt_of_cell R0.out)]; exact R0.out
            have g1 : p0 < z := by omega
            have g2 : lj < k := by omega
            have g3 : ¬ ((rk : Int) + 1 < (k : Int)) := by have := HVL.out; omega
            have g3d : decide ((rk : Int) + 1 < (k : Int)) = false := decide_eq_false g3
            have hw1 : IntKind.i64.wrap (lj : Int) = (lj : Int) := by rw [IntKind.wrap_i64]; omega
            have hw2 : IntKind.i64.wrap (p3 : Int) = (p3 : Int) := by rw [IntKind.wrap_i64]; omega
            have hw3 : IntKind.i64.wrap ((rk : Int) + 1) = (rk : Int) + 1 := by rw [IntKind.wrap_i64]; omega
            have hw4 : IntKind.i64.wrap ((t : Int) + (wd : Int)) = (t : Int) + (wd : Int) := by rw [IntKind.wrap_i64]; omega
            have BE : Below we.heap.size we wr := Below.nx B10 hb2
            clear hp0 hcv hcl hd0 hlj2 hp3' hq0' hlast
            go_wp2_with fail
            go_quiet (fail)
            go_wp2_with fail
            go_roundw
            case rel =>
              first
              | exact ⟨t + 1, by omega, by go_num, by first | exact BE | exact BE.trans (below_drewN (Below.refl _ _) _)⟩
              | ((repeat apply Exists.intro); exact ⟨⟨t + 1, by omega, by go_num, by first | exact BE | exact BE.trans (below_drewN (Below.refl _ _) _)⟩, rfl⟩)
            case measure => simp [intOf] <;> omega
      · obtain rfl : t = N := by omega
        obtain ⟨wq, rfl⟩ : ∃ wq : World, wq = wr := ⟨_, rfl⟩
        obtain ⟨od, r2, hr2, hod, ho1, ho5, ho2⟩ : ∃ od r2 : Nat, Int.tmod (wd : Int) 2 = (r2 : Int) ∧ (wd : Int) + 1 - (r2 : Int) = (od : Int) ∧ 1 ≤ od ∧ od ≤ 5 ∧ od % 2 = 1 :=
          ⟨wd + 1 - wd % 2, wd % 2, rem_eq wd, by omega, by omega, by omega, by omega⟩
        have CA := Lib.hid (c_sorted la z lc xs wq (rl.below hb) (by omega) : Calls Try.prog 14 #[.slice la z lc] wq _)
        go_wp2_with fail
        refine CA.out.mono ?_
        rintro e v1 ⟨ua, uc, rfl, ⟨Lu, owu, _⟩, d1⟩
        clear CA
        have eu : sortTo ltI xs z = srt xs := by have h := srt_eq xs; rw [HXL.out] at h; exact h
        rw [eu] at owu
        have D1 : Below we.heap.size we v1 := Below.nx hb d1
        have es : smV (srt xs) (od : Int) = srt xs := by
          rw [smV_yes (okWin_12 (by rw [srt_len, HXL.out]; exact hz) ho1 ho5) (by omega)]
          exact smG_srt (srt_srt xs) ho2 _ (Nat.le_refl _)
        have CB := ci_SmoothWith ua z uc (srt xs) (od : Int) v1 owu.rd
        rw [es] at CB
        have CB := Lib.hid CB
        clear es eu
        go_wp2_with fail
        refine CB.out.mono ?_
        rintro e v2 ⟨ta, tn, tc, rfl, ⟨Lt, owt, _⟩, _, d2⟩
        clear CB
        obtain rfl : z = tn := by rw [← owt.lens, srt_len, HXL.out]
        have D2 : Below we.heap.size we v2 := Below.nx D1 d2
        have owu := owu.below d2
        obtain ⟨cN, hcN, hcw, hcm⟩ := cw_ok (xs := xs) (wd := wd) (by rw [HXL.out]; exact hz) hw1 hw5
        have HCM := Lib.hid hcm
        have CC := ci_CountInWindow la z lc xs (wd : Int) 0 5 v2 (rl.below D2)
        rw [hcN] at CC
        have CC := Lib.hid CC
        clear hcN hcm
        go_wp2_with fail
        refine CC.out.mono ?_
        rintro e v3 ⟨rfl, d3⟩
        clear CC
        have D3 : Below we.heap.size we v3 := Below.nx D2 d3
        go_wp2_with fail
        obtain ⟨wv, rfl⟩ : ∃ wv : World, wv = v3 := ⟨_, rfl⟩
        go_loopw [21, 270] (fun v i wr => ∃ q : Nat, q ≤ z ∧ i = .int .i64 q ∧ v = .int .i64 (cntP (inB 0 5) xs q) ∧ Below wv.heap.size wv wr) (fun _ i _ => z - (intOf i).toNat)
        case atStart => exact ⟨0, by omega, rfl, rfl, Below.refl _ _⟩
        case round =>
          as_aux_lemma =>
          obtain ⟨q, hq, rfl, rfl, hbq⟩ := hrel
          have hcl := cntP_le (inB 0 5) xs q
          by_cases hqn : q < z
          · obtain ⟨b3, off3, e3, _, hc3⟩ := (rl.below (Below.nx D3 hbq)).int (by omega)
            have c3 := hc3 q hqn
            clear hc3
            subst e3
            by_cases h1 : 0 ≤ nth xs q
            · by_cases h2 : nth xs q ≤ 5
              · have HIT := Lib.hid (cntP_hit (p := inB 0 5) (ys := xs) (j := q) (by simp [inB]; omega))
                go_wp2_with fail
                go_roundw
                case rel => exact ⟨q + 1, by omega, by go_num, int_eq (by rw [HIT.out]; omega), hbq⟩
                case measure => simp [intOf]; omega
              · have HIT := Lib.hid (cntP_miss (p := inB 0 5) (ys := xs) (j := q) (by simp [inB]; omega))
                go_wp2_with fail
                go_roundw
                case rel => exact ⟨q + 1, by omega, by go_num, int_eq (by rw [HIT.out]), hbq⟩
                case measure => simp [intOf]; omega
            · have HIT := Lib.hid (cntP_miss (p := inB 0 5) (ys := xs) (j := q) (by simp [inB]; omega))
              go_wp2_with fail
              go_roundw
              case rel => exact ⟨q + 1, by omega, by go_num, int_eq (by rw [HIT.out]), hbq⟩
              case measure => simp [intOf]; omega
          · obtain rfl : z = q := by omega
            obtain ⟨ms, hms⟩ : ∃ ms, cntP (inB 0 5) xs z = ms := ⟨_, rfl⟩
            rw [hms] at hcl ⊢
            have hcm : cN ≤ ms := by have h := HCM.out; rw [HXL.out, hms] at h; exact h
            clear hms HCM
            have D4 : Below we.heap.size we wr := Below.nx D3 hbq
            have owt := (owt.below d3).below hbq
            have owu := (owu.below d3).below hbq
            have E1 := Lib.hid (c_same ta ua z tc z uc (srt xs) wr owt.rd owu.rd (by omega) : Calls Try.prog 13 #[.slice ta z tc, .slice ua z uc] wr _)
            go_wp2_with fail
            refine E1.out.mono ?_
            rintro e y1 ⟨rfl, f1⟩
            clear E1
            have F1 : Below we.heap.size we y1 := Below.nx D4 f1
            have esl : (smV xs (od : Int)).length = z := by
              rw [smV_yes (okWin_12 (by rw [HXL.out]; exact hz) ho1 ho5) (by omega), smG_len]; exact HXL.out
            have ESL := Lib.hid esl
            clear esl
            have E2 := Lib.hid (ci_SmoothWith la z lc xs (od : Int) y1 (rl.below F1))
            go_wp2_with fail
            refine E2.out.mono ?_
            rintro e y2 ⟨ga, gn, gc, rfl, ⟨Lg, owg, _⟩, _, f2⟩
            clear E2
            obtain rfl : z = gn := by rw [← owg.lens, ESL.out]
            have F2 : Below we.heap.size we y2 := Below.nx F1 f2
            have hcn := cw_none (xs := xs) (wd := wd) (by rw [HXL.out]; exact hz) hw1 hw5
            have E3 := ci_CountInWindow la z lc xs (wd : Int) 3 2 y2 (rl.below F2)
            rw [hcn] at E3
            have E3 := Lib.hid E3
            clear hcn
            have k1 : (0 : Int) ≤ (cN : Int) := by omega
            have k2 : (cN : Int) ≤ (wd : Int) := by omega
            have k3 : (cN : Int) ≤ (ms : Int) := by omega
            go_wp2_with fail
            refine E3.out.mono ?_
            rintro e y3 ⟨rfl, f3⟩
            clear E3
            have F3 : Below we.heap.size we y3 := Below.nx F2 f3
            have hm1 := med_one (xs := xs) (by rw [HXL.out]; exact hz)
            have E4 := ci_WindowMedians la z lc xs 1 y3 (rl.below F3)
            rw [hm1] at E4
            have E4 := Lib.hid E4
            clear hm1
            go_wp2_with fail
            refine E4.out.mono ?_
            rintro e y4 ⟨oa, on, oc, rfl, ⟨Lo, owo, _⟩, _, f4⟩
            clear E4
            obtain rfl : z = on := by rw [← owo.lens, HXL.out]
            have F4 : Below we.heap.size we y4 := Below.nx F3 f4
            have E5 := Lib.hid (c_same oa la z oc z lc xs y4 owo.rd (rl.below F4) (by omega) : Calls Try.prog 13 #[.slice oa z oc, .slice la z lc] y4 _)
            go_wp2_with fail
            refine E5.out.mono ?_
            rintro e y5 ⟨rfl, f5⟩
            clear E5
            have F5 : Below we.heap.size we y5 := Below.nx F4 f5
            go_wp2_with fail
            go_ret
            exact ⟨rfl, Below.nx B8 F5⟩

end Go.Proofs.Ytiiijijbkacneaa

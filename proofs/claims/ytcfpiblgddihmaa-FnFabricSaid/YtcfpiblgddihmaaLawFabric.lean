/- The law of the fabric, walked out of the contracts. No condition. -/
import Derived.Test.YtcfpiblgddihmaaFabA
import Derived.Test.YtcfpiblgddihmaaFabI
import Derived.Test.YtcfpiblgddihmaaPower
namespace Go.Proofs.Ytcfpiblgddihmaa
open Go.RowKit
set_option linter.unusedVariables false
set_option linter.unusedSimpArgs false

theorem back_is {d n m : Nat} {o s : List Int} (hd : Dep d n m) (ho : Order o n) (g : Good d o s) : fabM d s (rangeI n) = o := by
  have hp := hd.pow
  have h := g.fl (rangeI n) (by rw [rangeI_len]; exact hp.1)
  rw [← hp.1] at h
  apply List.ext_getElem (by rw [h.1, ho.1])
  intro k h1 h2
  rw [h.1] at h1
  have hb := ho.2.1 k h1
  rw [← nth_eq, ← nth_eq, h.2 k h1, nth_rangeI (by unfold oN; omega)]
  unfold oN; omega

set_option maxRecDepth 1000000 in
set_option maxHeartbeats 16000000 in
theorem w_FnFabric (a : Option Addr) (n0 cap : Nat) (bs : List Int) (w : World) (hr : Rd w a n0 cap (bys bs)) :
    Calls Try.prog 3 #[.slice a n0 cap] w fun e w' => e = .returned (.bool true) ∧ Below w.heap.size w w' := by
  by_cases hn : n0 ≤ 1048576
  case neg =>
    go_enter Try.func3, Try.ntmps3
    go_wp2
    go_ret
    exact ⟨rfl, Below.refl _ _⟩
  have C0 := Lib.hid (c_MakePower a n0 cap bs 0 8 w hr hn (by omega) (by omega) : Calls Try.prog 4 #[.slice a n0 cap, .int .i64 0, .int .i64 8] w _)
  go_enter Try.func3, Try.ntmps3
  go_wp2_with fail
  refine C0.out.mono ?_
  rintro e w1 ⟨oa, n, oc, o, rfl, hk, _, ho, ⟨Lo, owo, _⟩, B1⟩
  clear C0
  obtain ⟨d, m, hd⟩ : ∃ d m, Dep d n m := by
    rcases hk with rfl | rfl | rfl
    · exact ⟨1, 1, Or.inl ⟨rfl, rfl, rfl⟩⟩
    · exact ⟨2, 6, Or.inr (Or.inl ⟨rfl, rfl, rfl⟩)⟩
    · exact ⟨3, 20, Or.inr (Or.inr ⟨rfl, rfl, rfl⟩)⟩
  have hp := hd.pow
  have hn8 : n ≤ 8 := hp.2.2.1
  have hm20 : m ≤ 20 := hp.2.2.2.1
  have ro := owo.rd
  have HD := Lib.hid hd
  have HO := Lib.hid ho
  clear hd ho hk hp owo
  have C1 := Lib.hid (c_SettingsFor d n m HD.out oa oc o w1 ro HO.out)
  go_wp2_with fail
  refine C1.out.mono ?_
  rintro e w2 ⟨sa, sc, s, rfl, ⟨Ls, ows, _⟩, hg, b2⟩
  clear C1
  have B2 : Below w.heap.size w w2 := Below.nx B1 b2
  have HG := Lib.hid hg
  clear hg
  have rs := ows.rd
  have ro := ro.below b2
  have C2 := c_OrderOf d n m HD.out sa sc s w2 rs HG.out.bits
  rw [back_is HD.out HO.out HG.out] at C2
  have C2 := Lib.hid C2
  go_wp2_with fail
  refine C2.out.mono ?_
  rintro e w3 ⟨ba, bc, rfl, ⟨Lb, owb, _⟩, b3⟩
  clear C2 ows b2
  have B3 : Below w.heap.size w w3 := Below.nx B2 b3
  have C3 := Lib.hid (c_MakeListF a n0 cap bs 20 n w3 (hr.below B3) hn (by omega) (by omega) : Calls Try.prog 7 #[.slice a n0 cap, .int .i64 20, .int .i64 n] w3 _)
  go_wp2_with fail
  refine C3.out.mono ?_
  rintro e w4 ⟨la, lc, ls, rfl, ⟨Ll, owl, _⟩, b4⟩
  clear C3
  have B4 : Below w.heap.size w w4 := Below.nx B3 b4
  have rs := (rs.below b3).below b4
  have ro := (ro.below b3).below b4
  have rb := (owb.below b4).rd
  have rl := owl.rd
  have HLS := Lib.hid owl.lens
  clear owb owl b3 b4
  have C4 := Lib.hid (c_ApplyFabric d n m HD.out sa la sc lc s ls w4 rs HG.out.bits rl)
  go_wp2_with fail
  refine C4.out.mono ?_
  rintro e w5 ⟨ua, uc, rfl, ⟨Lu, owu, _⟩, b5⟩
  clear C4
  have B5 : Below w.heap.size w w5 := Below.nx B4 b5
  have rs := rs.below b5
  have ro := ro.below b5
  have rb := rb.below b5
  have rl := rl.below b5
  have ru := owu.rd
  obtain ⟨us, hus⟩ : ∃ us, fabM d s ls = us := ⟨_, rfl⟩
  have HUS := Lib.hid (show us.length = n ∧ ∀ k, k < n → nth us k = nth ls (oN o k) by
    have hp := HD.out.pow
    have h := HG.out.fl ls (by rw [HLS.out]; exact hp.1)
    rw [← hp.1, hus] at h; exact h)
  rw [hus] at ru
  clear hus owu b5 B1 B2 B3 B4
  obtain ⟨wz, hwz⟩ : ∃ wz : World, wz = w5 := ⟨_, rfl⟩
  subst hwz
  go_upto_region 9 with (fail)
  go_cut [97] from 45 to 96 (fun v wc => v = .bool false ∧ Below wz.heap.size wz wc)
  case first =>
    have K1 := Lib.hid (c_same ba oa n bc n oc o wz rb ro (by omega) : Calls Try.prog 9 #[.slice ba n bc, .slice oa n oc] wz _)
    have zz : ((m : Int) == (m : Int)) = true := by simp
    have zn : ((n : Int) == (n : Int)) = true := by simp
    obtain ⟨h, hh⟩ : ∃ h : Nat, n / 2 = h := ⟨_, rfl⟩
    have ht : Int.tdiv (n : Int) 2 = (h : Int) := by rw [Int.tdiv_eq_ediv_of_nonneg (by omega)]; omega
    have hmh : h ≤ m := by
      rcases HD.out with ⟨_, rfl, rfl⟩ | ⟨_, rfl, rfl⟩ | ⟨_, rfl, rfl⟩ <;> omega
    have dh : decide ((m : Int) < (h : Int)) = false := decide_eq_false (by omega)
    have dh2 : decide (m < h) = false := decide_eq_false (by omega)
    by_cases hn2 : n = 2
    · have d2 : decide ((2 : Int) < (n : Int)) = false := decide_eq_false (by omega)
      have d3 : decide (2 < n) = false := decide_eq_false (by omega)
      clear hn2 hh
      go_wp2_with fail
      refine K1.out.mono ?_
      rintro e y1 ⟨rfl, c1⟩
      have K2 := Lib.hid (c_SettingsOk d n m HD.out sa sc s y1 (rs.below c1) HG.out.bits)
      go_wp2_with fail
      refine K2.out.mono ?_
      rintro e y2 ⟨rfl, c2⟩
      have K3 := Lib.hid (c_SwitchCount d n m HD.out y2)
      go_wp2_with fail
      refine K3.out.mono ?_
      rintro e y3 ⟨rfl, c3⟩
      go_wp2_with fail
      go_meet
      exact ⟨rfl, Below.nx (Below.nx c1 c2) c3⟩
    · have d2 : decide ((2 : Int) < (n : Int)) = true := by
        refine decide_eq_true ?_
        rcases HD.out with ⟨_, rfl, rfl⟩ | ⟨_, rfl, rfl⟩ | ⟨_, rfl, rfl⟩ <;> omega
      have d3 : decide (2 < n) = true := decide_eq_true (by have := of_decide_eq_true d2; omega)
      obtain ⟨q, hq⟩ : ∃ q : Nat, (m : Int) - (h : Int) = (q : Int) := ⟨m - h, by omega⟩
      have hqm : q < m := by
        rcases HD.out with ⟨_, rfl, rfl⟩ | ⟨_, rfl, rfl⟩ | ⟨_, rfl, rfl⟩ <;> omega
      have hz : nth s q = 0 := by
        have e1 := HG.out.z (by rcases HD.out with ⟨rfl, rfl, rfl⟩ | ⟨rfl, rfl, rfl⟩ | ⟨rfl, rfl, rfl⟩ <;> omega)
        have e2 : swM d - 2 ^ (d - 1) = q := by
          rcases HD.out with ⟨rfl, rfl, rfl⟩ | ⟨rfl, rfl, rfl⟩ | ⟨rfl, rfl, rfl⟩
          · omega
          · show 6 - 2 = q; omega
          · show 20 - 4 = q; omega
        rwa [e2] at e1
      clear hn2 hh
      go_wp2_with fail
      refine K1.out.mono ?_
      rintro e y1 ⟨rfl, c1⟩
      have K2 := Lib.hid (c_SettingsOk d n m HD.out sa sc s y1 (rs.below c1) HG.out.bits)
      go_wp2_with fail
      refine K2.out.mono ?_
      rintro e y2 ⟨rfl, c2⟩
      have K3 := Lib.hid (c_SwitchCount d n m HD.out y2)
      have C12 : Below wz.heap.size wz y2 := Below.nx c1 c2
      go_wp2_with fail
      refine K3.out.mono ?_
      rintro e y3 ⟨rfl, c3⟩
      have C13 : Below wz.heap.size wz y3 := Below.nx C12 c3
      obtain ⟨bs', os', rfl, _, hcs⟩ := (rs.below C13).int (by omega)
      have cs := hcs q hqm
      rw [hz] at cs
      clear hcs hz
      go_wp2_with fail
      go_meet
      exact ⟨rfl, C13⟩
  case rest =>
    obtain ⟨rfl, bc⟩ := hcut
    obtain ⟨w6, hw6⟩ : ∃ w6 : World, w6 = wc := ⟨_, rfl⟩
    subst hw6
    have B6 : Below w.heap.size w w6 := Below.nx B5 bc
    have ro := ro.below bc
    have rl := rl.below bc
    have ru := ru.below bc
    clear rb rs bc B5
    go_wp2_with fail
    obtain ⟨wo, hwo⟩ : ∃ wo : World, wo = w6 := ⟨_, rfl⟩
    subst hwo
    go_loopw [100] (fun i wr => ∃ k : Nat, k ≤ n ∧ i = .int .i64 k ∧ Below wo.heap.size wo wr) (fun i _ => n - (intOf i).toNat)
    case atStart => exact ⟨0, by omega, rfl, Below.refl _ _⟩
    case round =>
      as_aux_lemma =>
      obtain ⟨k, hk, rfl, hb⟩ := hrel
      by_cases hkn : k < n
      · obtain ⟨bo, oo, rfl, _, hco⟩ := (ro.below hb).int (by omega)
        obtain ⟨bl, ol, rfl, _, hcl⟩ := (rl.below hb).int (by omega)
        obtain ⟨bu, ou, rfl, _, hcu⟩ := (ru.below hb).int (by omega)
        have hob := HO.out.2.1 k hkn
        obtain ⟨v, hv⟩ : ∃ v : Nat, nth o k = (v : Int) := ⟨(nth o k).toNat, by omega⟩
        have co := hco k hkn
        rw [hv] at co hob
        have hvn : v < n := by omega
        have cl := hcl v hvn
        have cu := hcu k hkn
        rw [HUS.out.2 k hkn, show oN o k = v by unfold oN; rw [hv]; rfl] at cu
        obtain ⟨x, hx⟩ : ∃ x, nth ls v = x := ⟨_, rfl⟩
        rw [hx] at cl cu
        have zx : (x == x) = true := by simp
        clear hco hcl hcu hob hv hx
        go_wp2_with fail
        go_quiet (fail)
        go_wp2_with fail
        go_roundw
        case rel => exact ⟨k + 1, by omega, by go_num, by first | exact hb | exact hb.trans (below_drewN (Below.refl _ _) _)⟩
        case measure => simp [intOf]; omega
      · obtain rfl : k = n := by omega
        have ro := ro.below hb
        have B7 : Below w.heap.size w wr := Below.nx B6 hb
        clear rl ru hb B6
        have D1 := Lib.hid (c_InverseOrder oa k oc o wr ro HO.out hn8)
        go_wp2_with fail
        refine D1.out.mono ?_
        rintro e v1 ⟨ia, ic, rfl, ⟨Li, owi, _⟩, e1⟩
        clear D1
        have V1 : Below w.heap.size w v1 := Below.nx B7 e1
        have HI := Lib.hid (inv_order HO.out)
        have ri := owi.rd
        have ro := ro.below e1
        clear owi e1 B7
        have D2 := c_ParityOf ia k ic (invT o k k) v1 ri HI.out.1 hn8
        rw [HI.out.2.2] at D2
        obtain ⟨pv, hpv⟩ : ∃ pv, sumC o k % 2 = pv := ⟨_, rfl⟩
        rw [hpv] at D2
        have HPV := Lib.hid hpv
        have D2 := Lib.hid D2
        clear hpv
        go_wp2_with fail
        refine D2.out.mono ?_
        rintro e v2 ⟨rfl, e2⟩
        clear D2
        have V2 : Below w.heap.size w v2 := Below.nx V1 e2
        have ri := ri.below e2
        have ro := ro.below e2
        have D3 := c_ParityOf oa k oc o v2 ro HO.out hn8
        rw [HPV.out] at D3
        have D3 := Lib.hid D3
        go_wp2_with fail
        refine D3.out.mono ?_
        rintro e v3 ⟨rfl, e3⟩
        clear D3
        have V3 : Below w.heap.size w v3 := Below.nx V2 e3
        have ri := ri.below e3
        have ro := ro.below e3
        have D4 := c_ParityOf oa k oc o v3 ro HO.out hn8
        rw [HPV.out] at D4
        have D4 := Lib.hid D4
        go_wp2_with fail
        refine D4.out.mono ?_
        rintro e v4 ⟨rfl, e4⟩
        clear D4
        have V4 : Below w.heap.size w v4 := Below.nx V3 e4
        have ri := ri.below e4
        have ro := ro.below e4
        obtain ⟨sv, hsv⟩ : ∃ sv, sumC o k = sv := ⟨_, rfl⟩
        have D5 := ci_InversionsOf oa k oc o v4 ro
        rw [show invV o = (sv : Int) by unfold invV; rw [HO.out.1, if_pos (by omega), hsv]] at D5
        have D5 := Lib.hid D5
        have hmd : Int.tmod (sv : Int) 2 = (pv : Int) := by rw [rem_twoF, ← hsv, HPV.out]
        clear hsv
        go_wp2_with fail
        refine D5.out.mono ?_
        rintro e v5 ⟨rfl, e5⟩
        clear D5
        have V5 : Below w.heap.size w v5 := Below.nx V4 e5
        have ri := ri.below e5
        have ro := ro.below e5
        clear e2 e3 e4 e5 V1 V2 V3 V4
        go_wp2_with fail
        obtain ⟨wp, hwp⟩ : ∃ wp : World, wp = v5 := ⟨_, rfl⟩
        subst hwp
        go_loopw [138] (fun i wr => ∃ q : Nat, q ≤ k ∧ i = .int .i64 q ∧ Below wp.heap.size wp wr) (fun i _ => k - (intOf i).toNat)
        case atStart => exact ⟨0, by omega, rfl, Below.refl _ _⟩
        case round =>
          as_aux_lemma =>
          obtain ⟨q, hq, rfl, hb⟩ := hrel
          by_cases hqk : q < k
          · obtain ⟨bo, oo, rfl, _, hco⟩ := (ro.below hb).int (by omega)
            obtain ⟨bi, oi, rfl, _, hci⟩ := (ri.below hb).int (by omega)
            have hob := HO.out.2.1 q hqk
            obtain ⟨v, hv⟩ : ∃ v : Nat, nth o q = (v : Int) := ⟨(nth o q).toNat, by omega⟩
            have co := hco q hqk
            rw [hv] at co hob
            have hvn : v < k := by omega
            have ci := hci v hvn
            have hiv := HI.out.2.1 q hqk
            rw [show oN o q = v by unfold oN; rw [hv]; rfl] at hiv
            rw [hiv] at ci
            have zx : ((q : Int) == (q : Int)) = true := by simp
            clear hco hci hob hv hiv
            go_wp2_with fail
            go_roundw
            case rel => exact ⟨q + 1, by omega, by go_num, by first | exact hb | exact hb.trans (below_drewN (Below.refl _ _) _)⟩
            case measure => simp [intOf]; omega
          · obtain rfl : q = k := by omega
            have V6 : Below w.heap.size w wr := Below.nx V5 hb
            clear ro ri hb V5
            have E1 := Lib.hid (c_MakePower a n0 cap bs 40 4 wr (hr.below V6) hn (by omega) (by omega) : Calls Try.prog 4 #[.slice a n0 cap, .int .i64 40, .int .i64 4] wr _)
            go_wp2_with fail
            refine E1.out.mono ?_
            rintro e x1 ⟨pa, pn, pc, p, rfl, hpn, hpn4, hpo, ⟨Lp, owp, _⟩, f1⟩
            clear E1
            have X1 : Below w.heap.size w x1 := Below.nx V6 f1
            have rp := owp.rd
            have HPO := Lib.hid hpo
            clear hpo owp f1 V6
            rcases (show pn = 2 ∨ pn = 4 by omega) with rfl | rfl
            · clear hpn hpn4
              obtain ⟨pa0, pb0, ha0, hb0, hab, hpe⟩ := two_is HPO.out
              have F := (fab_two pa0 ha0 pb0 hb0).resolve_left hab
              rw [← hpe] at F
              have E2 := c_CountSettings 1 2 1 (Or.inl ⟨rfl, rfl, rfl⟩) pa pc p x1 rp HPO.out
              rw [show allT 1 2 1 p (2 ^ 1) = allT 1 2 1 p 2 from rfl, F.1] at E2
              have E2 := Lib.hid (E2 : Calls Try.prog 15 #[.slice pa 2 pc] x1 fun e w' => e = .returned (.int .i64 1) ∧ Below x1.heap.size x1 w')
              have HF := Lib.hid F
              have HP0 := Lib.hid (show nth p 0 = (pa0 : Int) by rw [hpe]; rfl)
              clear F hpe hab hb0
              go_wp2_with fail

              have T1 := Lib.hid (fun wx => (c_SwitchCount 2 4 6 (Or.inr (Or.inl ⟨rfl, rfl, rfl⟩)) wx : Calls Try.prog 11 #[.int .i64 4] wx _))
              go_wp2_with fail
              refine E2.out.mono ?_
              rintro e x2 ⟨rfl, f2⟩
              clear E2
              have X2 : Below w.heap.size w x2 := Below.nx X1 f2
              go_wp2_with fail
              refine (T1.out _).mono ?_
              rintro e x3 ⟨rfl, f3⟩
              have X3 : Below w.heap.size w x3 := Below.nx X2 f3
              have T2 := Lib.hid (c_MakeSize a n0 cap bs 1 0 5 x3 (hr.below X3) hn (by omega) (by omega) (by omega) : Calls Try.prog 16 #[.slice a n0 cap, .int .i64 1, .int .i64 0, .int .i64 5] x3 _)
              go_wp2_with fail
              refine T2.out.mono ?_
              rintro e x4 ⟨kk, rfl, _, hkk, f4⟩
              clear T1 T2
              have X4 : Below w.heap.size w x4 := Below.nx X3 f4
              have rp := ((rp.below f2).below f3).below f4
              clear f2 f3 f4 X1 X2 X3
              obtain ⟨bp, op, rfl, _, hcp⟩ := rp.int (by omega)
              have cp := hcp 0 (by omega)
              rw [HP0.out, Nat.add_zero] at cp
              clear hcp
              have G1 := (c_CanRouteWith 1 2 1 (Or.inl ⟨rfl, rfl, rfl⟩) 0 (by omega) (pa0 : Int) (some ⟨bp, op, none⟩) pc p x4 rp HPO.out : Calls Try.prog 17 #[.slice (some ⟨bp, op, none⟩) 2 pc, .int .i64 0, .int .i64 pa0] x4 _)
              rw [show allT 1 2 1 p (2 ^ 1) = allT 1 2 1 p 2 from rfl, HF.out.2.1] at G1
              have G1 := Lib.hid G1
              go_wp2_with fail
              refine G1.out.mono ?_
              rintro e x5 ⟨rfl, f5⟩
              clear G1
              have X5 : Below w.heap.size w x5 := Below.nx X4 f5
              have cp5 := (f5.cell (p := ⟨bp, op, none⟩) (World.block_lt_of_cell? x4 _ cp)).trans cp
              have rp := rp.below f5
              have G2 := (c_CanRouteWith 1 2 1 (Or.inl ⟨rfl, rfl, rfl⟩) 0 (by omega) (1 - (pa0 : Int)) (some ⟨bp, op, none⟩) pc p x5 rp HPO.out : Calls Try.prog 17 #[.slice (some ⟨bp, op, none⟩) 2 pc, .int .i64 0, .int .i64 (1 - (pa0 : Int))] x5 _)
              rw [show allT 1 2 1 p (2 ^ 1) = allT 1 2 1 p 2 from rfl, HF.out.2.2] at G2
              have G2 := Lib.hid G2
              have ha1 : pa0 ≤ 1 := by omega
              go_wp2_with fail
              refine G2.out.mono ?_
              rintro e x6 ⟨rfl, f6⟩
              go_wp2_with fail
              go_ret
              exact ⟨rfl, Below.nx X5 f6⟩
            · clear hpn hpn4
              have F := four_is HPO.out
              unfold chk4 at F
              obtain ⟨xs, hxs⟩ : ∃ xs, allT 2 4 6 p 64 = xs := ⟨_, rfl⟩
              rw [hxs] at F
              have hxs2 : allT 2 4 6 p (2 ^ 6) = xs := hxs
              simp only [Bool.and_eq_true, Bool.or_eq_true, beq_iff_eq, List.all_eq_true, List.mem_range] at F
              have E2 := c_CountSettings 2 4 6 (Or.inr ⟨rfl, rfl, rfl⟩) pa pc p x1 rp HPO.out
              rw [hxs2] at E2
              obtain ⟨cn, hcn⟩ : ∃ cn, xs.length = cn := ⟨_, rfl⟩
              rw [hcn] at E2 F
              have E2 := Lib.hid E2
              have HF := Lib.hid F
              have HXS := Lib.hid hxs2
              have hc24 := F.1.1
              have HC := Lib.hid hc24
              clear F hxs hxs2 hcn hc24
              go_wp2_with fail

              have T1 := Lib.hid (fun wx => (c_SwitchCount 2 4 6 (Or.inr (Or.inl ⟨rfl, rfl, rfl⟩)) wx : Calls Try.prog 11 #[.int .i64 4] wx _))
              go_wp2_with fail
              refine E2.out.mono ?_
              rintro e x2 ⟨rfl, f2⟩
              clear E2
              have X2 : Below w.heap.size w x2 := Below.nx X1 f2
              go_wp2_with fail
              refine (T1.out _).mono ?_
              rintro e x3 ⟨rfl, f3⟩
              have X3 : Below w.heap.size w x3 := Below.nx X2 f3
              have T2 := Lib.hid (c_MakeSize a n0 cap bs 1 0 5 x3 (hr.below X3) hn (by omega) (by omega) (by omega) : Calls Try.prog 16 #[.slice a n0 cap, .int .i64 1, .int .i64 0, .int .i64 5] x3 _)
              go_wp2_with fail
              refine T2.out.mono ?_
              rintro e x4 ⟨kk, rfl, _, hkk, f4⟩
              clear T1 T2
              have X4 : Below w.heap.size w x4 := Below.nx X3 f4
              have rp := ((rp.below f2).below f3).below f4
              clear f2 f3 f4 X1 X2 X3
              have R0 := Lib.hid (fun (i : Nat) (hi : i < 6) (x : Int) wx (hx : Below x4.heap.size x4 wx) => (show Calls Try.prog 17 #[.slice pa 4 pc, .int .i64 i, .int .i64 x] wx fun e w' => e = .returned (.bool (crV xs i x)) ∧ Below wx.heap.size wx w' from by
                have := c_CanRouteWith 2 4 6 (Or.inr ⟨rfl, rfl, rfl⟩) i hi x pa pc p wx (rp.below hx) HPO.out
                rwa [HXS.out] at this))
              obtain ⟨v0, hv0⟩ : ∃ v0, crV xs kk 0 = v0 := ⟨_, rfl⟩
              have hor := HF.out.1.2 kk (by omega)
              rw [hv0] at hor
              have H4 := Lib.hid HF.out.2
              have HV0 := Lib.hid hv0
              have HOR := Lib.hid hor
              clear hv0 hor
              have Q4 := Lib.hid (fun wx (hx : Below x4.heap.size x4 wx) => (show Calls Try.prog 17 #[.slice pa 4 pc, .int .i64 4, .int .i64 0] wx fun e w' => e = .returned (.bool true) ∧ Below wx.heap.size wx w' from by
                have := R0.out 4 (by omega) 0 wx hx
                rwa [H4.out] at this))
              have Q6 := Lib.hid (fun wx (hx : Below x4.heap.size x4 wx) => (c_CanRouteNo 4 6 6 (by omega) (by omega) (by omega) (by omega) 0 pa pc p wx (rp.below hx) HPO.out : Calls Try.prog 17 #[.slice pa 4 pc, .int .i64 6, .int .i64 0] wx _))
              have Q0 := R0.out kk (by omega) 0 x4 (Below.refl _ _)
              rw [HV0.out] at Q0
              have Q0 := Lib.hid Q0
              have Q1 := Lib.hid (fun wx (hx : Below x4.heap.size x4 wx) (he : v0 = false) => (show Calls Try.prog 17 #[.slice pa 4 pc, .int .i64 kk, .int .i64 1] wx fun e w' => e = .returned (.bool true) ∧ Below wx.heap.size wx w' from by
                have := R0.out kk (by omega) 1 wx hx
                have h2 := HOR.out
                rw [he] at h2
                simp at h2
                rwa [h2] at this))
              rcases HC.out with rfl | rfl
              all_goals
                cases v0
                · go_wp2_with fail
                  refine Q0.out.mono ?_
                  rintro e x5 ⟨rfl, f5⟩
                  go_wp2_with fail
                  refine (Q1.out _ f5 (by first | rfl | trivial)).mono ?_
                  rintro e x6 ⟨rfl, f6⟩
                  have F6 : Below x4.heap.size x4 x6 := Below.nx f5 f6
                  go_wp2_with fail
                  refine (Q4.out _ F6).mono ?_
                  rintro e x7 ⟨rfl, f7⟩
                  have F7 : Below x4.heap.size x4 x7 := Below.nx F6 f7
                  go_wp2_with fail
                  refine (Q6.out _ F7).mono ?_
                  rintro e x8 ⟨rfl, f8⟩
                  go_wp2_with fail
                  go_ret
                  exact ⟨rfl, Below.nx (Below.nx X4 F7) f8⟩
                · go_wp2_with fail
                  refine Q0.out.mono ?_
                  rintro e x5 ⟨rfl, f5⟩
                  go_wp2_with fail
                  refine (Q4.out _ f5).mono ?_
                  rintro e x7 ⟨rfl, f7⟩
                  have F7 : Below x4.heap.size x4 x7 := Below.nx f5 f7
                  go_wp2_with fail
                  refine (Q6.out _ F7).mono ?_
                  rintro e x8 ⟨rfl, f8⟩
                  go_wp2_with fail
                  go_ret
                  exact ⟨rfl, Below.nx (Below.nx X4 F7) f8⟩

end Go.Proofs.Ytcfpiblgddihmaa

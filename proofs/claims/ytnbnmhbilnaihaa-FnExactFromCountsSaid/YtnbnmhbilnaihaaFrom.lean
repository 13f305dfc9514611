/- FromCounts, the reference's and the program's. No condition but lengths, and that the numbers are of 64 bits. -/
import Derived.Test.YtnbnmhbilnaihaaFromL
import Derived.Test.YtnbnmhbilnaihaaDis5
import Derived.Test.YtnbnmhbilnaihaaDel
namespace Go.Proofs.Ytnbnmhbilnaihaa
open Go.RowKit


theorem c_l01In (b : Bool) (n lo hi : Int) (w : World) (hb : decide (lo ≤ n ∧ n ≤ hi) = b) : Calls Try.prog 57 #[.int .i64 n, .int .i64 lo, .int .i64 hi] w fun e w' => e = .returned (.bool b) ∧ w = w' := by
  subst hb
  by_cases h1 : lo ≤ n
  · by_cases h2 : n ≤ hi
    · go_enter Try.func57, Try.ntmps57
      go_wp2
      go_ret
      exact ⟨by rw [decide_eq_true (by omega)]; rfl, rfl⟩
    · go_enter Try.func57, Try.ntmps57
      go_wp2
      go_ret
      exact ⟨by rw [decide_eq_false (by omega)]; rfl, rfl⟩
  · go_enter Try.func57, Try.ntmps57
    go_wp2
    go_ret
    exact ⟨by rw [decide_eq_false (by omega)]; rfl, rfl⟩

theorem frB_no (cs : List Int) (n : Nat) (hl : cs.length = n) (h : ¬ (n ≤ 12 ∧ validC cs n)) : frL cs = [] ∧ frB cs = false := by
  subst hl; exact ⟨by unfold frL; rw [if_neg h], by unfold frB; rw [if_neg h]⟩
theorem frB_yes (cs : List Int) (n : Nat) (hl : cs.length = n) (h : n ≤ 12 ∧ validC cs n) : frL cs = outT cs n ∧ frB cs = true := by
  subst hl; exact ⟨by unfold frL; rw [if_pos h], by unfold frB; rw [if_pos h]⟩

set_option maxHeartbeats 1600000 in
theorem cs_FromCounts (a : Option Addr) (n cap : Nat) (xs : List Int) (w : World) (hr : RdI w a n cap xs) :
    Calls Try.prog 29 #[.slice a n cap] w fun e w' => ∃ sa sn sc, e = .returned (.tuple #[.slice sa sn sc, .bool (frB xs)]) ∧ RdI w' sa sn sc (frL xs) ∧ sn ≤ 1048576 ∧ Below w.heap.size w w' := by
  have hl := Lib.hid hr.lens
  by_cases h12 : n ≤ 12
  case neg =>
    have hno := frB_no xs n hl.out (fun h => h12 h.1)
    have HN := Lib.hid hno
    clear hno
    go_enter Try.func29, Try.ntmps29
    go_wp2_with (go_at_call 50; refine (c_l19Ok false _ _ _ _ (by simpa using h12)).mono ?_; rintro e w' ⟨rfl, rfl⟩)
    go_ret2
    exact ⟨_, _, _, by rw [HN.out.2]; rfl, by rw [HN.out.1]; exact Rd.nil _ _ _ (Nat.zero_le _), by omega, Below.refl _ _⟩
  have hmk := run_make_row' (P := Try.prog) 22 3 (.int .i64 0) 8 Try.underlying22 infoInt rfl .i64 .i64 n (by omega) (by omega)
  go_enter Try.func29, Try.ntmps29
  go_wp2_with (go_at_call 50; refine (c_l19Ok true _ _ _ _ (by simpa using h12)).mono ?_; rintro e w' ⟨rfl, rfl⟩)
  go_loopw [4, 17] (fun l i wr => ∃ k : Nat, ∃ L la m lc, k ≤ n ∧ i = .int .i64 k ∧ l = .slice la m lc ∧ validC xs k ∧ Ow wr 3 L la m lc (ints (byL xs k)) ∧ New w.heap.size L ∧ Below w.heap.size w wr) (fun _ i _ => n - (intOf i).toNat)
  case atStart => exact ⟨0, [], _, _, _, by omega, rfl, rfl, fun i hi => by omega, Ow.bare _ _ _, fun _ h => (by cases h), (Below.refl _ _).alloc (Nat.le_refl _) _⟩
  case round =>
    obtain ⟨k, L, la, m, lc, hk, rfl, rfl, hval, how, hnew, hb⟩ := hrel
    have HV := Lib.hid hval
    clear hval
    have hcap := hr.le
    have hcm := hr.max
    unfold maxLen at hcm
    have hmk2 : k = m := by have := how.lens; rw [byL_len] at this; exact this
    subst hmk2
    have hlm := how.le
    have hlx := how.max
    unfold maxLen at hlx
    have hz0 := hb.size
    by_cases hlt : k < n
    · obtain ⟨b, off, rfl, hbl, hc⟩ := (hr.below hb).int (by omega)
      have c1 := hc k hlt
      clear hc
      by_cases hin : 0 ≤ nth xs k ∧ nth xs k ≤ k
      · obtain ⟨v, hv⟩ : ∃ v : Nat, nth xs k = v := ⟨(nth xs k).toNat, by omega⟩
        have hg : goes xs k = k - v := by unfold goes; rw [hv]; rfl
        rw [hv] at c1
        have hvk : v ≤ k := by omega
        have HVV := Lib.hid hv
        have HG := Lib.hid hg
        have HIN := Lib.hid hin
        clear hv hg hin
        go_wp2_with (first | (go_at_call 57; refine (c_l01In true _ _ _ _ (by simp; omega)).mono ?_; rintro e w' ⟨rfl, rfl⟩) | ((with_reducible show wpList _ _ _ (⟨some 31, _, _, _, _, _⟩ :: _) _ _); refine wpList_upto _ rfl (.tmp 27) (.tmp 30) 22 rfl 3 Try.underlying22 szInt (k - v) rfl rfl (by omega) (by omega) ?_) | ((with_reducible show wpList _ _ _ (⟨some 32, _, _, _, _, _⟩ :: _) _ _); refine wpList_app _ rfl _ _ 22 rfl 3 Try.underlying22 infoInt rfl rfl rfl (Ow.bare _ 3 _) ((how.alloc _).rd.head (k - v) (by omega)) (fun u hu => one_ints _ u (List.mem_of_mem_take hu)) (by omega) (by unfold maxLen; omega) ?_; intro a1 cap1 L1 w1 ow1 kp1 st1; simp only [Nat.zero_add, List.nil_append] at ow1; have own1 := (how.alloc _).keep kp1 (fun _ _ h => by cases h); have n1 : New wr.heap.size L1 := fun i hi => (by rcases st1 i hi with h | h; cases h; simp at h; omega)) | ((with_reducible show wpList _ _ _ (⟨some 36, _, _, _, _, _⟩ :: _) _ _); refine wpList_app _ rfl _ _ 22 rfl 3 Try.underlying22 infoInt rfl rfl rfl (ow1.alloc _) (Rd.one _ _ _) (one_int _) (by omega) (by unfold maxLen; omega) ?_; intro a2 cap2 L2 w2 ow2 kp2 st2; have own2 := (own1.alloc _).keep kp2 (Apart.of_new how.old n1); have n2 : New wr.heap.size L2 := st2.new n1 (by have := kp1.size; simp at this ⊢; omega)) | ((with_reducible show wpList _ _ _ (⟨some 42, _, _, _, _, _⟩ :: _) _ _); refine wpList_from _ rfl (.tmp 38) (.tmp 41) 22 rfl 3 Try.underlying22 szInt (k - v) rfl rfl (by omega) own2.rd (by omega) ?_; intro a4 ha4 r4; clear ha4) | ((with_reducible show wpList _ _ _ (⟨some 43, _, _, _, _, _⟩ :: _) _ _); refine wpList_app _ rfl _ _ 22 rfl 3 Try.underlying22 infoInt rfl rfl rfl ow2 r4 (fun u hu => one_ints _ u (List.mem_of_mem_drop hu)) (by omega) (by unfold maxLen; omega) ?_; intro a3 cap3 L3 w3 ow3 kp3 st3))
        have z1 := kp1.size
        have z2 := kp2.size
        simp at z1 z2
        have n3 : New wr.heap.size L3 := st3.new n2 (by omega)
        have b3 : Below w.heap.size w w3 := (((hb.alloc hb.size _).trans (kp1.below0 (fun _ h => by cases h) (by simp; omega))).alloc (by omega) _ |>.trans (kp2.below0 (n1.mono (by omega)) (by simp; omega))).trans (kp3.below0 (n2.mono (by omega)) (by omega))
        have e3 : (ints (byL xs k)).take (k - v) ++ [.int .i64 (k : Int)] ++ (ints (byL xs k)).drop (k - v) = ints (byL xs (k + 1)) := by
          rw [byL, HG.out, insAt]; simp [ints]
        rw [e3] at ow3
        go_roundw
        case rel => exact ⟨k + 1, L3, a3, _, cap3, by omega, by go_num, rfl, fun i hi => by
          rcases Nat.lt_or_ge i k with h | h
          · exact HV.out i h
          · obtain rfl : i = k := by omega
            exact HIN.out, ow3, n3.mono (by omega), b3⟩
        case measure => simp [intOf]; omega
      · have hno := frB_no xs n hl.out (fun h => hin (h.2 k hlt))
        have HN := Lib.hid hno
        clear hno
        go_wp2_with (go_at_call 57; refine (c_l01In false _ _ _ _ (by simp; omega)).mono ?_; rintro e w' ⟨rfl, rfl⟩)
        go_ret2
        exact ⟨_, _, _, by rw [HN.out.2]; rfl, by rw [HN.out.1]; exact Rd.nil _ _ _ (Nat.zero_le _), by omega, hb⟩
    · obtain rfl : k = n := by omega
      have hyes := frB_yes xs k hl.out ⟨h12, HV.out⟩
      have HY := Lib.hid hyes
      clear hyes
      obtain ⟨wo, rfl⟩ : ∃ wo : World, wo = wr := ⟨_, rfl⟩
      go_wp2_with fail
      have hown : Ow (wo.alloc (.cells (madeCells #[.int .i64 0] k) 3)) 3 [wo.heap.size] (some ⟨wo.heap.size, 0, none⟩) k k (ints (List.replicate k 0)) := Ow.new' _ _ _ _ _ (size_madeCells _ _) (by rw [toList_madeCells_one]; simp) (by unfold maxLen; omega)
      have hb1 : Below wo.heap.size wo (wo.alloc (.cells (madeCells #[.int .i64 0] k) 3)) := (Below.refl _ _).alloc (Nat.le_refl _) _
      go_loopw [50] (fun i wr => ∃ j : Nat, ∃ O : List Int, j ≤ k ∧ i = .int .i64 j ∧ O.length = k ∧ (∀ x : Nat, x < j → nth O (nth (byL xs k) x).toNat = x) ∧ Ow wr 3 [wo.heap.size] (some ⟨wo.heap.size, 0, none⟩) k k (ints O) ∧ Below wo.heap.size wo wr) (fun i _ => k - (intOf i).toNat)
      case atStart => exact ⟨0, _, by omega, rfl, by simp, by omega, hown, hb1⟩
      case round =>
        obtain ⟨j, O, hj, rfl, hOl, hO, hoO, hbq⟩ := hrel
        have HO := Lib.hid hO
        have HOL := Lib.hid hOl
        clear hO hOl
        by_cases hjk : j < k
        · obtain ⟨gb, rfl, rfl, hgb, hoc, _⟩ := (how.below hbq).int (by omega)
          obtain ⟨p, hp, hpe⟩ := byL_mem xs k _ (nth_mem (xs := byL xs k) (j := j) (by rw [byL_len]; exact hjk))
          have c1 := hoc j hjk
          rw [hpe] at c1
          obtain ⟨g, e1, _, hg, hoc2, hof2⟩ := hoO.int (by omega)
          obtain rfl : wo.heap.size = g := by simpa using e1
          have c2 := hoc2 p hp
          have f2 := hof2 p
          have HPE := Lib.hid hpe
          clear hoc hoc2 hof2 e1 hpe
          go_wp2_with fail
          go_roundw
          case rel => exact ⟨j + 1, O.set p (j : Int), by omega, by go_num, by simpa using HOL.out, fun x hx => by
            obtain ⟨p2, hp2, hpe2⟩ := byL_mem xs k _ (nth_mem (xs := byL xs k) (j := x) (by rw [byL_len]; omega))
            have hOL := HOL.out
            rcases Nat.lt_or_ge x j with h | h
            · have h3 := HO.out x h
              have hne : p2 ≠ p := fun e => by
                have := byL_inj xs k x j (by omega) hjk (by rw [hpe2, HPE.out, e]); omega
              rw [hpe2] at h3 ⊢
              have e : nth (O.set p (j : Int)) p2 = nth O p2 := by simp [nth, List.getD, List.getElem?_set_ne (fun e => hne e.symm)]
              simp only [Int.toNat_natCast] at h3 ⊢
              rw [e]; exact h3
            · obtain rfl : x = j := by omega
              rw [HPE.out]
              simp [nth, List.getD, List.getElem?_set_self (show p < O.length by omega)], by
            have h := hoO.set p (.int .i64 (j : Int))
            rw [ints_set] at h
            exact h, hbq.setCell (Nat.le_refl _) _⟩
          case measure => simp [intOf]; omega
        · obtain rfl : j = k := by omega
          have hu := outT_unique xs j O HOL.out HO.out
          have HU := Lib.hid hu
          clear hu
          go_wp2_with fail
          go_ret2
          exact ⟨_, _, _, by rw [HY.out.2]; rfl, by rw [HY.out.1, ← HU.out]; exact hoO.rd, by omega, Below.nx hb hbq⟩

set_option maxHeartbeats 1600000 in
theorem ci_FromCounts (a : Option Addr) (n cap : Nat) (xs : List Int) (w : World) (hr : RdI w a n cap xs) (hwf : WfI xs) :
    Calls Try.prog 30 #[.slice a n cap] w fun e w' => ∃ sa sn sc, e = .returned (.tuple #[.slice sa sn sc, .bool (frB xs)]) ∧ OwI w' 3 w.heap.size sa sn sc (frL xs) ∧ sn ≤ 1048576 ∧ Below w.heap.size w w' := by
  have hl := Lib.hid hr.lens
  have HW := Lib.hid hwf
  clear hwf
  by_cases h12 : n ≤ 12
  case neg =>
    have hno := frB_no xs n hl.out (fun h => h12 h.1)
    have HN := Lib.hid hno
    clear hno
    go_enter Try.func30, Try.ntmps30
    go_wp2_with (go_at_call 52; refine (c_isTwelve false _ _ _ _ (by simpa using h12)).mono ?_; rintro e w' ⟨rfl, rfl⟩)
    go_ret2
    exact ⟨_, _, _, by rw [HN.out.2]; rfl, by rw [HN.out.1]; exact ⟨[], Ow.bare _ _ _, fun _ h => by cases h⟩, by omega, Below.refl _ _⟩
  have hmk := run_make_row' (P := Try.prog) 22 3 (.int .i64 0) 8 Try.underlying22 infoInt rfl .i64 .i64 n (by omega) (by omega)
  go_enter Try.func30, Try.ntmps30
  go_wp2_with (go_at_call 52; refine (c_isTwelve true _ _ _ _ (by simpa using h12)).mono ?_; rintro e w' ⟨rfl, rfl⟩)
  refine (c_wires n _ (by omega)).mono ?_
  rintro e w1 ⟨al, lc, rfl, ⟨L, ho, hnew⟩, hb1⟩
  have hz1 := hb1.size
  have hr1 := hr.below hb1
  go_wp2_with fail
  have hown : Ow (w1.alloc (.cells (madeCells #[.int .i64 0] n) 3)) 3 [w1.heap.size] (some ⟨w1.heap.size, 0, none⟩) n n (ints (List.replicate n 0)) := Ow.new' _ _ _ _ _ (size_madeCells _ _) (by rw [toList_madeCells_one]; simp) (by unfold maxLen; omega)
  have hap : Apart L [w1.heap.size] := Apart.of_new ho.old (fun i hi => by simp at hi; omega)
  have hold := ho.old
  go_loopw [4, 6] (fun l i wr => ∃ k m : Nat, ∃ O : List Int, k + m = n ∧ i = .int .i64 ((m : Int) - 1) ∧ l = .slice al m lc ∧ (∀ p, m ≤ p → p < n → 0 ≤ nth xs p ∧ nth xs p ≤ p) ∧ O.length = n ∧ (∀ p, m ≤ p → p < n → nth O p = nth (outT xs n) p) ∧ Ow wr 3 L al m lc (ints (leftK xs n k)) ∧ Ow wr 3 [w1.heap.size] (some ⟨w1.heap.size, 0, none⟩) n n (ints O) ∧ Below w.heap.size w wr ∧ w1.heap.size < wr.heap.size) (fun _ i _ => (intOf i + 1).toNat)
  case atStart => exact ⟨0, n, _, by omega, by simp, rfl, fun p h1 h2 => by omega, by simp, fun p h1 h2 => by omega, ho.alloc _, hown, hb1.alloc hz1 _, by simp⟩
  case round =>
    obtain ⟨k, m, O, hkm, rfl, rfl, hval, hOl, hO, hol, hoo, hb, hsz⟩ := hrel
    have HV := Lib.hid hval
    have HO := Lib.hid hO
    have HOL := Lib.hid hOl
    clear hval hO hOl
    by_cases hm0 : m = 0
    · subst hm0
      have hyes := frB_yes xs n hl.out ⟨h12, fun i hi => HV.out i (by omega) hi⟩
      have HY := Lib.hid hyes
      clear hyes
      have hu : O = outT xs n := ext_nth (by rw [HOL.out, outT_len]) (fun i hi => HO.out i (by omega) (by rw [HOL.out] at hi; exact hi))
      have HU := Lib.hid hu
      clear hu
      go_wp2_with fail
      go_ret2
      exact ⟨_, _, _, by rw [HY.out.2]; rfl, by rw [HY.out.1, ← HU.out]; exact ⟨_, hoo, fun i hi => by simp at hi; omega⟩, by omega, hb⟩
    · obtain ⟨i, rfl⟩ : ∃ i, m = i + 1 := ⟨m - 1, by omega⟩
      have hbw := HW.out (nth xs i) (nth_mem (by rw [hl.out]; omega))
      obtain ⟨b, off, rfl, hbl, hc⟩ := (hr.below hb).int (by omega)
      have c1 := hc i (by omega)
      clear hc
      by_cases hneg : nth xs i < 0
      · have hno := frB_no xs n hl.out (fun h => by have := h.2 i (by omega); omega)
        have HN := Lib.hid hno
        clear hno
        go_wp2_with fail
        go_ret2
        exact ⟨_, _, _, by rw [HN.out.2]; rfl, by rw [HN.out.1]; exact ⟨[], Ow.bare _ _ _, fun _ h => by cases h⟩, by omega, hb⟩
      · by_cases hbig : (i : Int) < nth xs i
        · have hno := frB_no xs n hl.out (fun h => by have := h.2 i (by omega); omega)
          have HN := Lib.hid hno
          clear hno
          go_wp2_with fail
          go_ret2
          exact ⟨_, _, _, by rw [HN.out.2]; rfl, by rw [HN.out.1]; exact ⟨[], Ow.bare _ _ _, fun _ h => by cases h⟩, by omega, hb⟩
        · obtain ⟨v, hv⟩ : ∃ v : Nat, nth xs i = v := ⟨(nth xs i).toNat, by omega⟩
          have hg : goes xs i = i - v := by unfold goes; rw [hv]; rfl
          rw [hv] at c1
          have hvk : v ≤ i := by omega
          have HVV := Lib.hid hv
          have HG := Lib.hid hg
          clear hv hg hneg hbig hbw
          obtain ⟨gl, hL, rfl, hgl, hlc, _⟩ := hol.int (by have := hol.le; omega)
          have c2 := hlc (i - v) (by omega)
          obtain ⟨g, e1, _, hgo, hoc2, hof2⟩ := hoo.int (by omega)
          obtain rfl : w1.heap.size = g := by simpa using e1
          have c3 := hoc2 i (by omega)
          have f3 := hof2 i
          clear hlc hoc2 hof2 e1
          go_wp2_with fail
          have ee : ((i : Int) - (v : Int)) = ((i - v : Nat) : Int) := by omega
          rw [ee]
          have ks := Keeps.setCell wr w1.heap.size i (.int .i64 (nth (leftK xs n k) (i - v)))
          have hol2 := hol.keep ks hap
          have hoo2 := hoo.set i (.int .i64 (nth (leftK xs n k) (i - v)))
          rw [ints_set] at hoo2
          refine (c_Delete L (some ⟨gl, 0, none⟩) (i + 1) lc (i - v) _ _ hol2 (by omega) (by omega)).mono ?_
          rintro e w2 ⟨rfl, hol3, kp3⟩
          have hoo3 := hoo2.keep kp3 hap.symm
          have hb2 : Below w.heap.size w (wr.setCell ⟨w1.heap.size, i, none⟩ (.int .i64 (nth (leftK xs n k) (i - v)))) := hb.setCell (by show w.heap.size ≤ w1.heap.size; omega) _
          have hb3 : Below w.heap.size w w2 := kp3.below hb2 hnew hb2.size
          have hs2 := kp3.size
          have elast : n - 1 - k = i := by omega
          have egoes := HG.out
          have eO : nth (outT xs n) i = nth (leftK xs n k) (i - v) := by rw [outT_nth xs n i (by omega), show n - 1 - i = k by omega, egoes]
          have EO := Lib.hid eO
          have EL := Lib.hid elast
          clear eO elast egoes
          rw [Nat.add_sub_cancel] at hol3 ⊢
          go_wp2_with fail
          go_roundw
          case rel =>
            refine ⟨k + 1, i, O.set i (nth (leftK xs n k) (i - v)), by omega, by go_num, rfl, fun p h1 h2 => ?_, by simpa using HOL.out, fun p h1 h2 => ?_, ?_, hoo3, hb3, by simp at hs2; omega⟩
            · rcases Nat.lt_or_ge i p with h | h
              · exact HV.out p (by omega) h2
              · obtain rfl : p = i := by omega
                rw [HVV.out]; omega
            · have hOL := HOL.out
              rcases Nat.lt_or_ge i p with h | h
              · rw [← HO.out p (by omega) h2]
                simp [nth, List.getD, List.getElem?_set_ne (show i ≠ p by omega)]
              · obtain rfl : p = i := by omega
                rw [EO.out]
                unfold nth
                simp [List.getD, List.getElem?_set_self (show p < O.length by omega)]
            · rw [leftK, EL.out, HG.out]
              exact hol3
          case measure => simp [intOf]

end Go.Proofs.Ytnbnmhbilnaihaa

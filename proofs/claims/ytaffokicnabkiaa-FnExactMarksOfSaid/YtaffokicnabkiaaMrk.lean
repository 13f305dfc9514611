/- The marks of records: plain, the guards, the reference. No condition but lengths. -/
import Derived.Test.YtaffokicnabkiaaRun1
import Derived.Test.YtaffokicnabkiaaDrew
namespace Go.Proofs.Ytaffokicnabkiaa
open Go.RowKit
set_option linter.unusedVariables false
set_option linter.unusedSimpArgs false

/-- The mark ahead of record k, and the marks of the first k records. -/
def mkS (xs : List Int) (s : Int) : Nat → Int
  | 0 => -1001
  | k + 1 => if mkS xs s k < nth xs k - s then nth xs k - s else mkS xs s k
def mkL (xs : List Int) (s : Int) : Nat → List Int
  | 0 => []
  | k + 1 => mkL xs s k ++ [mkS xs s (k + 1)]
theorem mkL_len (xs : List Int) (s : Int) : ∀ k, (mkL xs s k).length = k
  | 0 => rfl
  | k + 1 => by rw [mkL, List.length_append, mkL_len xs s k]; rfl
theorem mkS_bd {xs : List Int} {s : Int} (hs : 0 ≤ s ∧ s ≤ 1000) : ∀ k, (∀ j, j < k → 0 ≤ nth xs j ∧ nth xs j ≤ 1000) → -1001 ≤ mkS xs s k ∧ mkS xs s k ≤ 1000
  | 0, _ => by simp [mkS]
  | k + 1, h => by
    have ih := mkS_bd hs k (fun j hj => h j (by omega))
    have := h k (by omega)
    rw [mkS]; split <;> omega
def okL (xs : List Int) (s : Int) : Bool := okTimesOk xs && (decide (0 ≤ s) && decide (s ≤ 1000))
def mkV (xs : List Int) (s : Int) : List Int := if okL xs s = true then mkL xs s xs.length else []
theorem okL_no {xs : List Int} {s : Int} (h : okL xs s = false) : mkV xs s = [] := by unfold mkV; rw [h]; rfl
theorem okL_yes {xs : List Int} {s : Int} (h : okL xs s = true) : mkV xs s = mkL xs s xs.length ∧ okTimesOk xs = true ∧ 0 ≤ s ∧ s ≤ 1000 := by
  refine ⟨by unfold mkV; rw [h]; rfl, ?_⟩
  unfold okL at h
  simp only [Bool.and_eq_true, decide_eq_true_eq] at h
  exact h

theorem cs_l24Ok (a : Option Addr) (n cap : Nat) (xs : List Int) (s : Int) (w : World) (hr : RdI w a n cap xs) :
    Calls Try.prog 28 #[.slice a n cap, .int .i64 s] w fun e w' => e = .returned (.bool (okL xs s)) ∧ Below w.heap.size w w' := by
  cases hok : okTimesOk xs
  · have HK := Lib.hid hok
    have HV := Lib.hid (show okL xs s = false by unfold okL; rw [hok]; rfl)
    clear hok
    go_enter Try.func28, Try.ntmps28
    go_wp2_with (go_at_call 49; refine (cs_TimesOk a n cap xs _ hr).mono ?_; rw [HK.out]; rintro e w1 ⟨rfl, hb⟩)
    go_ret
    exact ⟨by rw [HV.out]; rfl, hb⟩
  · have HK := Lib.hid hok
    have HV := Lib.hid (show okL xs s = decide (0 ≤ s ∧ s ≤ 1000) by unfold okL; rw [hok]; simp)
    clear hok
    go_enter Try.func28, Try.ntmps28
    go_wp2_with (first | (go_at_call 49; refine (cs_TimesOk a n cap xs _ hr).mono ?_; rw [HK.out]; rintro e w1 ⟨rfl, hb⟩) | (go_at_call 50; refine (c_l01In _ s 0 1000 _ HV.out.symm).mono ?_; rintro e w2 ⟨rfl, rfl⟩))
    go_ret
    exact ⟨rfl, hb⟩


theorem ci_isLate (a : Option Addr) (n cap : Nat) (xs : List Int) (s : Int) (w : World) (hr : RdI w a n cap xs) :
    Calls Try.prog 29 #[.slice a n cap, .int .i64 s] w fun e w' => e = .returned (.bool (okL xs s)) ∧ Below w.heap.size w w' := by
  cases hok : okTimesOk xs
  · have HK := Lib.hid hok
    have HV := Lib.hid (show okL xs s = false by unfold okL; rw [hok]; rfl)
    clear hok
    go_enter Try.func29, Try.ntmps29
    go_wp2_with (go_at_call 51; refine (ci_TimesOk a n cap xs _ hr).mono ?_; rw [HK.out]; rintro e w1 ⟨rfl, hb⟩)
    go_ret
    exact ⟨by rw [HV.out]; rfl, hb⟩
  · have HK := Lib.hid hok
    by_cases h0 : 0 ≤ s
    · by_cases h1 : s ≤ 1000
      · have HV := Lib.hid (show okL xs s = true by unfold okL; rw [hok, decide_eq_true h0, decide_eq_true h1]; rfl)
        clear hok
        go_enter Try.func29, Try.ntmps29
        go_wp2_with (go_at_call 51; refine (ci_TimesOk a n cap xs _ hr).mono ?_; rw [HK.out]; rintro e w1 ⟨rfl, hb⟩)
        go_ret
        exact ⟨by rw [HV.out]; first | rfl | simp [h1], hb⟩
      · have HV := Lib.hid (show okL xs s = false by unfold okL; rw [hok, decide_eq_false h1]; simp)
        clear hok
        go_enter Try.func29, Try.ntmps29
        go_wp2_with (go_at_call 51; refine (ci_TimesOk a n cap xs _ hr).mono ?_; rw [HK.out]; rintro e w1 ⟨rfl, hb⟩)
        go_ret
        exact ⟨by rw [HV.out]; first | rfl | simp [h1], hb⟩
    · have HV := Lib.hid (show okL xs s = false by unfold okL; rw [hok, decide_eq_false h0]; rfl)
      clear hok
      go_enter Try.func29, Try.ntmps29
      go_wp2_with (go_at_call 51; refine (ci_TimesOk a n cap xs _ hr).mono ?_; rw [HK.out]; rintro e w1 ⟨rfl, hb⟩)
      go_ret
      exact ⟨by rw [HV.out]; first | rfl | simp [h0], hb⟩


set_option maxHeartbeats 1000000 in
theorem cs_MarksOf (a : Option Addr) (n cap : Nat) (xs : List Int) (s : Int) (w : World) (hr : RdI w a n cap xs) :
    Calls Try.prog 5 #[.slice a n cap, .int .i64 s] w fun e w' => ∃ sa sn sc, e = .returned (.slice sa sn sc) ∧ RdI w' sa sn sc (mkV xs s) ∧ sn ≤ 1048576 ∧ Below w.heap.size w w' := by
  have HL := Lib.hid hr.lens
  cases hok : okL xs s
  · have HK := Lib.hid hok
    have HV := Lib.hid (okL_no hok)
    clear hok
    go_enter Try.func5, Try.ntmps5
    go_wp2_with (go_at_call 28; refine (cs_l24Ok a n cap xs s _ hr).mono ?_; rw [HK.out]; rintro e w1 ⟨rfl, hb⟩)
    go_ret
    exact ⟨none, 0, 0, rfl, by rw [HV.out]; exact Rd.nil _ _ _ (by unfold maxLen; omega), by omega, hb⟩
  · have HK := Lib.hid hok
    have HV := Lib.hid (okL_yes hok).1
    have HT := Lib.hid (okTimesOk_at (okL_yes hok).2.1)
    have hs := (okL_yes hok).2.2
    clear hok
    have hn30 : n ≤ 30 := by rw [← HL.out]; exact HT.out.1
    go_enter Try.func5, Try.ntmps5
    go_wp2_with (go_at_call 28; refine (cs_l24Ok a n cap xs s _ hr).mono ?_; rw [HK.out]; rintro e w1 ⟨rfl, hb1⟩)
    have hr1 := hr.below hb1
    have hb0 := hb1.alloc hb1.size (.cells #[] 3)
    go_loopw [5, 6, 16] (fun o m i wr => ∃ k : Nat, ∃ L oa oc, k ≤ n ∧ o = .slice oa k oc ∧ m = .int .i64 (mkS xs s k) ∧ i = .int .i64 (k : Int) ∧ Ow wr 3 L oa k oc (ints (mkL xs s k)) ∧ New w.heap.size L ∧ Below w.heap.size w wr) (fun _ _ i _ => n - (intOf i).toNat)
    case atStart => exact ⟨0, [], _, _, by omega, rfl, rfl, rfl, Ow.bare _ _ _, (fun _ h => by cases h), hb0⟩
    case round =>
      clear hb0 hb1
      obtain ⟨k, L, oa, oc, hk, rfl, rfl, rfl, how, hnL, hb⟩ := hrel
      by_cases hlt : k < n
      · obtain ⟨b, off, rfl, hbl, hc⟩ := (hr.below hb).int (by omega)
        have c1 := hc k hlt
        clear hc
        have hx := HT.out.2 k (by rw [HL.out]; exact hlt)
        have hm := mkS_bd hs k (fun j hj => HT.out.2 j (by rw [HL.out]; omega))
        have hszr := hb.size
        have HN := Lib.hid (show mkS xs s (k + 1) = if mkS xs s k < nth xs k - s then nth xs k - s else mkS xs s k from rfl)
        have HML := Lib.hid (show mkL xs s (k + 1) = mkL xs s k ++ [mkS xs s (k + 1)] from rfl)
        by_cases hmx : mkS xs s k < nth xs k - s
        · have HN2 := Lib.hid (show mkS xs s (k + 1) = nth xs k - s by rw [HN.out, if_pos hmx])
          have hmx2 : mkS xs s k ≤ nth xs k - s := by omega
          have hmx3 : max (mkS xs s k) (nth xs k - s) = nth xs k - s := by omega
          go_wp2_with ((with_reducible show wpList _ _ _ (⟨some 28, _, _, _, _, _⟩ :: _) _ _); refine wpList_app _ rfl _ _ 22 rfl 3 Try.underlying22 infoInt rfl rfl rfl (how.alloc _) (Rd.one _ _ _) (one_int _) (by omega) (by unfold maxLen; omega) ?_; intro a5 cap5 L5 w5 ow5 kp5 st5; rw [ints_snoc] at ow5)
          go_roundw
          case rel => exact ⟨k + 1, L5, a5, cap5, by omega, rfl, by rw [HN2.out], by rw [Int.natCast_add]; rfl, by rw [HML.out, HN2.out]; exact ow5, st5.new hnL (Nat.le_trans hszr (by simp)), kp5.below (hb.alloc hszr _) hnL (Nat.le_trans hszr (by simp))⟩
          case measure => simp [intOf] <;> omega
        · have HN2 := Lib.hid (show mkS xs s (k + 1) = mkS xs s k by rw [HN.out, if_neg hmx])
          have hmx2 : nth xs k - s ≤ mkS xs s k := by omega
          have hmx3 : max (mkS xs s k) (nth xs k - s) = mkS xs s k := by omega
          go_wp2_with ((with_reducible show wpList _ _ _ (⟨some 28, _, _, _, _, _⟩ :: _) _ _); refine wpList_app _ rfl _ _ 22 rfl 3 Try.underlying22 infoInt rfl rfl rfl (how.alloc _) (Rd.one _ _ _) (one_int _) (by omega) (by unfold maxLen; omega) ?_; intro a5 cap5 L5 w5 ow5 kp5 st5; rw [ints_snoc] at ow5)
          go_roundw
          case rel => exact ⟨k + 1, L5, a5, cap5, by omega, rfl, by rw [HN2.out], by rw [Int.natCast_add]; rfl, by rw [HML.out, HN2.out]; exact ow5, st5.new hnL (Nat.le_trans hszr (by simp)), kp5.below (hb.alloc hszr _) hnL (Nat.le_trans hszr (by simp))⟩
          case measure => simp [intOf] <;> omega
      · obtain rfl : k = n := by omega
        go_wp2_with fail
        go_ret
        exact ⟨oa, k, oc, rfl, by rw [HV.out, HL.out]; exact how.rd, by omega, hb⟩

end Go.Proofs.Ytaffokicnabkiaa

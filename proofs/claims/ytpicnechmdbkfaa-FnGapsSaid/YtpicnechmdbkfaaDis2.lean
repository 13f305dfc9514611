/- Measures of disorder, second part: counts before each place, pairs out of order, parts in order. No condition but lengths. -/
import Derived.Test.YtpicnechmdbkfaaDis
import Derived.Test.YtpicnechmdbkfaaGrid
namespace Go.Proofs.Ytpicnechmdbkfaa
open Go.RowKit




















































set_option maxHeartbeats 400000 in
theorem c_LeftCounts12 (a : Option Addr) (n cap : Nat) (xs : List Int) (w : World) (hr : RdI w a n cap xs) (hn : n ≤ 12) :
    Calls Try.prog 7 #[.slice a n cap] w fun e w' => ∃ ai ni capi, e = .returned (.slice ai ni capi) ∧ OwI w' 3 w.heap.size ai ni capi (leftC xs n) ∧ ni ≤ 12 ∧ Below w.heap.size w w' := by
  go_enter Try.func7, Try.ntmps7
  go_wp2_with (go_at_call 37; refine (c_isTwelve true _ _ _ _ (by simpa using hn)).mono ?_; rintro e w' ⟨rfl, rfl⟩)
  go_loopw [3, 15] (fun l i wr => ∃ k : Nat, ∃ L la lc, k ≤ n ∧ i = .int .i64 k ∧ l = .slice la k lc ∧ Ow wr 3 L la k lc (ints (leftC xs k)) ∧ New w.heap.size L ∧ Below w.heap.size w wr) (fun _ i _ => n - (intOf i).toNat)
  case atStart => exact ⟨0, [], _, _, by omega, rfl, rfl, Ow.bare _ _ _, fun _ h => (by cases h), (Below.refl _ _).alloc (Nat.le_refl _) _⟩
  case round =>
    obtain ⟨k, L, la, lc, hk, rfl, rfl, how, hnew, hb⟩ := hrel
    have hcap := hr.le
    have hcm := hr.max
    unfold maxLen at hcm
    by_cases hlt : k < n
    · obtain ⟨b, off, rfl, hbl, hc⟩ := (hr.below hb).int (by omega)
      have c1 := hc k hlt
      have H := Lib.hid hc
      clear hc
      go_wp2_with ((with_reducible show wpList _ _ _ (⟨some 22, _, _, _, _, _⟩ :: _) _ _); refine wpList_upto _ rfl (.tmp 20) (.tmp 21) 23 rfl 3 Try.underlying23 szInt k rfl rfl rfl (by omega) ?_)
      obtain ⟨wo, rfl⟩ : ∃ wo : World, wo = wr := ⟨_, rfl⟩
      go_loopw [6, 24] (fun v i wr => ∃ j : Nat, j ≤ k ∧ i = .int .i64 j ∧ v = .int .i64 (cntG xs (nth xs k) j) ∧ Below wo.heap.size wo wr) (fun _ i _ => k - (intOf i).toNat)
      case atStart => exact ⟨0, by omega, rfl, rfl, Below.refl _ _⟩
      case round =>
        obtain ⟨j, hj, rfl, rfl, hbq⟩ := hrel
        have hcl := cntG_le xs (nth xs k) j
        by_cases hjk : j < k
        · have c2 := (hbq.cell (p := ⟨b, off + j, none⟩) (by exact hbl)).trans (H.out j (by omega))
          by_cases hgt : nth xs k < nth xs j
          · go_wp2_with fail
            go_roundw
            case rel => exact ⟨j + 1, by omega, by go_num, int_eq (by rw [cntG_hit hgt]; omega), hbq⟩
            case measure => simp [intOf]; omega
          · go_wp2_with fail
            go_roundw
            case rel => exact ⟨j + 1, by omega, by go_num, int_eq (by rw [cntG_miss hgt]), hbq⟩
            case measure => simp [intOf]; omega
        · obtain rfl : j = k := by omega
          have how2 := (how.below hbq).alloc (.cells #[.int .i64 (cntG xs (nth xs j) j)] 3)
          have hb2 : Below w.heap.size w wr := Below.nx hb hbq
          have hsz := hb2.size
          go_wp2_with (at_builtin; refine wpList_app _ rfl _ _ 23 rfl 3 Try.underlying23 infoInt rfl rfl rfl how2 (Rd.one _ _ _) (one_int _) (by omega) (by unfold maxLen; omega) ?_; intro a1 cap1 L1 w1 ow1 kp1 st1)
          have n1 : New w.heap.size L1 := st1.new hnew (by simp; omega)
          have b1 : Below w.heap.size w w1 := kp1.below (hb2.alloc hsz _) hnew (by simp; omega)
          go_roundw
          case rel => exact ⟨j + 1, L1, a1, cap1, by omega, by go_num, rfl, by rw [ints_snoc, ← leftC_succ] at ow1; exact ow1, n1, b1⟩
          case measure => simp [intOf]; omega
    · obtain rfl : k = n := by omega
      go_wp2
      go_ret
      exact ⟨_, _, _, rfl, ⟨L, how, hnew⟩, hn, hb⟩

def leftV (xs : List Int) : List Int := if xs.length ≤ 12 then leftC xs xs.length else []

















theorem ci_LeftCounts (a : Option Addr) (n cap : Nat) (xs : List Int) (w : World) (hr : RdI w a n cap xs) :
    Calls Try.prog 7 #[.slice a n cap] w fun e w' => ∃ sa sn sc, e = .returned (.slice sa sn sc) ∧ OwI w' 3 w.heap.size sa sn sc (leftV xs) ∧ sn ≤ 1048576 ∧ Below w.heap.size w w' := by
  have hl := Lib.hid hr.lens
  by_cases h12 : n ≤ 12
  · refine (c_LeftCounts12 a n cap xs w hr h12).mono ?_
    rintro e w' ⟨ai, ni, capi, rfl, ho, hni, hb⟩
    exact ⟨_, _, _, rfl, by unfold leftV; rw [hl.out, if_pos h12]; exact ho, by omega, hb⟩
  · go_enter Try.func7, Try.ntmps7
    go_wp2_with (go_at_call 37; refine (c_isTwelve false _ _ _ _ (by simpa using h12)).mono ?_; rintro e w' ⟨rfl, rfl⟩)
    go_ret
    exact ⟨_, _, _, rfl, by unfold leftV; rw [hl.out, if_neg h12]; exact ⟨[], Ow.bare _ _ _, fun _ h => by cases h⟩, by omega, Below.refl _ _⟩

def invV (xs : List Int) : Int := if xs.length ≤ 12 then (sumC xs xs.length : Int) else -1







































set_option maxHeartbeats 400000 in
theorem c_inversions (a : Option Addr) (n cap : Nat) (xs : List Int) (w : World) (hr : RdI w a n cap xs) (hn : n ≤ 12) :
    Calls Try.prog 39 #[.slice a n cap] w fun e w' => e = .returned (.int .i64 (sumC xs n)) ∧ Below w.heap.size w w' := by
  have hl := Lib.hid hr.lens
  go_enter Try.func39, Try.ntmps39
  go_wp2
  go_loopw [3, 10] (fun v i wr => ∃ k : Nat, k ≤ n ∧ i = .int .i64 k ∧ v = .int .i64 (sumL xs n k) ∧ Below w.heap.size w wr) (fun v i _ => n - (intOf i).toNat)
  case atStart => exact ⟨0, by omega, rfl, rfl, Below.refl _ _⟩
  case round =>
    obtain ⟨k, hk, rfl, rfl, hb⟩ := hrel
    have hcap := hr.le
    have hcm := hr.max
    unfold maxLen at hcm
    by_cases hlt : k < n
    · have hrk := hr.below hb
      obtain ⟨b, off, rfl, hbl, hc⟩ := hrk.int (by omega)
      have c1 := hc k hlt
      clear hc
      go_wp2_with ((with_reducible show wpList _ _ _ (⟨some 18, _, _, _, _, _⟩ :: _) _ _); refine wpList_from _ rfl (.tmp 15) (.tmp 17) 23 rfl 3 Try.underlying23 szInt (k + 1) rfl rfl (by omega) hrk (by omega) ?_; intro a2 ha2 r2; clear ha2)
      rw [ints_drop] at r2
      obtain ⟨wo, rfl⟩ : ∃ wo : World, wo = wr := ⟨_, rfl⟩
      go_loopw [3, 20] (fun v i wr => ∃ j : Nat, j ≤ n - (k + 1) ∧ i = .int .i64 j ∧ v = .int .i64 (sumL xs n k + cntL xs k (k + 1 + j)) ∧ Below wo.heap.size wo wr) (fun _ i _ => n - (k + 1) - (intOf i).toNat)
      case atStart => exact ⟨0, by omega, rfl, int_eq (by rw [cntL_zero xs k (k + 1 + 0) (by omega)]; simp), Below.refl _ _⟩
      case round =>
        obtain ⟨j, hj, rfl, rfl, hbq⟩ := hrel
        have hcl := cntL_le xs k (k + 1 + j)
        have hsl := sumL_le xs n k
        have hsm : k * n ≤ 12 * 12 := Nat.mul_le_mul (by omega) (by omega)
        by_cases hjk : j < n - (k + 1)
        · obtain ⟨b3, off3, rfl, hbl3, hc3⟩ := (r2.below hbq).int (by omega)
          have c3 := hc3 j hjk
          have e3 : nth (xs.drop (k + 1)) j = nth xs (k + 1 + j) := by simp [nth, List.getD]
          rw [e3] at c3
          clear hc3 e3
          by_cases hgt : nth xs (k + 1 + j) < nth xs k
          · go_wp2_with fail
            go_roundw
            case rel => exact ⟨j + 1, by omega, by go_num, int_eq (by rw [← Nat.add_assoc, cntL_hit (by omega) hgt]; omega), hbq⟩
            case measure => simp [intOf]; omega
          · go_wp2_with fail
            go_roundw
            case rel => exact ⟨j + 1, by omega, by go_num, int_eq (by rw [← Nat.add_assoc, cntL_miss hgt]), hbq⟩
            case measure => simp [intOf]; omega
        · obtain rfl : j = n - (k + 1) := by omega
          go_wp2_with fail
          go_roundw
          case rel => exact ⟨k + 1, by omega, by go_num, int_eq (by simp only [sumL]; rw [show k + 1 + (n - (k + 1)) = n by omega]; omega), Below.nx hb hbq⟩
          case measure => simp [intOf]; omega
    · obtain rfl : k = n := by omega
      go_wp2
      go_ret
      exact ⟨ret_int (by rw [sumL_eq]), hb⟩

theorem ci_InversionsOf (a : Option Addr) (n cap : Nat) (xs : List Int) (w : World) (hr : RdI w a n cap xs) :
    Calls Try.prog 10 #[.slice a n cap] w fun e w' => e = .returned (.int .i64 (invV xs)) ∧ Below w.heap.size w w' := by
  have hl := Lib.hid hr.lens
  by_cases h12 : n ≤ 12
  · go_enter Try.func10, Try.ntmps10
    go_wp2_with (go_at_call 37; refine (c_isTwelve true _ _ _ _ (by simpa using h12)).mono ?_; rintro e w' ⟨rfl, rfl⟩)
    refine (c_inversions a n cap xs _ hr h12).mono ?_
    rintro e w' ⟨rfl, hb⟩
    go_wp2
    go_ret
    exact ⟨ret_int (by unfold invV; rw [hl.out, if_pos h12]), hb⟩
  · go_enter Try.func10, Try.ntmps10
    go_wp2_with (go_at_call 37; refine (c_isTwelve false _ _ _ _ (by simpa using h12)).mono ?_; rintro e w' ⟨rfl, rfl⟩)
    go_ret
    exact ⟨ret_int (by unfold invV; rw [hl.out, if_neg h12]), Below.refl _ _⟩

end Go.Proofs.Ytpicnechmdbkfaa

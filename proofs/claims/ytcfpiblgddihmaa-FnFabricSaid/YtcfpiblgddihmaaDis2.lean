/- Measures of disorder, second part: counts before each place, pairs out of order, parts in order. No condition but lengths. -/
import Derived.Test.YtcfpiblgddihmaaDis
import Derived.Test.YtcfpiblgddihmaaGrid
namespace Go.Proofs.Ytcfpiblgddihmaa
open Go.RowKit






































































































def leftV (xs : List Int) : List Int := if xs.length ≤ 12 then leftC xs xs.length else []





























def invV (xs : List Int) : Int := if xs.length ≤ 12 then (sumC xs xs.length : Int) else -1







































set_option maxHeartbeats 400000 in
theorem c_inversions (a : Option Addr) (n cap : Nat) (xs : List Int) (w : World) (hr : RdI w a n cap xs) (hn : n ≤ 12) :
    Calls Try.prog 31 #[.slice a n cap] w fun e w' => e = .returned (.int .i64 (sumC xs n)) ∧ Below w.heap.size w w' := by
  have hl := Lib.hid hr.lens
  go_enter Try.func31, Try.ntmps31
  go_wp2
  go_loopw [3, 10] (fun v i wr => ∃ k : Nat, k ≤ n ∧ i = .int .i64 k ∧ v = .int .i64 (sumL xs n k) ∧ Below w.heap.size w wr) (fun v i _ => n - (intOf i).toNat)
  case atStart => exact ⟨0, by omega, rfl, rfl, Below.refl _ _⟩
  case round =>
    obtain ⟨k, hk, rfl, rfl, hb⟩ := hrel
    have hcap := hr.le
    have hcm := hr.max
    unfold maxLen at hcm
    by_cases hlt : k < n
    · have hrk := hr.below hb
      obtain ⟨b, off, rfl, hbl, hc⟩ := hrk.int (by omega)
      have c1 := hc k hlt
      clear hc
      go_wp2_with ((with_reducible show wpList _ _ _ (⟨some 18, _, _, _, _, _⟩ :: _) _ _); refine wpList_from _ rfl (.tmp 15) (.tmp 17) 23 rfl 3 Try.underlying23 szInt (k + 1) rfl rfl (by omega) hrk (by omega) ?_; intro a2 ha2 r2; clear ha2)
      rw [ints_drop] at r2
      obtain ⟨wo, rfl⟩ : ∃ wo : World, wo = wr := ⟨_, rfl⟩
      go_loopw [3, 20] (fun v i wr => ∃ j : Nat, j ≤ n - (k + 1) ∧ i = .int .i64 j ∧ v = .int .i64 (sumL xs n k + cntL xs k (k + 1 + j)) ∧ Below wo.heap.size wo wr) (fun _ i _ => n - (k + 1) - (intOf i).toNat)
      case atStart => exact ⟨0, by omega, rfl, int_eq (by rw [cntL_zero xs k (k + 1 + 0) (by omega)]; simp), Below.refl _ _⟩
      case round =>
        obtain ⟨j, hj, rfl, rfl, hbq⟩ := hrel
        have hcl := cntL_le xs k (k + 1 + j)
        have hsl := sumL_le xs n k
        have hsm : k * n ≤ 12 * 12 := Nat.mul_le_mul (by omega) (by omega)
        by_cases hjk : j < n - (k + 1)
        · obtain ⟨b3, off3, rfl, hbl3, hc3⟩ := (r2.below hbq).int (by omega)
          have c3 := hc3 j hjk
          have e3 : nth (xs.drop (k + 1)) j = nth xs (k + 1 + j) := by simp [nth, List.getD]
          rw [e3] at c3
          clear hc3 e3
          by_cases hgt : nth xs (k + 1 + j) < nth xs k
          · go_wp2_with fail
            go_roundw
            case rel => exact ⟨j + 1, by omega, by go_num, int_eq (by rw [← Nat.add_assoc, cntL_hit (by omega) hgt]; omega), hbq⟩
            case measure => simp [intOf]; omega
          · go_wp2_with fail
            go_roundw
            case rel => exact ⟨j + 1, by omega, by go_num, int_eq (by rw [← Nat.add_assoc, cntL_miss hgt]), hbq⟩
            case measure => simp [intOf]; omega
        · obtain rfl : j = n - (k + 1) := by omega
          go_wp2_with fail
          go_roundw
          case rel => exact ⟨k + 1, by omega, by go_num, int_eq (by simp only [sumL]; rw [show k + 1 + (n - (k + 1)) = n by omega]; omega), Below.nx hb hbq⟩
          case measure => simp [intOf]; omega
    · obtain rfl : k = n := by omega
      go_wp2
      go_ret
      exact ⟨ret_int (by rw [sumL_eq]), hb⟩

theorem ci_InversionsOf (a : Option Addr) (n cap : Nat) (xs : List Int) (w : World) (hr : RdI w a n cap xs) :
    Calls Try.prog 14 #[.slice a n cap] w fun e w' => e = .returned (.int .i64 (invV xs)) ∧ Below w.heap.size w w' := by
  have hl := Lib.hid hr.lens
  by_cases h12 : n ≤ 12
  · go_enter Try.func14, Try.ntmps14
    go_wp2_with (go_at_call 32; refine (c_isTwelve true _ _ _ _ (by simpa using h12)).mono ?_; rintro e w' ⟨rfl, rfl⟩)
    refine (c_inversions a n cap xs _ hr h12).mono ?_
    rintro e w' ⟨rfl, hb⟩
    go_wp2
    go_ret
    exact ⟨ret_int (by unfold invV; rw [hl.out, if_pos h12]), hb⟩
  · go_enter Try.func14, Try.ntmps14
    go_wp2_with (go_at_call 32; refine (c_isTwelve false _ _ _ _ (by simpa using h12)).mono ?_; rintro e w' ⟨rfl, rfl⟩)
    go_ret
    exact ⟨ret_int (by unfold invV; rw [hl.out, if_neg h12]), Below.refl _ _⟩

end Go.Proofs.Ytcfpiblgddihmaa

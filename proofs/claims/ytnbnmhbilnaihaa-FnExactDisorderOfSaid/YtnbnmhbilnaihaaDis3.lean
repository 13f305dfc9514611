/- Measures of disorder, third part: the number of parts in order. No condition but lengths. -/
import Derived.Test.YtnbnmhbilnaihaaDis2
import Derived.Test.YtnbnmhbilnaihaaRis
namespace Go.Proofs.Ytnbnmhbilnaihaa
open Go.RowKit

def runsV (xs : List Int) : Int := if xs.length ≤ 12 then (runsTo xs xs.length : Int) else -1

set_option maxHeartbeats 400000 in
theorem cs_RunsOf (a : Option Addr) (n cap : Nat) (xs : List Int) (w : World) (hr : RdI w a n cap xs) :
    Calls Try.prog 19 #[.slice a n cap] w fun e w' => e = .returned (.int .i64 (runsV xs)) ∧ Below w.heap.size w w' := by
  have hl := Lib.hid hr.lens
  by_cases h12 : n ≤ 12
  case neg =>
    go_enter Try.func19, Try.ntmps19
    go_wp2_with (go_at_call 50; refine (c_l19Ok false _ _ _ _ (by simpa using h12)).mono ?_; rintro e w' ⟨rfl, rfl⟩)
    go_ret
    exact ⟨ret_int (by unfold runsV; rw [hl.out, if_neg h12]), Below.refl _ _⟩
  go_enter Try.func19, Try.ntmps19
  go_wp2_with (go_at_call 50; refine (c_l19Ok true _ _ _ _ (by simpa using h12)).mono ?_; rintro e w' ⟨rfl, rfl⟩)
  go_loopw [3, 10] (fun v i wr => ∃ k : Nat, k ≤ n ∧ i = .int .i64 k ∧ v = .int .i64 (runsTo xs k) ∧ Below w.heap.size w wr) (fun _ i _ => n - (intOf i).toNat)
  case atStart => exact ⟨0, by omega, rfl, rfl, Below.refl _ _⟩
  case round =>
    obtain ⟨k, hk, rfl, rfl, hb⟩ := hrel
    have hle := runsTo_le xs k
    by_cases hlt : k < n
    · obtain ⟨b, off, rfl, hbl, hc⟩ := (hr.below hb).int (by omega)
      have c1 := hc k hlt
      have c2 := hc (k - 1) (by omega)
      clear hc
      by_cases hk0 : k = 0
      · have hb0 : ((k : Int) == 0) = true := by simp [hk0]
        have HK := Lib.hid hk0
        clear hk0
        go_wp2_with fail
        go_quiet (fail)
        go_wp2_with fail
        go_roundw
        case rel => exact ⟨k + 1, by omega, by go_num, int_eq (by rw [runsTo_hit (.inl HK.out)]; omega), by first | exact hb | exact hb.trans (below_drewN (Below.refl _ _) _)⟩
        case measure => simp [intOf]; omega
      · have hb0 : ((k : Int) == 0) = false := by simp; omega
        by_cases hgt : nth xs k < nth xs (k - 1)
        · go_wp2_with fail
          go_quiet (fail)
          go_wp2_with fail
          go_roundw
          case rel => exact ⟨k + 1, by omega, by go_num, int_eq (by rw [runsTo_hit (.inr hgt)]; omega), by first | exact hb | exact hb.trans (below_drewN (Below.refl _ _) _)⟩
          case measure => simp [intOf]; omega
        · go_wp2_with fail
          go_quiet (fail)
          go_wp2_with fail
          go_roundw
          case rel => exact ⟨k + 1, by omega, by go_num, int_eq (by rw [runsTo_miss hk0 (by omega)]), by first | exact hb | exact hb.trans (below_drewN (Below.refl _ _) _)⟩
          case measure => simp [intOf]; omega
    · obtain rfl : k = n := by omega
      go_wp2
      go_ret
      exact ⟨ret_int (by unfold runsV; rw [hl.out, if_pos h12]), hb⟩

theorem ci_RunsOf (a : Option Addr) (n cap : Nat) (xs : List Int) (w : World) (hr : RdI w a n cap xs) :
    Calls Try.prog 20 #[.slice a n cap] w fun e w' => e = .returned (.int .i64 (runsV xs)) ∧ Below w.heap.size w w' := by
  have hl := Lib.hid hr.lens
  by_cases h12 : n ≤ 12
  · go_enter Try.func20, Try.ntmps20
    go_wp2_with (go_at_call 52; refine (c_isTwelve true _ _ _ _ (by simpa using h12)).mono ?_; rintro e w' ⟨rfl, rfl⟩)
    refine (c_rising a n cap xs _ hr (by omega)).mono ?_
    rintro e w' ⟨ao, no, co, rfl, ⟨L, cs, og, hex, _⟩, hb⟩
    have hlen : no = runsTo xs n := by rw [← risL_len, ← hex, List.length_map, og.len]
    have HL := Lib.hid hlen
    clear hlen
    go_wp2
    go_ret
    exact ⟨ret_int (by unfold runsV; rw [hl.out, if_pos h12, HL.out]), hb⟩
  · go_enter Try.func20, Try.ntmps20
    go_wp2_with (go_at_call 52; refine (c_isTwelve false _ _ _ _ (by simpa using h12)).mono ?_; rintro e w' ⟨rfl, rfl⟩)
    go_ret
    exact ⟨ret_int (by unfold runsV; rw [hl.out, if_neg h12]), Below.refl _ _⟩

end Go.Proofs.Ytnbnmhbilnaihaa

/- Orders of up to 8 numbers: the program's and the reference's test. No condition. -/
import Derived.Test.YtcfpiblgddihmaaBool
import Derived.Test.YtcfpiblgddihmaaIn
import Derived.Test.YtcfpiblgddihmaaPermL
namespace Go.Proofs.Ytcfpiblgddihmaa
open Go.RowKit

set_option maxHeartbeats 1000000 in
theorem c_isOrder (a : Option Addr) (n cap : Nat) (xs : List Int) (w : World) (hr : RdI w a n cap xs) (hn : n ≤ 8) :
    Calls Try.prog 22 #[.slice a n cap, .int .i64 n] w fun e w' => e = .returned (.bool (okTo xs n n)) ∧ Below w.heap.size w w' := by
  have hmk := run_make_row' (P := Try.prog) 52 4 (.bool false) 1 Try.underlying52 infoBool rfl .i64 .i64 n (by omega) (by omega)
  go_enter Try.func22, Try.ntmps22
  go_wp2
  obtain ⟨wz, rfl⟩ : ∃ wz : World, wz = w := ⟨_, rfl⟩
  have hown : Ow (wz.alloc (.cells (madeCells #[.bool false] n) 4)) 4 [wz.heap.size] (some ⟨wz.heap.size, 0, none⟩) n n (bools (seenTo xs n 0)) := Ow.new' _ _ _ _ _ (size_madeCells _ _) (by rw [toList_madeCells_one]; simp [seenTo, bools]) (by unfold maxLen; omega)
  have hby : Below wz.heap.size wz (wz.alloc (.cells (madeCells #[.bool false] n) 4)) := (Below.refl _ _).alloc (Nat.le_refl _) _
  go_loopw [16] (fun i wr => ∃ k : Nat, k ≤ n ∧ i = .int .i64 k ∧ okTo xs n k = true ∧ Ow wr 4 [wz.heap.size] (some ⟨wz.heap.size, 0, none⟩) n n (bools (seenTo xs n k)) ∧ Below wz.heap.size wz wr) (fun i _ => n - (intOf i).toNat)
  case atStart => exact ⟨0, by omega, rfl, rfl, hown, hby⟩
  case round =>
    obtain ⟨k, hk, rfl, hok, how, hb⟩ := hrel
    have HOK := Lib.hid hok
    clear hok
    by_cases hlt : k < n
    · obtain ⟨b, off, rfl, _, hc⟩ := (hr.below hb).int (by omega)
      have c1 := hc k hlt
      clear hc
      by_cases h0 : nth xs k < 0
      · go_wp2
        go_ret
        exact ⟨by rw [okTo_no (k := k) hlt (okTo_neg h0)]; rfl, by first | exact hb | exact hb.trans (below_drewN (Below.refl _ _) _)⟩
      by_cases h1 : nth xs k < (n : Int)
      case neg =>
        go_wp2
        go_ret
        exact ⟨by rw [okTo_no (k := k) hlt (okTo_big (by omega))]; rfl, by first | exact hb | exact hb.trans (below_drewN (Below.refl _ _) _)⟩
      obtain ⟨q, hq⟩ : ∃ q : Nat, nth xs k = (q : Int) := ⟨(nth xs k).toNat, by omega⟩
      have hqn : q < n := by omega
      rw [hq] at c1
      have HQ := Lib.hid hq
      clear hq h0 h1
      obtain ⟨g, e1, _, hg, hoc, hof⟩ := how.bool (by omega)
      obtain rfl : wz.heap.size = g := by simpa using e1
      have c2 := hoc q hqn
      have f2 := hof q
      clear hoc hof e1
      cases hgq : getB (seenTo xs n k) q
      · rw [hgq] at c2
        have HG := Lib.hid hgq
        clear hgq
        go_wp2
        go_roundw
        case rel => exact ⟨k + 1, by omega, by go_num, okTo_yes HOK.out HQ.out hqn HG.out, by
          have h := how.set q (.bool true)
          rw [bools_set] at h
          simp only [seenTo, HQ.out, Int.toNat_natCast]
          exact h, by first | exact hb.setCell (Nat.le_refl _) _ | exact (hb.trans (below_drewN (Below.refl _ _) _)).setCell (Nat.le_refl _) _⟩
        case measure => simp [intOf]; omega
      · rw [hgq] at c2
        have HG := Lib.hid hgq
        clear hgq
        go_wp2
        go_ret
        exact ⟨by rw [okTo_no (k := k) hlt (okTo_dup HQ.out HG.out)]; rfl, by first | exact hb | exact hb.trans (below_drewN (Below.refl _ _) _)⟩
    · obtain rfl : n = k := by omega
      go_wp2
      go_ret
      exact ⟨by rw [HOK.out]; rfl, hb⟩

theorem c_isShortOrder (a : Option Addr) (n cap : Nat) (xs : List Int) (w : World) (hr : RdI w a n cap xs) :
    Calls Try.prog 29 #[.slice a n cap] w fun e w' => e = .returned (.bool (isPerm xs)) ∧ Below w.heap.size w w' := by
  have hl := hr.lens
  have HL := Lib.hid hl
  clear hl
  by_cases h8 : n ≤ 8
  · go_enter Try.func29, Try.ntmps29
    go_wp2_with (go_at_call 22; refine (c_isOrder _ _ _ _ _ hr h8).mono ?_; rintro e w' ⟨rfl, hb⟩)
    go_ret
    exact ⟨by unfold isPerm; rw [HL.out]; simp [h8], by assumption⟩
  · go_enter Try.func29, Try.ntmps29
    go_wp2
    go_ret
    exact ⟨by unfold isPerm; rw [HL.out]; simp [h8], Below.refl _ _⟩













































































end Go.Proofs.Ytcfpiblgddihmaa

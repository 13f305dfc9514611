/- How often a stack is needed: the program's and the reference's. No condition but lengths. -/
import Derived.Test.YtiiijijbkacneaaStackV
import Derived.Test.YtiiijijbkacneaaRise
namespace Go.Proofs.Ytiiijijbkacneaa
open Go.RowKit
set_option linter.unusedVariables false


theorem ci_StackRounds (a : Option Addr) (n cap : Nat) (xs : List Int) (w : World) (hr : RdI w a n cap xs) :
    Calls Try.prog 10 #[.slice a n cap] w fun e w' => e = .returned (.int .i64 (srV xs)) ∧ Below w.heap.size w w' := by
  have HL := Lib.hid hr.lens
  cases hp : isPerm xs
  · have HV := Lib.hid (show srV xs = -1 by unfold srV; rw [hp]; rfl)
    go_enter Try.func10, Try.ntmps10
    go_wp2_with (go_at_call 32; refine (c_isShortOrder _ _ _ _ _ hr).mono ?_; rw [hp]; rintro e w' ⟨rfl, hb⟩)
    go_ret
    exact ⟨by rw [HV.out]; rfl, by assumption⟩
  have hn := isPerm_len hp
  have HP := Lib.hid hp
  have HV := Lib.hid (show srV xs = (roundsN xs : Int) by unfold srV; rw [hp]; rfl)
  obtain ⟨⟨hR1, hR2⟩, hR3⟩ := roundsN_spec hp
  have HR1 := Lib.hid hR1
  have HR2 := Lib.hid hR2
  clear hR1 hR2
  rw [HL.out] at hn
  generalize roundsN xs = R at HV HR1 HR2 hR3
  go_enter Try.func10, Try.ntmps10
  go_wp2_with fail
  refine (c_isShortOrder _ _ _ _ _ hr).mono ?_
  rw [hp]
  rintro e w1 ⟨rfl, hb0⟩
  clear hp
  go_wp2_with fail
  go_loopw [0, 3] (fun l i wr => ∃ k : Nat, ∃ la lc, k ≤ R ∧ i = .int .i64 k ∧ l = .slice la n lc ∧ RdI wr la n lc (itS xs k) ∧ Below w.heap.size w wr) (fun _ i _ => R - (intOf i).toNat)
  case atStart => exact ⟨0, a, cap, by omega, rfl, rfl, hr.below hb0, hb0⟩
  case round =>
    obtain ⟨k, la, lc, hk, rfl, rfl, hrk, hb⟩ := hrel
    by_cases hlt : k < R
    · have HB := Lib.hid (riseB_no (HR2.out k hlt))
      go_wp2_with fail
      refine (c_IsSorted la n lc _ _ hrk (by omega)).mono ?_
      rw [HB.out]
      rintro e w2 ⟨rfl, hb2⟩
      go_wp2_with fail
      refine (c_stackSort la n lc _ _ (hrk.below hb2) hn).mono ?_
      rintro e w3 ⟨oa, oc, rfl, ow, hb3⟩
      have HIT := Lib.hid (show stF (itS xs k) n = itS xs (k + 1) by rw [itS, itS_len, HL.out])
      go_wp2_with fail
      go_roundw
      case rel => exact ⟨k + 1, oa, oc, by omega, by go_num, rfl, by rw [← HIT.out]; obtain ⟨L, h1, _⟩ := ow; exact h1.rd, Below.nx hb (Below.nx hb2 hb3)⟩
      case measure => simp [intOf]; omega
    · obtain rfl : R = k := by omega
      have HB := Lib.hid (riseB_yes HR1.out)
      go_wp2_with fail
      refine (c_IsSorted la n lc _ _ hrk (by omega)).mono ?_
      rw [HB.out]
      rintro e w2 ⟨rfl, hb2⟩
      go_wp2_with fail
      go_ret
      exact ⟨by rw [HV.out]; rfl, Below.nx hb hb2⟩



























































end Go.Proofs.Ytiiijijbkacneaa

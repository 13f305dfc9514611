/- The cheapest merge: CheapestMerge and MergeDepths by the program, CheapestMerge by the reference. No condition but lengths. -/
import Derived.Test.YtaffokicnabkiaaCheap
import Derived.Test.YtaffokicnabkiaaSort2
namespace Go.Proofs.Ytaffokicnabkiaa
open Go.RowKit
set_option linter.unusedVariables false
set_option linter.unusedSimpArgs false

def chV (xs : List Int) : Int := if okLengthsOk xs = true then hufC xs else -1
def mdV (xs : List Int) : List Int := if okLengthsOk xs = true then hufD xs else []
theorem ok_mem {xs : List Int} (h : okLengthsOk xs = true) : ∀ x ∈ xs, 1 ≤ x ∧ x ≤ 1000 := by
  simp only [okLengthsOk, decide_eq_true_eq] at h; exact h.2

set_option maxHeartbeats 1000000 in
theorem ci_CheapestMerge (a : Option Addr) (n cap : Nat) (xs : List Int) (w : World) (hr : RdI w a n cap xs) :
    Calls Try.prog 12 #[.slice a n cap] w fun e w' => e = .returned (.int .i64 (chV xs)) ∧ Below w.heap.size w w' := by
  have HL := Lib.hid hr.lens
  cases hok : okLengthsOk xs
  · have HV := Lib.hid (show chV xs = -1 by unfold chV; rw [hok]; rfl)
    have HK := Lib.hid hok
    clear hok
    go_enter Try.func12, Try.ntmps12
    go_wp2_with (go_at_call 15; refine (ci_LengthsOk a n cap xs _ hr).mono ?_; rw [HK.out]; rintro e w' ⟨rfl, hb⟩)
    go_ret
    exact ⟨by rw [HV.out]; rfl, by assumption⟩
  · have HV := Lib.hid (show chV xs = hufC xs by unfold chV; rw [hok]; rfl)
    have hat := okLengthsOk_at hok
    rw [HL.out] at hat
    have hm := ok_mem hok
    have HK := Lib.hid hok
    clear hok
    go_enter Try.func12, Try.ntmps12
    go_wp2_with (first | (go_at_call 15; refine (ci_LengthsOk a n cap xs _ hr).mono ?_; rw [HK.out]; rintro e w1 ⟨rfl, hb1⟩) | (go_at_call 33; refine (c_cheapest a n cap xs _ (hr.below hb1) hat.1 hm).mono ?_; rintro e w2 ⟨da, dc, rfl, hod, hb2⟩))
    go_ret
    exact ⟨by rw [HV.out]; rfl, Below.nx hb1 hb2⟩


set_option maxHeartbeats 1000000 in
theorem ci_MergeDepths (a : Option Addr) (n cap : Nat) (xs : List Int) (w : World) (hr : RdI w a n cap xs) :
    Calls Try.prog 14 #[.slice a n cap] w fun e w' => ∃ sa sn sc, e = .returned (.slice sa sn sc) ∧ OwI w' 3 w.heap.size sa sn sc (mdV xs) ∧ sn ≤ 1048576 ∧ Below w.heap.size w w' := by
  have HL := Lib.hid hr.lens
  cases hok : okLengthsOk xs
  · have HV := Lib.hid (show mdV xs = [] by unfold mdV; rw [hok]; rfl)
    have HK := Lib.hid hok
    clear hok
    go_enter Try.func14, Try.ntmps14
    go_wp2_with (go_at_call 15; refine (ci_LengthsOk a n cap xs _ hr).mono ?_; rw [HK.out]; rintro e w' ⟨rfl, hb⟩)
    go_ret
    exact ⟨none, 0, 0, rfl, by rw [HV.out]; exact ⟨[], Ow.bare _ _ _, fun _ h => by cases h⟩, by omega, by assumption⟩
  · have HV := Lib.hid (show mdV xs = hufD xs by unfold mdV; rw [hok]; rfl)
    have hat := okLengthsOk_at hok
    rw [HL.out] at hat
    have hm := ok_mem hok
    have HK := Lib.hid hok
    clear hok
    go_enter Try.func14, Try.ntmps14
    go_wp2_with (first | (go_at_call 15; refine (ci_LengthsOk a n cap xs _ hr).mono ?_; rw [HK.out]; rintro e w1 ⟨rfl, hb1⟩) | (go_at_call 33; refine (c_cheapest a n cap xs _ (hr.below hb1) hat.1 hm).mono ?_; rintro e w2 ⟨da, dc, rfl, hod, hb2⟩))
    go_ret
    exact ⟨da, n, dc, rfl, by rw [HV.out]; exact hod.mono hb1.size, by omega, Below.nx hb1 hb2⟩

def lenR2 (v : Value) : Nat := match v with | .slice _ m _ => m | _ => 0
theorem HI.both_le {n : Nat} {S : Int} {k : Nat} {s : HS} (h : HI n S k s) (h2 : 2 ≤ s.l.length) : 1 ≤ (both s.l).1 ∧ (both s.l).1 ≤ S := by
  have hs := h.step h2
  have hm : both s.l ∈ (hstep s).l := by simp [hstep]
  exact ⟨hs.pos _ hm, hs.low hm⟩

































































































end Go.Proofs.Ytaffokicnabkiaa

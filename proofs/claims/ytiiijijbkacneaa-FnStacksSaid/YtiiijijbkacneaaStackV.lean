/- Sorting with a stack: the program's StackSort, and the words, of both. No condition but lengths. -/
import Derived.Test.YtiiijijbkacneaaStackI
import Derived.Test.YtiiijijbkacneaaStackS
import Derived.Test.YtiiijijbkacneaaCan
namespace Go.Proofs.Ytiiijijbkacneaa
open Go.RowKit
set_option linter.unusedVariables false


theorem ci_StackSort (a : Option Addr) (n cap : Nat) (xs : List Int) (w : World) (hr : RdI w a n cap xs) :
    Calls Try.prog 7 #[.slice a n cap] w fun e w' => ∃ sa sn sc, e = .returned (.slice sa sn sc) ∧ OwI w' 3 w.heap.size sa sn sc (ssV xs) ∧ sn ≤ 1048576 ∧ Below w.heap.size w w' := by
  have HL := Lib.hid hr.lens
  cases hp : isPerm xs
  · have HV := Lib.hid (show ssV xs = [] by unfold ssV; rw [hp]; rfl)
    go_enter Try.func7, Try.ntmps7
    go_wp2_with (go_at_call 32; refine (c_isShortOrder _ _ _ _ _ hr).mono ?_; rw [hp]; rintro e w' ⟨rfl, hb⟩)
    go_ret
    exact ⟨_, _, _, rfl, by rw [HV.out]; exact ⟨[], Ow.bare _ _ _, fun _ h => by cases h⟩, by omega, by assumption⟩
  have hn := isPerm_len hp
  have HV := Lib.hid (show ssV xs = stF xs xs.length by unfold ssV; rw [hp]; rfl)
  rw [HL.out] at hn HV
  go_enter Try.func7, Try.ntmps7
  go_wp2_with fail
  refine (c_isShortOrder _ _ _ _ _ hr).mono ?_
  rw [hp]
  rintro e w1 ⟨rfl, hb⟩
  clear hp
  go_wp2_with fail
  refine (c_stackSort a n cap xs _ (hr.below hb) hn).mono ?_
  rintro e w2 ⟨oa, oc, rfl, ow, hb2⟩
  go_wp2_with fail
  go_ret
  exact ⟨oa, n, oc, rfl, by rw [HV.out]; exact ow.mono hb.size, by omega, Below.nx hb hb2⟩


/-- The word, if a stack can sort the order. -/
noncomputable def swV (xs : List Int) : ByteArray := if canV xs = true then drW (stS xs xs.length).2 (stW xs xs.length) else ⟨#[]⟩
theorem canV_perm {xs : List Int} (h : canV xs = true) : isPerm xs = true := by unfold canV at h; simp only [Bool.and_eq_true] at h; exact h.1


theorem ci_StackWord (a : Option Addr) (n cap : Nat) (xs : List Int) (w : World) (hr : RdI w a n cap xs) :
    Calls Try.prog 9 #[.slice a n cap] w fun e w' => e = .returned (.tuple #[.string (swV xs), .bool (canV xs)]) ∧ Below w.heap.size w w' := by
  have HL := Lib.hid hr.lens
  cases hp : canV xs
  · have HV := Lib.hid (show swV xs = ⟨#[]⟩ by unfold swV; rw [hp]; rfl)
    go_enter Try.func9, Try.ntmps9
    go_wp2_with (go_at_call 8; refine (ci_CanStackSort _ _ _ _ _ hr).mono ?_; rw [hp]; rintro e w' ⟨rfl, hb⟩)
    go_ret2
    exact ⟨by rw [HV.out]; rfl, by assumption⟩
  have hn := isPerm_len (canV_perm hp)
  have HV := Lib.hid (show swV xs = drW (stS xs xs.length).2 (stW xs xs.length) by unfold swV; rw [hp]; rfl)
  rw [HL.out] at hn HV
  go_enter Try.func9, Try.ntmps9
  go_wp2_with fail
  refine (ci_CanStackSort _ _ _ _ _ hr).mono ?_
  rw [hp]
  rintro e w1 ⟨rfl, hb⟩
  clear hp
  go_wp2_with fail
  refine (c_stackSort a n cap xs _ (hr.below hb) hn).mono ?_
  rintro e w2 ⟨oa, oc, rfl, ow, hb2⟩
  go_wp2_with fail
  go_ret2
  exact ⟨by rw [HV.out]; rfl, Below.nx hb hb2⟩
































































































































end Go.Proofs.Ytiiijijbkacneaa

/- Measures of disorder, third part: the number of parts in order. No condition but lengths. -/
import Derived.Test.YtaffokicnabkiaaDis2
import Derived.Test.YtaffokicnabkiaaRis
namespace Go.Proofs.Ytaffokicnabkiaa
open Go.RowKit

def runsV (xs : List Int) : Int := if xs.length ≤ 12 then (runsTo xs xs.length : Int) else -1




















































theorem ci_RunsOf (a : Option Addr) (n cap : Nat) (xs : List Int) (w : World) (hr : RdI w a n cap xs) :
    Calls Try.prog 23 #[.slice a n cap] w fun e w' => e = .returned (.int .i64 (runsV xs)) ∧ Below w.heap.size w w' := by
  have hl := Lib.hid hr.lens
  by_cases h12 : n ≤ 12
  · go_enter Try.func23, Try.ntmps23
    go_wp2_with (go_at_call 43; refine (c_isTwelve true _ _ _ _ (by simpa using h12)).mono ?_; rintro e w' ⟨rfl, rfl⟩)
    refine (c_rising a n cap xs _ hr (by omega)).mono ?_
    rintro e w' ⟨ao, no, co, rfl, ⟨L, cs, og, hex, _⟩, hb⟩
    have hlen : no = runsTo xs n := by rw [← risL_len, ← hex, List.length_map, og.len]
    have HL := Lib.hid hlen
    clear hlen
    go_wp2
    go_ret
    exact ⟨ret_int (by unfold runsV; rw [hl.out, if_pos h12, HL.out]), hb⟩
  · go_enter Try.func23, Try.ntmps23
    go_wp2_with (go_at_call 43; refine (c_isTwelve false _ _ _ _ (by simpa using h12)).mono ?_; rintro e w' ⟨rfl, rfl⟩)
    go_ret
    exact ⟨ret_int (by unfold runsV; rw [hl.out, if_neg h12]), Below.refl _ _⟩

end Go.Proofs.Ytaffokicnabkiaa

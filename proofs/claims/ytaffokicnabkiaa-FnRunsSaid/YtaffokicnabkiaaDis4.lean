/- Measures of disorder, fourth part: the stable order, the farthest move. No condition but lengths. -/
import Derived.Test.YtaffokicnabkiaaDis3
import Derived.Test.YtaffokicnabkiaaStab
import Derived.WalkLawsBesides
namespace Go.Proofs.Ytaffokicnabkiaa
open Go.RowKit

def ordL (xs : List Int) (n : Nat) : List Int := sortTo (ltK xs) (rangeI n) n
def ordV (xs : List Int) : List Int := if xs.length ≤ 12 then sortTo (ltK xs) (rangeI xs.length) xs.length else []
def farTo (o : List Int) : Nat → Int
  | 0 => 0
  | k + 1 => max (farTo o k) (max ((k : Int) - nth o k) (nth o k - k))
def farV (xs : List Int) : Int := if xs.length ≤ 12 then farTo (ordL xs xs.length) xs.length else -1






































































set_option maxHeartbeats 400000 in
theorem ci_FarthestMove (a : Option Addr) (n cap : Nat) (xs : List Int) (w : World) (hr : RdI w a n cap xs) :
    Calls Try.prog 27 #[.slice a n cap] w fun e w' => e = .returned (.int .i64 (farV xs)) ∧ Below w.heap.size w w' := by
  have hl := Lib.hid hr.lens
  by_cases h12 : n ≤ 12
  case neg =>
    go_enter Try.func27, Try.ntmps27
    go_wp2_with (go_at_call 43; refine (c_isTwelve false _ _ _ _ (by simpa using h12)).mono ?_; rintro e w' ⟨rfl, rfl⟩)
    go_ret
    exact ⟨ret_int (by unfold farV; rw [hl.out, if_neg h12]), Below.refl _ _⟩
  go_enter Try.func27, Try.ntmps27
  go_wp2_with (go_at_call 43; refine (c_isTwelve true _ _ _ _ (by simpa using h12)).mono ?_; rintro e w' ⟨rfl, rfl⟩)
  refine (c_stable a n cap xs _ hr (by omega)).mono ?_
  rintro e w1 ⟨ai, ci, rfl, ⟨L, ho, hnew⟩, hb1⟩
  have hrd := ho.rd
  go_wp2_with fail
  go_loopw [3, 12] (fun v i wr => ∃ k : Nat, k ≤ n ∧ i = .int .i64 k ∧ v = .int .i64 (farTo (ordL xs n) k) ∧ Below w1.heap.size w1 wr) (fun _ i _ => n - (intOf i).toNat)
  case atStart => exact ⟨0, by omega, rfl, rfl, Below.refl _ _⟩
  case round =>
    obtain ⟨k, hk, rfl, rfl, hb⟩ := hrel
    by_cases hlt : k < n
    · obtain ⟨b, off, rfl, hbl, hc⟩ := (hrd.below hb).int (by omega)
      have c1 := hc k hlt
      obtain ⟨p, hp, hpe⟩ := pos_of (lt := ltK xs) (n := n) (k := n) (j := k) (by omega) (by omega)
      rw [hpe] at c1
      have HPE := Lib.hid hpe
      clear hc hpe
      go_wp2
      all_goals
        go_roundw
        case rel => exact ⟨k + 1, by omega, by go_num, int_eq (by simp only [farTo, ordL]; rw [HPE.out]; (repeat' split) <;> omega), hb⟩
        case measure => simp [intOf]; omega
    · obtain rfl : k = n := by omega
      go_wp2
      go_ret
      exact ⟨ret_int (by unfold farV; rw [hl.out, if_pos h12]), Below.nx hb1 hb⟩

end Go.Proofs.Ytaffokicnabkiaa

/- The first numbers of an order the other way round. No condition but lengths. -/
import Derived.Test.YtfnkddplmpcbgaaFlip
import Derived.Test.YtfnkddplmpcbgaaPerm
namespace Go.Proofs.Ytfnkddplmpcbgaa
open Go.RowKit

def fpB (xs : List Int) (k : Int) : Bool := isPerm xs && decide (0 ≤ k ∧ k ≤ xs.length)
def fpL (xs : List Int) (k : Int) : List Int := if fpB xs k = true then flipL xs k.toNat else []
theorem fp_no {xs : List Int} {k : Int} (h : ¬ (isPerm xs = true ∧ 0 ≤ k ∧ k ≤ xs.length)) : fpB xs k = false ∧ fpL xs k = [] := by
  have e : fpB xs k = false := by
    cases hp : isPerm xs
    · simp [fpB, hp]
    · have : ¬ (0 ≤ k ∧ k ≤ (xs.length : Int)) := fun h2 => h ⟨hp, h2⟩
      unfold fpB; rw [hp, decide_eq_false this]; rfl
  exact ⟨e, by unfold fpL; rw [e]; rfl⟩
theorem fp_yes {xs : List Int} {k : Nat} (h : isPerm xs = true) (hk : k ≤ xs.length) : fpB xs (k : Int) = true ∧ fpL xs (k : Int) = flipL xs k := by
  have e : fpB xs (k : Int) = true := by unfold fpB; rw [h, decide_eq_true (by omega)]; rfl
  exact ⟨e, by unfold fpL; rw [e]; rfl⟩



































set_option maxHeartbeats 400000 in
theorem ci_FlipPrefix (a : Option Addr) (n cap : Nat) (xs : List Int) (k : Int) (w : World) (hr : RdI w a n cap xs) :
    Calls Try.prog 26 #[.slice a n cap, .int .i64 k] w fun e w' => ∃ sa sn sc, e = .returned (.tuple #[.slice sa sn sc, .bool (fpB xs k)]) ∧ OwI w' 3 w.heap.size sa sn sc (fpL xs k) ∧ sn ≤ 1048576 ∧ Below w.heap.size w w' := by
  have HL := Lib.hid hr.lens
  cases hp : isPerm xs
  · have HN := Lib.hid (fp_no (k := k) (fun h => by rw [hp] at h; cases h.1))
    go_enter Try.func26, Try.ntmps26
    go_wp2_with (go_at_call 40; refine (c_isShortOrder _ _ _ _ _ hr).mono ?_; rw [hp]; rintro e w1 ⟨rfl, hb⟩)
    go_ret2
    exact ⟨_, _, _, by rw [HN.out.1]; rfl, by rw [HN.out.2]; exact ⟨[], Ow.bare _ _ _, fun _ h => (by cases h)⟩, by omega, by assumption⟩
  have hn := isPerm_len hp
  rw [HL.out] at hn
  by_cases hk : 0 ≤ k ∧ k ≤ (n : Int)
  case neg =>
    have HN := Lib.hid (fp_no (xs := xs) (k := k) (fun h => by rw [HL.out] at h; exact hk ⟨h.2.1, h.2.2⟩))
    by_cases hk0 : k < 0
    all_goals
      go_enter Try.func26, Try.ntmps26
      go_wp2_with (first | (go_at_call 40; refine (c_isShortOrder _ _ _ _ _ hr).mono ?_; rw [hp]; rintro e w1 ⟨rfl, hb⟩))
      go_ret2
      exact ⟨_, _, _, by rw [HN.out.1]; rfl, by rw [HN.out.2]; exact ⟨[], Ow.bare _ _ _, fun _ h => (by cases h)⟩, by omega, by assumption⟩
  obtain ⟨m, rfl⟩ : ∃ m : Nat, k = m := ⟨k.toNat, by omega⟩
  have FY := Lib.hid (fp_yes (xs := xs) (k := m) hp (by rw [HL.out]; omega))
  have FL := Lib.hid FY.out.2
  have FB := Lib.hid FY.out.1
  clear FY
  go_enter Try.func26, Try.ntmps26
  go_wp2_with (first | (go_at_call 40; refine (c_isShortOrder _ _ _ _ _ hr).mono ?_; rw [hp]; rintro e w1 ⟨rfl, hb⟩))
  refine (c_flip a n cap m xs _ (hr.below hb) hn (by omega)).mono ?_
  rintro e w2 ⟨a2, cap2, rfl, ⟨L2, ow2, n2⟩, b2⟩
  go_wp2_with fail
  go_ret2
  exact ⟨a2, n, cap2, by rw [FB.out]; rfl, ⟨L2, by rw [FL.out]; exact ow2, n2.mono hb.size⟩, by omega, Below.nx hb b2⟩

end Go.Proofs.Ytfnkddplmpcbgaa

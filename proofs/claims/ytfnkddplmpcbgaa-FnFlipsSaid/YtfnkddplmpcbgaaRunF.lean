/- Flips one after the other. No condition but lengths. -/
import Derived.Test.YtfnkddplmpcbgaaFlip
import Derived.Test.YtfnkddplmpcbgaaPerm
namespace Go.Proofs.Ytfnkddplmpcbgaa
open Go.RowKit

def flips (xs ys : List Int) : Nat → List Int
  | 0 => xs
  | k + 1 => flipL (flips xs ys k) (nth ys k).toNat
open Classical in
noncomputable def rfB (xs ys : List Int) : Bool := decide (isPerm xs = true ∧ ys.length ≤ 40 ∧ ∀ j, j < ys.length → 0 ≤ nth ys j ∧ nth ys j ≤ xs.length)
noncomputable def rfL (xs ys : List Int) : List Int := if rfB xs ys = true then flips xs ys ys.length else []
open Classical in
theorem rf_no {xs ys : List Int} (h : ¬ (isPerm xs = true ∧ ys.length ≤ 40 ∧ ∀ j, j < ys.length → 0 ≤ nth ys j ∧ nth ys j ≤ xs.length)) : rfB xs ys = false ∧ rfL xs ys = [] := by
  have e : rfB xs ys = false := by unfold rfB; exact decide_eq_false h
  exact ⟨e, by unfold rfL; rw [e]; rfl⟩
open Classical in
theorem rf_yes {xs ys : List Int} (h1 : isPerm xs = true) (h2 : ys.length ≤ 40) (h3 : ∀ j, j < ys.length → 0 ≤ nth ys j ∧ nth ys j ≤ xs.length) : rfB xs ys = true ∧ rfL xs ys = flips xs ys ys.length := by
  have e : rfB xs ys = true := by unfold rfB; exact decide_eq_true ⟨h1, h2, h3⟩
  exact ⟨e, by unfold rfL; rw [e]; rfl⟩



















































































set_option maxHeartbeats 1000000 in
theorem ci_RunFlips (a : Option Addr) (n cap : Nat) (xs : List Int) (a' : Option Addr) (n' cap' : Nat) (ys : List Int) (w : World) (hr : RdI w a n cap xs) (hr' : RdI w a' n' cap' ys) :
    Calls Try.prog 23 #[.slice a n cap, .slice a' n' cap'] w fun e w' => ∃ sa sn sc, e = .returned (.tuple #[.slice sa sn sc, .bool (rfB xs ys)]) ∧ OwI w' 3 w.heap.size sa sn sc (rfL xs ys) ∧ sn ≤ 1048576 ∧ Below w.heap.size w w' := by
  have HL := Lib.hid hr.lens
  have HL' := Lib.hid hr'.lens
  cases hp : isPerm xs
  · have HN := Lib.hid (rf_no (xs := xs) (ys := ys) (fun h => by rw [hp] at h; cases h.1))
    go_enter Try.func23, Try.ntmps23
    go_wp2_with (go_at_call 40; refine (c_isShortOrder _ _ _ _ _ hr).mono ?_; rw [hp]; rintro e w1 ⟨rfl, hb⟩)
    go_ret2
    exact ⟨_, _, _, by rw [HN.out.1]; rfl, by rw [HN.out.2]; exact ⟨[], Ow.bare _ _ _, fun _ h => (by cases h)⟩, by omega, by assumption⟩
  have hn := isPerm_len hp
  rw [HL.out] at hn
  by_cases h40 : n' ≤ 40
  case neg =>
    have HN := Lib.hid (rf_no (xs := xs) (ys := ys) (fun h => by rw [HL'.out] at h; exact h40 h.2.1))
    go_enter Try.func23, Try.ntmps23
    go_wp2_with (go_at_call 40; refine (c_isShortOrder _ _ _ _ _ hr).mono ?_; rw [hp]; rintro e w1 ⟨rfl, hb⟩)
    go_ret2
    exact ⟨_, _, _, by rw [HN.out.1]; rfl, by rw [HN.out.2]; exact ⟨[], Ow.bare _ _ _, fun _ h => (by cases h)⟩, by omega, by assumption⟩
  have HP := Lib.hid hp
  go_enter Try.func23, Try.ntmps23
  go_wp2_with fail
  refine (c_isShortOrder _ _ _ _ _ hr).mono ?_
  rw [hp]
  rintro e w1 ⟨rfl, hb⟩
  clear hp
  go_wp2_with fail
  refine (c_Clone a n cap xs _ (hr.below hb) (by omega)).mono ?_
  rintro e w2 ⟨a1, cap1, rfl, ⟨L1, ow1, n1⟩, b2⟩
  go_wp2_with fail
  go_loopw [6, 21] (fun l i wr => ∃ k : Nat, ∃ L la lc, k ≤ n' ∧ i = .int .i64 k ∧ l = .slice la n lc ∧ (∀ j, j < k → 0 ≤ nth ys j ∧ nth ys j ≤ n) ∧ Ow wr 3 L la n lc (ints (flips xs ys k)) ∧ New w1.heap.size L ∧ Below w1.heap.size w1 wr) (fun _ i _ => n' - (intOf i).toNat)
  case atStart => exact ⟨0, L1, a1, cap1, by omega, rfl, rfl, fun j h => absurd h (by omega), ow1, n1, b2⟩
  case round =>
    obtain ⟨k, L, la, lc, hk, rfl, rfl, hin, how, hnew, hb2⟩ := hrel
    have HIN := Lib.hid hin
    clear hin
    by_cases hlt : k < n'
    · obtain ⟨b, off, rfl, hbl, hc⟩ := ((hr'.below hb).below hb2).int (by omega)
      have c1 := hc k hlt
      clear hc
      by_cases hk0 : nth ys k < 0
      · have HN := Lib.hid (rf_no (xs := xs) (ys := ys) (fun h => by have := h.2.2 k (by rw [HL'.out]; exact hlt); omega))
        go_wp2_with fail
        go_ret2
        exact ⟨_, _, _, by rw [HN.out.1]; rfl, by rw [HN.out.2]; exact ⟨[], Ow.bare _ _ _, fun _ h => (by cases h)⟩, by omega, Below.nx hb hb2⟩
      by_cases hk1 : nth ys k ≤ (n : Int)
      case neg =>
        have HN := Lib.hid (rf_no (xs := xs) (ys := ys) (fun h => by have := h.2.2 k (by rw [HL'.out]; exact hlt); rw [HL.out] at this; omega))
        go_wp2_with fail
        go_ret2
        exact ⟨_, _, _, by rw [HN.out.1]; rfl, by rw [HN.out.2]; exact ⟨[], Ow.bare _ _ _, fun _ h => (by cases h)⟩, by omega, Below.nx hb hb2⟩
      obtain ⟨m, hm⟩ : ∃ m : Nat, nth ys k = m := ⟨(nth ys k).toNat, by omega⟩
      rw [hm] at c1
      have HM := Lib.hid hm
      have hmn : m ≤ n := by omega
      clear hm hk0 hk1
      go_wp2_with fail
      refine (c_flip la n lc m _ _ how.rd hn (by omega)).mono ?_
      rintro e w4 ⟨a2, cap2, rfl, ⟨L2, ow2, n2⟩, b4⟩
      go_wp2_with fail
      go_roundw
      case rel => exact ⟨k + 1, L2, a2, cap2, by omega, by go_num, rfl, fun j h => by
        rcases Nat.lt_or_ge j k with h1 | h1
        · exact HIN.out j h1
        · obtain rfl : j = k := by omega
          rw [HM.out]; omega, by simp only [flips]; rw [HM.out, Int.toNat_natCast]; exact ow2, n2.mono hb2.size, Below.nx hb2 b4⟩
      case measure => simp [intOf]; omega
    · obtain rfl : n' = k := by omega
      have FY := Lib.hid (rf_yes (xs := xs) (ys := ys) HP.out (by rw [HL'.out]; omega) (fun j h => by rw [HL'.out] at h; rw [HL.out]; exact HIN.out j h))
      have FL := Lib.hid FY.out.2
      have FB := Lib.hid FY.out.1
      clear FY
      rw [← HL'.out] at how
      go_wp2_with fail
      go_ret2
      exact ⟨la, n, lc, by rw [FB.out]; rfl, ⟨L, by rw [FL.out]; exact how, hnew.mono (by have := hb.size; have := b2.size; omega)⟩, by omega, Below.nx hb hb2⟩

end Go.Proofs.Ytfnkddplmpcbgaa

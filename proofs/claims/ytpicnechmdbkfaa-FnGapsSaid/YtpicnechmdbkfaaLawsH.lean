/- The laws' own helpers: the sum of a list, whether it rises, the parity. No condition but lengths and sizes. -/
import Derived.Test.YtpicnechmdbkfaaDisoV
namespace Go.Proofs.Ytpicnechmdbkfaa
open Go.RowKit
set_option linter.unusedVariables false


theorem c_sum (a : Option Addr) (n cap : Nat) (xs : List Int) (w : World) (hr : RdI w a n cap xs) (hb : ∀ k, k ≤ n → -1099511627776 ≤ sumI xs k ∧ sumI xs k ≤ 1099511627776) :
    Calls Try.prog 9 #[.slice a n cap] w fun e w' => e = .returned (.int .i64 (sumI xs n)) ∧ Below w.heap.size w w' := by
  have HB := Lib.hid hb
  clear hb
  go_enter Try.func9, Try.ntmps9
  go_wp2_with fail
  go_loopw [3, 8] (fun v i wr => ∃ k : Nat, k ≤ n ∧ i = .int .i64 k ∧ v = .int .i64 (sumI xs k) ∧ Below w.heap.size w wr) (fun _ i _ => n - (intOf i).toNat)
  case atStart => exact ⟨0, by omega, rfl, rfl, Below.refl _ _⟩
  case round =>
    obtain ⟨k, hk, rfl, rfl, hbw⟩ := hrel
    by_cases hlt : k < n
    · obtain ⟨b, off, rfl, hbl, hc⟩ := (hr.below hbw).int (by omega)
      have c1 := hc k hlt
      clear hc
      have h1 := HB.out k (by omega)
      have h2 := HB.out (k + 1) (by omega)
      simp only [sumI] at h2
      obtain ⟨s, hs⟩ : ∃ s, sumI xs k = s := ⟨_, rfl⟩
      obtain ⟨x, hx⟩ : ∃ x, nth xs k = x := ⟨_, rfl⟩
      rw [hs] at h1 h2 ⊢
      rw [hx] at h2 c1
      have HE := Lib.hid (show sumI xs (k + 1) = s + x by simp only [sumI]; rw [hs, hx])
      have hm := hr.max
      have hle := hr.le
      unfold maxLen at hm
      clear hs hx
      go_wp2_with fail
      go_roundw
      case rel => exact ⟨k + 1, by omega, by go_num, int_eq (by rw [HE.out]), hbw⟩
      case measure => simp [intOf]; omega
    · obtain rfl : k = n := by omega
      go_wp2_with fail
      go_ret
      exact ⟨rfl, hbw⟩



def rsB (xs : List Int) : Bool := decide (sumC xs xs.length = 0)
theorem c_rises (a : Option Addr) (n cap : Nat) (xs : List Int) (w : World) (hr : RdI w a n cap xs) (hn : n ≤ 1000) :
    Calls Try.prog 14 #[.slice a n cap] w fun e w' => e = .returned (.bool (rsB xs)) ∧ Below w.heap.size w w' := by
  have HL := Lib.hid hr.lens
  go_enter Try.func14, Try.ntmps14
  go_wp2
  go_loopw [3] (fun i wr => ∃ k : Nat, 1 ≤ k ∧ i = .int .i64 k ∧ (∀ j, j + 1 < k → nth xs j ≤ nth xs (j + 1)) ∧ Below w.heap.size w wr) (fun i _ => n - (intOf i).toNat)
  case atStart => exact ⟨1, by omega, rfl, fun j h => by omega, Below.refl _ _⟩
  case round =>
    obtain ⟨k, hk1, rfl, hno, hb⟩ := hrel
    have HNO := Lib.hid hno
    clear hno
    by_cases hlt : k < n
    · obtain ⟨b, off, rfl, _, hc⟩ := (hr.below hb).int (by omega)
      have c1 := hc k hlt
      have c2 := hc (k - 1) (by omega)
      clear hc
      by_cases hgt : nth xs k < nth xs (k - 1)
      · have HV := Lib.hid (show rsB xs = false by
          have := sumC_pos (xs := xs) (n := xs.length) (i := k - 1) (by rw [HL.out]; omega) (by rw [show k - 1 + 1 = k by omega]; exact hgt)
          simp [rsB]; omega)
        go_wp2_with fail
        go_quiet (fail)
        go_wp2_with fail
        go_ret
        exact ⟨by rw [HV.out]; rfl, by first | exact hb | exact hb.trans (below_drewN (Below.refl _ _) _)⟩
      · go_wp2_with fail
        go_quiet (fail)
        go_wp2_with fail
        go_roundw
        case rel => exact ⟨k + 1, by omega, by go_num, fun j hj => by
          rcases Nat.lt_or_ge (j + 1) k with h1 | h1
          · exact HNO.out j h1
          · obtain rfl : k = j + 1 := by omega
            rw [show j + 1 - 1 = j by omega] at hgt; omega, by first | exact hb | exact hb.trans (below_drewN (Below.refl _ _) _)⟩
        case measure => simp [intOf]; omega
    · have HV := Lib.hid (show rsB xs = true by
        have := sumC_zero (xs := xs) (n := xs.length) (fun j hj => HNO.out j (by rw [HL.out] at hj; omega))
        simp [rsB, this])
      go_wp2
      go_ret
      exact ⟨by rw [HV.out]; rfl, hb⟩


theorem rem_two (n : Nat) : Int.tmod (n : Int) 2 = ((n % 2 : Nat) : Int) := by
  rw [Int.tmod_eq_emod_of_nonneg (by omega)]; omega


theorem ci_ParityOf (a : Option Addr) (n cap : Nat) (q : List Int) (w : World) (hr : RdI w a n cap q) (hp : isPerm q = true) :
    Calls Try.prog 23 #[.slice a n cap] w fun e w' => e = .returned (.int .i64 ((sumC q n % 2 : Nat) : Int)) ∧ Below w.heap.size w w' := by
  have hl := hr.lens
  have h8 := isPerm_len hp
  rw [hl] at h8
  have C1 := c_isShortOrder a n cap q w hr
  rw [hp] at C1
  have C1 := Lib.hid C1
  clear hl hp
  go_enter Try.func23, Try.ntmps23
  go_wp2_with fail
  refine C1.out.mono ?_
  rintro e w1 ⟨rfl, b1⟩
  clear C1
  have C2 := Lib.hid (c_inversions a n cap q w1 (hr.below b1) (by omega))
  go_wp2_with fail
  refine C2.out.mono ?_
  rintro e w2 ⟨rfl, b2⟩
  clear C2
  obtain ⟨s, hs⟩ : ∃ s, sumC q n = s := ⟨_, rfl⟩
  obtain ⟨m, hm⟩ : ∃ m, s % 2 = m := ⟨_, rfl⟩
  have hr2 : Int.tmod (s : Int) 2 = (m : Int) := by rw [rem_two s, hm]
  have HM := Lib.hid (show sumC q n % 2 = m by rw [hs, hm])
  rw [hs]
  clear hs hm
  go_wp2_with fail
  go_ret
  exact ⟨ret_int (by rw [HM.out]), Below.nx b1 b2⟩


end Go.Proofs.Ytpicnechmdbkfaa

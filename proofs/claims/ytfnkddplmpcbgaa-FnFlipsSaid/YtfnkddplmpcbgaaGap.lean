/- Gaps between neighbors. No condition. -/
import Derived.Test.YtfnkddplmpcbgaaPerm
import Derived.Test.YtfnkddplmpcbgaaDrew
namespace Go.Proofs.Ytfnkddplmpcbgaa
open Go.RowKit

def nxt (xs : List Int) (n j : Nat) : Int := if j + 1 < n then nth xs (j + 1) else n
def gapC (xs : List Int) (n : Nat) : Nat → Nat
  | 0 => 0
  | k + 1 => if nth xs k - nxt xs n k ≠ 1 ∧ nxt xs n k - nth xs k ≠ 1 then gapC xs n k + 1 else gapC xs n k
theorem gapC_yes {xs : List Int} {n k : Nat} (h : nth xs k - nxt xs n k ≠ 1 ∧ nxt xs n k - nth xs k ≠ 1) : gapC xs n (k + 1) = gapC xs n k + 1 := by rw [gapC, if_pos h]
theorem gapC_no {xs : List Int} {n k : Nat} (h : ¬ (nth xs k - nxt xs n k ≠ 1 ∧ nxt xs n k - nth xs k ≠ 1)) : gapC xs n (k + 1) = gapC xs n k := by rw [gapC, if_neg h]
theorem gapC_le (xs : List Int) (n k : Nat) : gapC xs n k ≤ k := by
  induction k with
  | zero => simp [gapC]
  | succ k ih => rw [gapC]; split <;> omega
def gapV (xs : List Int) : Int := if isPerm xs = true then gapC xs xs.length xs.length else -1


set_option maxHeartbeats 1000000 in
theorem c_l22Gaps (a : Option Addr) (n cap : Nat) (xs : List Int) (w : World) (hr : RdI w a n cap xs) (hn : n ≤ 8) (hx : ∀ j, j < n → 0 ≤ nth xs j ∧ nth xs j < n) :
    Calls Try.prog 48 #[.slice a n cap] w fun e w' => e = .returned (.int .i64 (gapC xs n n)) ∧ Dr w w' := by
  go_enter Try.func48, Try.ntmps48
  go_wp2
  obtain ⟨w0, rfl⟩ : ∃ w0 : World, w0 = w := ⟨_, rfl⟩

  go_loopw [3, 9] (fun v i wr => ∃ k : Nat, k ≤ n ∧ i = .int .i64 k ∧ v = .int .i64 (gapC xs n k) ∧ Dr w0 wr) (fun _ i _ => n - (intOf i).toNat)
  case atStart => exact ⟨0, by omega, rfl, rfl, Dr.refl _⟩
  case round =>
    obtain ⟨k, hk, rfl, rfl, ⟨m, hwr⟩⟩ := hrel
    have HWR := Lib.hid hwr
    clear hwr
    have hgl := gapC_le xs n k
    by_cases hlt : k < n
    · obtain ⟨b, off, rfl, _, hc⟩ := (show RdI wr a n cap xs by rw [HWR.out]; exact hr.drewN m).int (by omega)
      have c1 := hc k hlt
      have b1 := hx k hlt
      by_cases h1 : k + 1 < n
      · have c2 := hc (k + 1) h1
        have b2 := hx (k + 1) h1
        clear hc
        by_cases h2 : nth xs k - nth xs (k + 1) = 1
        · have hg : gapC xs n (k + 1) = gapC xs n k := gapC_no (by unfold nxt; rw [if_pos h1]; omega)
          have HG := Lib.hid hg
          clear hg
          go_wp2
          try go_quiet (fail)
          try go_wp2
          all_goals
            go_roundw
            case rel => exact ⟨k + 1, by omega, by go_num, int_eq (by first | (rw [HG.out]; done) | (rw [HG.out]; simp; done) | (exfalso; simp_all; done) | (exfalso; simp_all; omega)), by first | exact ⟨m, HWR.out⟩ | exact Dr.step ⟨m, HWR.out⟩ _⟩
            case measure => simp [intOf]; omega
        · by_cases h3 : nth xs (k + 1) - nth xs k = 1
          · have hg : gapC xs n (k + 1) = gapC xs n k := gapC_no (by unfold nxt; rw [if_pos h1]; omega)
            have HG := Lib.hid hg
            clear hg
            go_wp2
            try go_quiet (fail)
            try go_wp2
            all_goals
              go_roundw
              case rel => exact ⟨k + 1, by omega, by go_num, int_eq (by first | (rw [HG.out]; done) | (rw [HG.out]; simp; done) | (exfalso; simp_all; done) | (exfalso; simp_all; omega)), by first | exact ⟨m, HWR.out⟩ | exact Dr.step ⟨m, HWR.out⟩ _⟩
              case measure => simp [intOf]; omega
          · have hg : gapC xs n (k + 1) = gapC xs n k + 1 := gapC_yes (by unfold nxt; rw [if_pos h1]; omega)
            have HG := Lib.hid hg
            clear hg
            go_wp2
            try go_quiet (fail)
            try go_wp2
            all_goals
              go_roundw
              case rel => exact ⟨k + 1, by omega, by go_num, int_eq (by first | (rw [HG.out]; done) | (rw [HG.out]; simp; done) | (exfalso; simp_all; done) | (exfalso; simp_all; omega)), by first | exact ⟨m, HWR.out⟩ | exact Dr.step ⟨m, HWR.out⟩ _⟩
              case measure => simp [intOf]; omega
      · have hkn : k + 1 = n := by omega
        have hkn2 : (k : Int) + 1 = n := by omega
        clear hc
        by_cases h2 : nth xs k - (n : Int) = 1
        · have hg : gapC xs n (k + 1) = gapC xs n k := gapC_no (by unfold nxt; rw [if_neg h1]; omega)
          have HG := Lib.hid hg
          clear hg
          go_wp2
          try go_quiet (fail)
          try go_wp2
          all_goals
            go_roundw
            case rel => exact ⟨k + 1, by omega, by go_num, int_eq (by first | (rw [HG.out]; done) | (rw [HG.out]; simp; done) | (exfalso; simp_all; done) | (exfalso; simp_all; omega)), by first | exact ⟨m, HWR.out⟩ | exact Dr.step ⟨m, HWR.out⟩ _⟩
            case measure => simp [intOf]; omega
        · by_cases h3 : (n : Int) - nth xs k = 1
          · have hg : gapC xs n (k + 1) = gapC xs n k := gapC_no (by unfold nxt; rw [if_neg h1]; omega)
            have HG := Lib.hid hg
            clear hg
            go_wp2
            try go_quiet (fail)
            try go_wp2
            all_goals
              go_roundw
              case rel => exact ⟨k + 1, by omega, by go_num, int_eq (by first | (rw [HG.out]; done) | (rw [HG.out]; simp; done) | (exfalso; simp_all; done) | (exfalso; simp_all; omega)), by first | exact ⟨m, HWR.out⟩ | exact Dr.step ⟨m, HWR.out⟩ _⟩
              case measure => simp [intOf]; omega
          · have hg : gapC xs n (k + 1) = gapC xs n k + 1 := gapC_yes (by unfold nxt; rw [if_neg h1]; omega)
            have HG := Lib.hid hg
            clear hg
            go_wp2
            try go_quiet (fail)
            try go_wp2
            all_goals
              go_roundw
              case rel => exact ⟨k + 1, by omega, by go_num, int_eq (by first | (rw [HG.out]; done) | (rw [HG.out]; simp; done) | (exfalso; simp_all; done) | (exfalso; simp_all; omega)), by first | exact ⟨m, HWR.out⟩ | exact Dr.step ⟨m, HWR.out⟩ _⟩
              case measure => simp [intOf]; omega
    · obtain rfl : n = k := by omega
      go_wp2
      go_ret
      exact ⟨rfl, ⟨m, HWR.out⟩⟩






























set_option maxHeartbeats 1000000 in
theorem ci_GapsOf (a : Option Addr) (n cap : Nat) (xs : List Int) (w : World) (hr0 : RdI w a n cap xs) :
    Calls Try.prog 25 #[.slice a n cap] w fun e w' => e = .returned (.int .i64 (gapV xs)) ∧ Below w.heap.size w w' := by
  have HL := Lib.hid hr0.lens
  cases hp : isPerm xs
  · have HP := Lib.hid hp
    go_enter Try.func25, Try.ntmps25
    go_wp2_with (go_at_call 40; refine (c_isShortOrder _ _ _ _ _ hr0).mono ?_; rw [hp]; rintro e w' ⟨rfl, hb⟩)
    go_ret
    exact ⟨ret_int (by unfold gapV; rw [HP.out]; rfl), by assumption⟩
  have HP := Lib.hid hp
  have hn := isPerm_len hp
  have hx := fun j => isPerm_bd hp j
  rw [HL.out] at hn hx
  go_enter Try.func25, Try.ntmps25
  go_wp2_with fail
  refine (c_isShortOrder _ _ _ _ _ hr0).mono ?_
  rw [hp]
  rintro e w0 ⟨rfl, hb⟩
  have hr := hr0.below hb
  clear hp
  go_wp2_with fail

  go_loopw [3, 12] (fun v i wr => ∃ k : Nat, k ≤ n ∧ i = .int .i64 k ∧ v = .int .i64 (gapC xs n k) ∧ Dr w0 wr) (fun _ i _ => n - (intOf i).toNat)
  case atStart => exact ⟨0, by omega, rfl, rfl, Dr.refl _⟩
  case round =>
    obtain ⟨k, hk, rfl, rfl, ⟨m, hwr⟩⟩ := hrel
    have HWR := Lib.hid hwr
    clear hwr
    have hgl := gapC_le xs n k
    by_cases hlt : k < n
    · obtain ⟨b, off, rfl, _, hc⟩ := (show RdI wr a n cap xs by rw [HWR.out]; exact hr.drewN m).int (by omega)
      have c1 := hc k hlt
      have b1 := hx k hlt
      by_cases h1 : k + 1 < n
      · have c2 := hc (k + 1) h1
        have b2 := hx (k + 1) h1
        clear hc
        by_cases h2 : nth xs k - nth xs (k + 1) = 1
        · have hg : gapC xs n (k + 1) = gapC xs n k := gapC_no (by unfold nxt; rw [if_pos h1]; omega)
          have HG := Lib.hid hg
          clear hg
          go_wp2
          try go_quiet (fail)
          try go_wp2
          all_goals
            go_roundw
            case rel => exact ⟨k + 1, by omega, by go_num, int_eq (by first | (rw [HG.out]; done) | (rw [HG.out]; simp; done) | (exfalso; simp_all; done) | (exfalso; simp_all; omega)), by first | exact ⟨m, HWR.out⟩ | exact Dr.step ⟨m, HWR.out⟩ _⟩
            case measure => simp [intOf]; omega
        · by_cases h3 : nth xs (k + 1) - nth xs k = 1
          · have hg : gapC xs n (k + 1) = gapC xs n k := gapC_no (by unfold nxt; rw [if_pos h1]; omega)
            have HG := Lib.hid hg
            clear hg
            go_wp2
            try go_quiet (fail)
            try go_wp2
            all_goals
              go_roundw
              case rel => exact ⟨k + 1, by omega, by go_num, int_eq (by first | (rw [HG.out]; done) | (rw [HG.out]; simp; done) | (exfalso; simp_all; done) | (exfalso; simp_all; omega)), by first | exact ⟨m, HWR.out⟩ | exact Dr.step ⟨m, HWR.out⟩ _⟩
              case measure => simp [intOf]; omega
          · have hg : gapC xs n (k + 1) = gapC xs n k + 1 := gapC_yes (by unfold nxt; rw [if_pos h1]; omega)
            have HG := Lib.hid hg
            clear hg
            go_wp2
            try go_quiet (fail)
            try go_wp2
            all_goals
              go_roundw
              case rel => exact ⟨k + 1, by omega, by go_num, int_eq (by first | (rw [HG.out]; done) | (rw [HG.out]; simp; done) | (exfalso; simp_all; done) | (exfalso; simp_all; omega)), by first | exact ⟨m, HWR.out⟩ | exact Dr.step ⟨m, HWR.out⟩ _⟩
              case measure => simp [intOf]; omega
      · have hkn : k + 1 = n := by omega
        have hkn2 : (k : Int) + 1 = n := by omega
        clear hc
        by_cases h2 : nth xs k - (n : Int) = 1
        · have hg : gapC xs n (k + 1) = gapC xs n k := gapC_no (by unfold nxt; rw [if_neg h1]; omega)
          have HG := Lib.hid hg
          clear hg
          go_wp2
          try go_quiet (fail)
          try go_wp2
          all_goals
            go_roundw
            case rel => exact ⟨k + 1, by omega, by go_num, int_eq (by first | (rw [HG.out]; done) | (rw [HG.out]; simp; done) | (exfalso; simp_all; done) | (exfalso; simp_all; omega)), by first | exact ⟨m, HWR.out⟩ | exact Dr.step ⟨m, HWR.out⟩ _⟩
            case measure => simp [intOf]; omega
        · by_cases h3 : (n : Int) - nth xs k = 1
          · have hg : gapC xs n (k + 1) = gapC xs n k := gapC_no (by unfold nxt; rw [if_neg h1]; omega)
            have HG := Lib.hid hg
            clear hg
            go_wp2
            try go_quiet (fail)
            try go_wp2
            all_goals
              go_roundw
              case rel => exact ⟨k + 1, by omega, by go_num, int_eq (by first | (rw [HG.out]; done) | (rw [HG.out]; simp; done) | (exfalso; simp_all; done) | (exfalso; simp_all; omega)), by first | exact ⟨m, HWR.out⟩ | exact Dr.step ⟨m, HWR.out⟩ _⟩
              case measure => simp [intOf]; omega
          · have hg : gapC xs n (k + 1) = gapC xs n k + 1 := gapC_yes (by unfold nxt; rw [if_neg h1]; omega)
            have HG := Lib.hid hg
            clear hg
            go_wp2
            try go_quiet (fail)
            try go_wp2
            all_goals
              go_roundw
              case rel => exact ⟨k + 1, by omega, by go_num, int_eq (by first | (rw [HG.out]; done) | (rw [HG.out]; simp; done) | (exfalso; simp_all; done) | (exfalso; simp_all; omega)), by first | exact ⟨m, HWR.out⟩ | exact Dr.step ⟨m, HWR.out⟩ _⟩
              case measure => simp [intOf]; omega
    · obtain rfl : n = k := by omega
      go_wp2
      go_ret
      exact ⟨ret_int (by unfold gapV; rw [HP.out, HL.out]; rfl), by rw [HWR.out]; exact hb.trans (below_drewN (Below.refl _ _) _)⟩



end Go.Proofs.Ytfnkddplmpcbgaa

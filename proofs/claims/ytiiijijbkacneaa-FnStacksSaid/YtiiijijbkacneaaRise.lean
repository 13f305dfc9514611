/- Whether a list rises: the reference's test, the library's. No condition but a length. -/
import Derived.Test.YtiiijijbkacneaaRoundsL
import Derived.Test.YtiiijijbkacneaaDrew
import Derived.Test.YtiiijijbkacneaaHelp
namespace Go.Proofs.Ytiiijijbkacneaa
open Go.RowKit
set_option linter.unusedVariables false
set_option linter.unusedSimpArgs false

theorem Rise.no {xs : List Int} {i : Nat} (h : i + 1 < xs.length) (h1 : nth xs (i + 1) < nth xs i) : ¬ Rise xs := fun hr => by have := hr i h; omega










































theorem c_rises (a : Option Addr) (n cap : Nat) (xs : List Int) (w : World) (hr : RdI w a n cap xs) (hn : n ≤ 1000) :
    Calls Try.prog 12 #[.slice a n cap] w fun e w' => e = .returned (.bool (riseB xs)) ∧ Below w.heap.size w w' := by
  have HL := Lib.hid hr.lens
  go_enter Try.func12, Try.ntmps12
  go_wp2
  go_loopw [3] (fun i wr => ∃ k : Nat, 1 ≤ k ∧ i = .int .i64 k ∧ (∀ j, j + 1 < k → nth xs j ≤ nth xs (j + 1)) ∧ Below w.heap.size w wr) (fun i _ => n - (intOf i).toNat)
  case atStart => exact ⟨1, by omega, rfl, fun j h => by omega, Below.refl _ _⟩
  case round =>
    obtain ⟨k, hk1, rfl, hno, hb⟩ := hrel
    have HNO := Lib.hid hno
    clear hno
    by_cases hlt : k < n
    · obtain ⟨b, off, rfl, _, hc⟩ := (hr.below hb).int (by omega)
      have c1 := hc k hlt
      have c2 := hc (k - 1) (by omega)
      clear hc
      by_cases hgt : nth xs k < nth xs (k - 1)
      · have HV := Lib.hid (riseB_no (Rise.no (xs := xs) (i := k - 1) (by rw [HL.out]; omega) (by rw [show k - 1 + 1 = k by omega]; exact hgt)))
        go_wp2_with fail
        go_quiet (fail)
        go_wp2_with fail
        go_ret
        exact ⟨by rw [HV.out]; rfl, by first | exact hb | exact hb.trans (below_drewN (Below.refl _ _) _)⟩
      · go_wp2_with fail
        go_quiet (fail)
        go_wp2_with fail
        go_roundw
        case rel => exact ⟨k + 1, by omega, by go_num, fun j hj => by
          rcases Nat.lt_or_ge (j + 1) k with h1 | h1
          · exact HNO.out j h1
          · obtain rfl : k = j + 1 := by omega
            rw [show j + 1 - 1 = j by omega] at hgt; omega, by first | exact hb | exact hb.trans (below_drewN (Below.refl _ _) _)⟩
        case measure => simp [intOf]; omega
    · have HV := Lib.hid (riseB_yes (xs := xs) (fun j hj => HNO.out j (by rw [HL.out] at hj; omega)))
      go_wp2
      go_ret
      exact ⟨by rw [HV.out]; rfl, hb⟩



theorem c_Less (x y : Int) (w : World) : Calls Try.prog 59 #[.int .i64 x, .int .i64 y] w fun e w' => e = .returned (.bool (decide (x < y))) ∧ Dr w w' := by
  go_enter Try.func59, Try.ntmps59
  go_wp2
  all_goals
    go_ret
    exact ⟨by simp_all, Dr.refl _⟩

theorem c_IsSorted (a : Option Addr) (n cap : Nat) (xs : List Int) (w : World) (hr : RdI w a n cap xs) (hn : n ≤ 1000) :
    Calls Try.prog 35 #[.slice a n cap] w fun e w' => e = .returned (.bool (riseB xs)) ∧ Below w.heap.size w w' := by
  have HL := Lib.hid hr.lens
  go_enter Try.func35, Try.ntmps35
  go_wp2
  go_loopw [3] (fun i wr => ∃ k : Int, -1 ≤ k ∧ k ≤ (n : Int) - 1 ∧ i = .int .i64 k ∧ (∀ j : Nat, k ≤ (j : Int) → j + 1 < n → nth xs j ≤ nth xs (j + 1)) ∧ Below w.heap.size w wr) (fun i _ => (intOf i).toNat)
  case atStart => exact ⟨(n : Int) - 1, by omega, by omega, by go_num, fun j h1 h2 => by omega, Below.refl _ _⟩
  case round =>
    obtain ⟨k, hk1, hk2, rfl, hno, hb⟩ := hrel
    have HNO := Lib.hid hno
    clear hno
    by_cases hlt : 0 < k
    · obtain ⟨q, rfl⟩ : ∃ q : Nat, k = ((q + 1 : Nat) : Int) := ⟨(k - 1).toNat, by omega⟩
      have hq : q + 1 < n := by omega
      obtain ⟨b, off, rfl, _, hc⟩ := (hr.below hb).int (by omega)
      have c1 := hc (q + 1) hq
      have c2 := hc q (by omega)
      clear hc
      have C1 := Lib.hid (fun (p : Nat) => c_Less (nth xs (q + 1)) (nth xs q) (wr.drewN p))
      have e1 : ((q + 1 : Nat) : Int) - 1 = (q : Int) := by omega
      have e2 : (q : Int) + 1 - 1 = (q : Int) := by omega
      have e3 : IntKind.i64.wrap (q : Int) = (q : Int) := by rw [IntKind.wrap_i64]; omega
      by_cases hgt : nth xs (q + 1) < nth xs q
      · have HV := Lib.hid (riseB_no (Rise.no (xs := xs) (i := q) (by rw [HL.out]; omega) hgt))
        have ed : decide (nth xs (q + 1) < nth xs q) = true := decide_eq_true hgt
        go_wp2_with fail
        go_quiet ((with_reducible refine Calls.quiet_of (C1.out _)))
        go_wp2_with fail
        go_ret
        exact ⟨by rw [HV.out]; rfl, by first | exact hb | exact hb.trans (below_drewN (Below.refl _ _) _)⟩
      · have ed : decide (nth xs (q + 1) < nth xs q) = false := decide_eq_false hgt
        go_wp2_with fail
        go_quiet ((with_reducible refine Calls.quiet_of (C1.out _)))
        go_wp2_with fail
        go_roundw
        case rel => exact ⟨q, by omega, by omega, by go_num, fun j h1 h2 => by
          rcases Nat.lt_or_ge q j with h3 | h3
          · exact HNO.out j (by omega) h2
          · obtain rfl : q = j := by omega
            omega, by first | exact hb | exact hb.trans (below_drewN (Below.refl _ _) _)⟩
        case measure => simp [intOf] <;> omega
    · have HV := Lib.hid (riseB_yes (xs := xs) (fun j hj => HNO.out j (by omega) (by rw [HL.out] at hj; omega)))
      go_wp2
      go_ret
      exact ⟨by rw [HV.out]; rfl, hb⟩


end Go.Proofs.Ytiiijijbkacneaa

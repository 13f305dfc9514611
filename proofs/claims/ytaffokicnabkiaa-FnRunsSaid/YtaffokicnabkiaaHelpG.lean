/- The statements' own helpers at slices of slices. No condition but lengths. -/
import Derived.Test.YtaffokicnabkiaaHelp
import Derived.Test.YtaffokicnabkiaaGrid
import Derived.Test.YtaffokicnabkiaaDrew
namespace Go.Proofs.Ytaffokicnabkiaa
open Go.RowKit
set_option linter.unusedVariables false

def SmallG (n : Nat) (xss : List (List Int)) : Prop := n ≤ 1000 ∧ ∀ ys ∈ xss, ys.length ≤ 1000
theorem getD_mem {xss : List (List Int)} {j : Nat} (h : j < xss.length) : xss.getD j [] ∈ xss := by
  have : xss.getD j [] = xss[j] := by simp [List.getD, h]
  rw [this]; exact List.getElem_mem h

theorem c_eqIntSq (a a' : Option Addr) (n cap n' cap' : Nat) (xs : List Int) (w : World) (h1 : RdI w a n cap xs) (h2 : RdI w a' n' cap' xs) (hn : n ≤ 1048576) :
    Calls Try.prog 8 #[.slice a n cap, .slice a' n' cap'] w fun e w' => e = .returned (.bool true) ∧ ∃ m, w' = w.drewN m := by
  obtain rfl : n = n' := by rw [← h1.lens, ← h2.lens]
  go_enter Try.func8, Try.ntmps8
  go_wp2
  go_loopw [5] (fun i wr => ∃ k : Nat, k ≤ n ∧ i = .int .i64 k ∧ Dr w wr) (fun i _ => n - (intOf i).toNat)
  case atStart => exact ⟨0, by omega, rfl, Dr.refl _⟩
  case round =>
    obtain ⟨k, hk, rfl, hb⟩ := hrel
    by_cases hlt : k < n
    · obtain ⟨b, off, rfl, hbl, hc⟩ := (h1.below hb.below).int (by omega)
      obtain ⟨b', off', rfl, hbl', hc'⟩ := (h2.below hb.below).int (by omega)
      have c1 := hc k hlt
      have c2 := hc' k hlt
      clear hc hc'
      go_wp2_with fail
      go_quiet (fail)
      go_wp2
      go_roundw
      case rel => exact ⟨k + 1, by omega, by go_num, hb.step _⟩
      case measure => simp [intOf]; omega
    · obtain rfl : k = n := by omega
      go_wp2
      go_ret
      exact ⟨rfl, hb⟩










































































































































































































end Go.Proofs.Ytaffokicnabkiaa

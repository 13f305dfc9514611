/- Measures of disorder, fifth part: whether places are in the stable order. No condition but lengths. -/
import Derived.Test.YtcfpiblgddihmaaDis4
namespace Go.Proofs.Ytcfpiblgddihmaa
open Go.RowKit

theorem ext_nth {xs ys : List Int} (hl : xs.length = ys.length) (h : ∀ i, i < xs.length → nth xs i = nth ys i) : xs = ys := by
  apply List.ext_getElem hl
  intro i h1 h2
  have := h i h1
  rwa [nth_eq h1, nth_eq h2] at this


set_option maxHeartbeats 400000 in
theorem c_Equal (a a' : Option Addr) (n cap n' cap' : Nat) (xs ys : List Int) (w : World) (h1 : RdI w a n cap xs) (h2 : RdI w a' n' cap' ys) (hn : n ≤ 1048576) (hn' : n' ≤ 1048576) :
    Calls Try.prog 44 #[.slice a n cap, .slice a' n' cap'] w fun e w' => e = .returned (.bool (decide (xs = ys))) ∧ Below w.heap.size w w' := by
  have l1 := Lib.hid h1.lens
  have l2 := Lib.hid h2.lens
  by_cases hne : n = n'
  rotate_left
  · have hd : decide (xs = ys) = false := by
      simp only [decide_eq_false_iff_not]
      intro e; subst e; have := l1.out; have := l2.out; omega
    have HD := Lib.hid hd
    clear hd
    go_enter Try.func44, Try.ntmps44
    go_wp2
    go_ret
    exact ⟨by rw [HD.out]; rfl, Below.refl _ _⟩
  subst hne
  go_enter Try.func44, Try.ntmps44
  go_wp2
  go_loopw [13] (fun i wr => ∃ k : Nat, k ≤ n ∧ i = .int .i64 k ∧ (∀ i, i < k → nth xs i = nth ys i) ∧ Below w.heap.size w wr) (fun i _ => n - (intOf i).toNat)
  case atStart => exact ⟨0, by omega, rfl, by omega, Below.refl _ _⟩
  case round =>
    obtain ⟨k, hk, rfl, hall, hb⟩ := hrel
    have HA := Lib.hid hall
    clear hall
    by_cases hlt : k < n
    · obtain ⟨b, off, rfl, hbl, hc⟩ := (h1.below hb).int (by omega)
      obtain ⟨b', off', rfl, hbl', hc'⟩ := (h2.below hb).int (by omega)
      have c1 := hc k hlt
      have c2 := hc' k hlt
      clear hc hc'
      by_cases heq : nth xs k = nth ys k
      · rw [← heq] at c2
        have HEQ := Lib.hid heq
        clear heq
        go_wp2_with fail
        go_quiet (fail)
        go_wp2_with fail
        go_roundw
        case rel => exact ⟨k + 1, by omega, by go_num, fun i hi => by
          rcases Nat.lt_or_ge i k with h | h
          · exact HA.out i h
          · obtain rfl : i = k := by omega
            exact HEQ.out, by first | exact hb | exact hb.trans (below_drewN (Below.refl _ _) _)⟩
        case measure => simp [intOf]; omega
      · have hd : decide (xs = ys) = false := by
          simp only [decide_eq_false_iff_not]
          intro e; subst e; exact heq rfl
        have HD := Lib.hid hd
        clear hd
        have hnb : (nth xs k != nth ys k) = true := by simpa using heq
        go_wp2_with fail
        go_quiet (fail)
        go_wp2_with fail
        go_ret
        exact ⟨by rw [HD.out]; rfl, by first | exact hb | exact hb.trans (below_drewN (Below.refl _ _) _)⟩
    · obtain rfl : k = n := by omega
      have hd : decide (xs = ys) = true := by
        simp only [decide_eq_true_eq]
        exact ext_nth (by rw [l1.out, l2.out]) (by rw [l1.out]; exact HA.out)
      have HD := Lib.hid hd
      clear hd
      go_wp2
      go_ret
      exact ⟨by rw [HD.out]; rfl, hb⟩


def isStV (xs ps : List Int) : Bool := decide (xs.length ≤ 12 ∧ ps = ordL xs xs.length)
theorem isStV_no (xs ps : List Int) (h : ¬ xs.length ≤ 12) : isStV xs ps = false := by simp [isStV, h]
theorem isStV_yes (xs ps : List Int) (h : xs.length ≤ 12) : isStV xs ps = decide (ps = ordL xs xs.length) := by simp [isStV, h]
theorem ordL_len (xs : List Int) (n : Nat) : (ordL xs n).length = n := sortTo_len _ _ _
















































































































end Go.Proofs.Ytcfpiblgddihmaa

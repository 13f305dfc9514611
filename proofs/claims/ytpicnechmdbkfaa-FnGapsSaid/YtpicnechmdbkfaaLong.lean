/- The longest list of which each number follows the one before it. -/
import Derived.Test.YtpicnechmdbkfaaHelp
import Derived.Test.YtpicnechmdbkfaaDisL
namespace Go.Proofs.Ytpicnechmdbkfaa
open Go.RowKit

set_option maxHeartbeats 400000 in
theorem c_longest (a : Option Addr) (n cap : Nat) (xs : List Int) (w : World) (hr : RdI w a n cap xs) (hn : n ≤ 12) (K : Nat) (f : Int → Int → Bool)
    (hcf : ∀ args w, (callFunc K args).run Try.prog w = .ok (.enter K args) w) (hf : ∀ x y w, Calls Try.prog K #[.int .i64 x, .int .i64 y] w fun e w' => e = .returned (.bool (f x y)) ∧ w = w') :
    Calls Try.prog 42 #[.slice a n cap, .func (.func K) #[] #[]] w fun e w' => e = .returned (.int .i64 (bestM f xs n)) ∧ Below w.heap.size w w' := by
  have HF := Lib.hid hf
  clear hf
  go_enter Try.func42, Try.ntmps42
  go_wp2
  go_loopw [5, 6, 15] (fun b l i wr => ∃ k : Nat, ∃ L la lc, k ≤ n ∧ i = .int .i64 k ∧ b = .int .i64 (bestM f xs k) ∧ l = .slice la k lc ∧ Ow wr 3 L la k lc (ints (lens f xs k)) ∧ New w.heap.size L ∧ Below w.heap.size w wr) (fun _ _ i _ => n - (intOf i).toNat)
  case atStart => exact ⟨0, [], _, _, by omega, rfl, rfl, rfl, Ow.bare _ _ _, fun _ h => (by cases h), (Below.refl _ _).alloc (Nat.le_refl _) _⟩
  case round =>
    obtain ⟨k, L, la, lc, hk, rfl, rfl, rfl, how, hnew, hb⟩ := hrel
    have hcap := hr.le
    have hcm := hr.max
    unfold maxLen at hcm
    by_cases hlt : k < n
    · obtain ⟨b, off, rfl, hbl, hc⟩ := (hr.below hb).int (by omega)
      have c1 := hc k hlt
      have H := Lib.hid hc
      clear hc
      go_wp2_with ((with_reducible show wpList _ _ _ (⟨some 22, _, _, _, _, _⟩ :: _) _ _); refine wpList_upto _ rfl (.tmp 20) (.tmp 21) 23 rfl 3 Try.underlying23 szInt k rfl rfl rfl (by omega) ?_)
      obtain ⟨wo, rfl⟩ : ∃ wo : World, wo = wr := ⟨_, rfl⟩
      go_loopw [9, 24] (fun v i wr => ∃ j : Nat, j ≤ k ∧ i = .int .i64 j ∧ v = .int .i64 (lenAt f xs (lens f xs k) (nth xs k) j) ∧ Below wo.heap.size wo wr) (fun _ i _ => k - (intOf i).toNat)
      case atStart => exact ⟨0, by omega, rfl, rfl, Below.refl _ _⟩
      case round =>
        obtain ⟨j, hj, rfl, rfl, hbq⟩ := hrel
        have hbd2 := lenAt_bd f xs (lens f xs k) (nth xs k) j (fun i hi => (lens_bd f xs k i (by omega)).2)
        by_cases hjk : j < k
        · have c2 := (hbq.cell (p := ⟨b, off + j, none⟩) (by exact hbl)).trans (H.out j (by omega))
          obtain ⟨g, rfl, rfl, hg, hoc, hof⟩ := (how.below hbq).int (by have := how.le; omega)
          have c3 := hoc j hjk
          clear hoc hof
          have hbd := lens_bd f xs k j hjk
          go_wp2_with fail
          refine (HF.out _ _ _).mono ?_
          rintro e w' ⟨rfl, rfl⟩
          cases hfv : f (nth xs j) (nth xs k)
          · go_wp2_with fail
            go_roundw
            case rel => exact ⟨j + 1, by omega, by go_num, int_eq (by rw [lenAt_miss hfv]), hbq⟩
            case measure => simp [intOf]; omega
          · go_wp2_with fail
            go_roundw
            case rel => exact ⟨j + 1, by omega, by go_num, int_eq (by rw [lenAt_hit hfv]; split <;> omega), hbq⟩
            case measure => simp [intOf]; omega
        · obtain rfl : j = k := by omega
          have hbm := bestM_bd f xs j
          have how2 := (how.below hbq).alloc (.cells #[.int .i64 (lenAt f xs (lens f xs j) (nth xs j) j)] 3)
          have hb2 : Below w.heap.size w wr := hb.trans (hbq.mono hb.size)
          have hsz := hb2.size
          go_wp2_with (at_builtin; refine wpList_app _ rfl _ _ 23 rfl 3 Try.underlying23 infoInt rfl rfl rfl how2 (Rd.one _ _ _) (one_int _) (by omega) (by unfold maxLen; omega) ?_; intro a1 cap1 L1 w1 ow1 kp1 st1)
          have n1 : New w.heap.size L1 := st1.new hnew (by simp; omega)
          have b1 : Below w.heap.size w w1 := kp1.below (hb2.alloc hsz _) hnew (by simp; omega)
          go_roundw
          case rel => exact ⟨j + 1, L1, a1, cap1, by omega, by go_num, int_eq (by simp only [bestM]; split <;> omega), rfl, by rw [ints_snoc] at ow1; exact ow1, n1, b1⟩
          case measure => simp [intOf]; omega
    · obtain rfl : k = n := by omega
      go_wp2
      go_ret
      exact ⟨rfl, hb⟩

def leB (x y : Int) : Bool := decide (x ≤ y)
def gtB (x y : Int) : Bool := decide (y < x)


end Go.Proofs.Ytpicnechmdbkfaa

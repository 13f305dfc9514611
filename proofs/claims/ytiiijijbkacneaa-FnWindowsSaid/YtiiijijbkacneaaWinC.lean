/- How many numbers of a range a window has, and how many less than its last. No condition but lengths. -/
import Derived.Test.YtiiijijbkacneaaWin
namespace Go.Proofs.Ytiiijijbkacneaa
open Go.RowKit
set_option linter.unusedVariables false

/-- How many of the first j numbers satisfy p. -/
def cntP (p : Int → Bool) (ys : List Int) : Nat → Nat
  | 0 => 0
  | j + 1 => if p (nth ys j) = true then cntP p ys j + 1 else cntP p ys j
theorem cntP_le (p : Int → Bool) (ys : List Int) (j : Nat) : cntP p ys j ≤ j := by
  induction j with
  | zero => simp [cntP]
  | succ j ih => rw [cntP]; split <;> omega
theorem cntP_hit {p : Int → Bool} {ys : List Int} {j : Nat} (h : p (nth ys j) = true) : cntP p ys (j + 1) = cntP p ys j + 1 := by rw [cntP, if_pos h]
theorem cntP_miss {p : Int → Bool} {ys : List Int} {j : Nat} (h : p (nth ys j) = false) : cntP p ys (j + 1) = cntP p ys j := by rw [cntP, if_neg (by rw [h]; simp)]
def maxTo (f : Nat → Nat) : Nat → Nat
  | 0 => 0
  | k + 1 => max (maxTo f k) (f k)
theorem maxTo_le (f : Nat → Nat) (B k : Nat) (h : ∀ i, i < k → f i ≤ B) : maxTo f k ≤ B := by
  induction k with
  | zero => simp [maxTo]
  | succ k ih => have := ih (fun i hi => h i (by omega)); have := h k (by omega); simp only [maxTo]; omega
def inB (lo hi x : Int) : Bool := decide (lo ≤ x ∧ x ≤ hi)
def cwF (xs : List Int) (wd : Nat) (lo hi : Int) (i : Nat) : Nat := cntP (inB lo hi) (winL xs i wd) wd
def cwV (xs : List Int) (k lo hi : Int) : Int := if okWin xs.length k = true then maxTo (cwF xs k.toNat lo hi) (winN xs.length k.toNat) else -1


set_option maxHeartbeats 1000000 in
theorem ci_CountInWindow (a : Option Addr) (n cap : Nat) (xs : List Int) (k lo hi : Int) (w : World) (hr : RdI w a n cap xs) :
    Calls Try.prog 28 #[.slice a n cap, .int .i64 k, .int .i64 lo, .int .i64 hi] w fun e w' => e = .returned (.int .i64 (cwV xs k lo hi)) ∧ Below w.heap.size w w' := by
  have HL := Lib.hid hr.lens
  cases hok : okWin n k
  · go_enter Try.func28, Try.ntmps28
    go_wp2_with fail
    refine (c_windows_no a n cap k _ hok).mono ?_
    rintro e w1 ⟨rfl, rfl⟩
    have HO := Lib.hid hok
    clear hok
    go_wp2_with fail
    go_ret
    exact ⟨ret_int (by unfold cwV; rw [HL.out, HO.out]; rfl), Below.refl _ _⟩
  obtain ⟨hn, hk1, hk24⟩ := okWin_yes hok
  obtain ⟨wd, rfl⟩ : ∃ wd : Nat, k = wd := ⟨k.toNat, by omega⟩
  have HO := Lib.hid hok
  clear hok
  go_enter Try.func28, Try.ntmps28
  go_wp2_with fail
  refine (c_windows a n cap wd xs _ hr hn (by omega) (by omega)).mono ?_
  rintro e w1 ⟨oa, oc, L, rfl, how, hnew, hb⟩
  have hm : winN n wd ≤ 25 := by unfold winN; omega
  go_wp2_with fail
  go_loopw [11, 27] (fun v i wr => ∃ j : Nat, j ≤ winN n wd ∧ i = .int .i64 j ∧ v = .int .i64 (maxTo (cwF xs wd lo hi) j) ∧ Below w1.heap.size w1 wr) (fun _ i _ => winN n wd - (intOf i).toNat)
  case atStart => exact ⟨0, by omega, rfl, rfl, Below.refl _ _⟩
  case round =>
    obtain ⟨j, hj, rfl, rfl, hbj⟩ := hrel
    have hmt := maxTo_le (cwF xs wd lo hi) wd j (fun i _ => cntP_le _ _ _)
    by_cases hlt : j < winN n wd
    · have hjw : j + wd ≤ n := by unfold winN at hlt; omega
      obtain ⟨g, off, rfl, hg, hc⟩ := (how.below hbj).rd.at' (by omega)
      have c1 := hc j hlt
      rw [List.getElem?_map, List.getElem?_range hlt] at c1
      clear hc
      have c1' : wr.cell? ⟨g, off + j, none⟩ = some (.slice (cutAt cap j a) wd (cap - j)) := c1
      clear c1
      have rw1 := ((hr.below hb).below hbj).win hjw
      go_wp2_with fail
      obtain ⟨wo, rfl⟩ : ∃ wo : World, wo = wr := ⟨_, rfl⟩
      go_loopw [14, 33] (fun v i wr => ∃ q : Nat, q ≤ wd ∧ i = .int .i64 q ∧ v = .int .i64 (cntP (inB lo hi) (winL xs j wd) q) ∧ Below wo.heap.size wo wr) (fun _ i _ => wd - (intOf i).toNat)
      case atStart => exact ⟨0, by omega, rfl, rfl, Below.refl _ _⟩
      case round =>
        obtain ⟨q, hq, rfl, rfl, hbq⟩ := hrel
        have hcl := cntP_le (inB lo hi) (winL xs j wd) q
        by_cases hqn : q < wd
        · obtain ⟨b3, off3, e3, _, hc3⟩ := (rw1.below hbq).int (by omega)
          have c3 := hc3 q hqn
          clear hc3
          rw [e3]
          by_cases h1 : lo ≤ nth (winL xs j wd) q
          · by_cases h2 : nth (winL xs j wd) q ≤ hi
            · have HIT := Lib.hid (cntP_hit (p := inB lo hi) (ys := winL xs j wd) (j := q) (by simp [inB]; omega))
              go_wp2_with fail
              go_roundw
              case rel => exact ⟨q + 1, by omega, by go_num, int_eq (by rw [HIT.out]; omega), hbq⟩
              case measure => simp [intOf]; omega
            · have HIT := Lib.hid (cntP_miss (p := inB lo hi) (ys := winL xs j wd) (j := q) (by simp [inB]; omega))
              go_wp2_with fail
              go_roundw
              case rel => exact ⟨q + 1, by omega, by go_num, int_eq (by rw [HIT.out]), hbq⟩
              case measure => simp [intOf]; omega
          · have HIT := Lib.hid (cntP_miss (p := inB lo hi) (ys := winL xs j wd) (j := q) (by simp [inB]; omega))
            go_wp2_with fail
            go_roundw
            case rel => exact ⟨q + 1, by omega, by go_num, int_eq (by rw [HIT.out]), hbq⟩
            case measure => simp [intOf]; omega
        · obtain rfl : wd = q := by omega
          go_wp2_with fail
          go_roundw
          case rel => exact ⟨j + 1, by omega, by go_num, int_eq (by simp only [maxTo, cwF]; split <;> omega), Below.nx hbj hbq⟩
          case measure => simp [intOf]; omega
    · obtain rfl : j = winN n wd := by omega
      go_wp2_with fail
      go_ret
      exact ⟨ret_int (by unfold cwV; rw [HL.out, HO.out]; rfl), Below.nx hb hbj⟩
































































end Go.Proofs.Ytiiijijbkacneaa

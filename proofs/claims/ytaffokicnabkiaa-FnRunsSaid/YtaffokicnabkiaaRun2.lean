/- Merges of neighbors, by recursion. No condition but lengths. -/
import Derived.Test.YtaffokicnabkiaaRun1
import Derived.Test.YtaffokicnabkiaaDrew
namespace Go.Proofs.Ytaffokicnabkiaa
open Go.RowKit

def sumTo (xs : List Int) : Nat → Int
  | 0 => 0
  | k + 1 => sumTo xs k + nth xs k
theorem sumTo_bd (xs : List Int) (k : Nat) (h : ∀ j, j < k → 0 ≤ nth xs j ∧ nth xs j ≤ 1000) : 0 ≤ sumTo xs k ∧ sumTo xs k ≤ 1000 * k := by
  induction k with
  | zero => simp [sumTo]
  | succ k ih =>
    have := ih (fun j hj => h j (by omega))
    have := h k (by omega)
    simp only [sumTo]; omega
/-- The least of g 1 .. g k; -1 if there is none. -/
def bestTo (g : Nat → Int) : Nat → Int
  | 0 => -1
  | k + 1 => if bestTo g k < 0 ∨ g (k + 1) < bestTo g k then g (k + 1) else bestTo g k
theorem bestTo_bd (g : Nat → Int) (M : Int) (k : Nat) (h : ∀ j, 1 ≤ j → j ≤ k → 0 ≤ g j ∧ g j ≤ M) : (k = 0 → bestTo g k = -1) ∧ (1 ≤ k → 0 ≤ bestTo g k ∧ bestTo g k ≤ M) := by
  induction k with
  | zero => simp [bestTo]
  | succ k ih =>
    have h1 := ih (fun j a b => h j a (by omega))
    have h2 := h (k + 1) (by omega) (by omega)
    refine ⟨by omega, fun _ => ?_⟩
    simp only [bestTo]
    split
    · exact h2
    · by_cases hk : k = 0
      · have := h1.1 hk; omega
      · exact h1.2 (by omega)
def nbF : Nat → List Int → Int
  | 0, _ => 0
  | f + 1, xs => if xs.length < 2 then 0 else bestTo (fun k => nbF f (xs.take k) + nbF f (xs.drop k)) (xs.length - 1) + sumTo xs xs.length
theorem pow_pos2 (f : Nat) : (1 : Int) ≤ 2 ^ f := by
  induction f with
  | zero => simp
  | succ f ih => rw [Int.pow_succ]; omega
theorem pow_le8 (f : Nat) (h : f ≤ 8) : (2 : Int) ^ f ≤ 256 := by
  have : ∀ k : Nat, k ≤ 8 → (2 : Int) ^ k ≤ 256 := by decide
  exact this f h
theorem nth_take (xs : List Int) (k j : Nat) (h : j < k) : nth (xs.take k) j = nth xs j := by simp [nth, List.getD, h]
theorem nth_drop (xs : List Int) (k j : Nat) : nth (xs.drop k) j = nth xs (k + j) := by simp [nth, List.getD]
theorem nbF_bd (f : Nat) : ∀ (xs : List Int), xs.length ≤ 8 → (∀ j, j < xs.length → 0 ≤ nth xs j ∧ nth xs j ≤ 1000) → 0 ≤ nbF f xs ∧ nbF f xs ≤ 8000 * 2 ^ f - 8000 := by
  induction f with
  | zero => intro xs _ _; simp [nbF]
  | succ f ih =>
    intro xs hl hx
    have hp := pow_pos2 f
    simp only [nbF]
    rw [Int.pow_succ]
    split
    · omega
    · have hs := sumTo_bd xs xs.length hx
      have hb := bestTo_bd (fun k => nbF f (xs.take k) + nbF f (xs.drop k)) (8000 * 2 ^ f - 8000 + (8000 * 2 ^ f - 8000)) (xs.length - 1) (fun k h1 h2 => by
        have t1 := ih (xs.take k) (by rw [List.length_take]; omega) (fun j hj => by rw [List.length_take] at hj; rw [nth_take _ _ _ (by omega)]; exact hx j (by omega))
        have t2 := ih (xs.drop k) (by rw [List.length_drop]; omega) (fun j hj => by rw [List.length_drop] at hj; rw [nth_drop]; exact hx _ (by omega))
        omega)
      have := hb.2 (by omega)
      omega
def neiV (xs : List Int) : Int := if okLengthsOk xs = true then nbF 8 xs else -1

















































































































set_option maxHeartbeats 1000000 in
theorem c_neighbors (f : Nat) : ∀ (a : Option Addr) (n cap : Nat) (xs : List Int) (w : World), RdI w a n cap xs → n ≤ f → f ≤ 8 → (∀ j, j < n → 0 ≤ nth xs j ∧ nth xs j ≤ 1000) →
    Calls Try.prog 34 #[.slice a n cap] w fun e w' => e = .returned (.int .i64 (nbF f xs)) ∧ Dr w w' := by
  induction f with
  | zero =>
    intro a n cap xs w hr hn _ _
    obtain rfl : n = 0 := by omega
    go_enter Try.func34, Try.ntmps34
    go_wp2_with fail
    go_ret
    exact ⟨rfl, Dr.refl _⟩
  | succ f ih =>
    intro a n cap xs w hr hn hf8 hx
    have HL := Lib.hid hr.lens
    have IH := Lib.hid ih
    clear ih
    by_cases h2 : n < 2
    · have e0 : nbF (f + 1) xs = 0 := by simp only [nbF]; rw [if_pos (by rw [HL.out]; exact h2)]
      have E0 := Lib.hid e0
      clear e0
      go_enter Try.func34, Try.ntmps34
      go_wp2_with fail
      go_ret
      exact ⟨by rw [E0.out]; rfl, Dr.refl _⟩
    have hcap := hr.le
    have hcm := hr.max
    unfold maxLen at hcm
    obtain ⟨b, off, rfl, hbl, _⟩ := hr.int (by omega)
    have gbd : ∀ k, 1 ≤ k → k < n → 0 ≤ nbF f (xs.take k) + nbF f (xs.drop k) ∧ nbF f (xs.take k) + nbF f (xs.drop k) ≤ 8000 * 2 ^ f - 8000 + (8000 * 2 ^ f - 8000) := fun k h1 h3 => by
      have t1 := nbF_bd f (xs.take k) (by rw [List.length_take, HL.out]; omega) (fun j hj => by rw [List.length_take, HL.out] at hj; rw [nth_take _ _ _ (by omega)]; exact hx j (by omega))
      have t2 := nbF_bd f (xs.drop k) (by rw [List.length_drop, HL.out]; omega) (fun j hj => by rw [List.length_drop, HL.out] at hj; rw [nth_drop]; exact hx _ (by omega))
      omega
    have hpow : (2 : Int) ^ f ≤ 256 := pow_le8 f (by omega)
    have hpos : (1 : Int) ≤ 2 ^ f := pow_pos2 f
    go_enter Try.func34, Try.ntmps34
    go_wp2_with fail
    go_loopw [3, 4] (fun v i wr => ∃ k : Nat, 1 ≤ k ∧ k ≤ n ∧ i = .int .i64 k ∧ v = .int .i64 (bestTo (fun k => nbF f (xs.take k) + nbF f (xs.drop k)) (k - 1)) ∧ Dr w wr) (fun _ i _ => n - (intOf i).toNat)
    case atStart => exact ⟨1, by omega, by omega, by simp, rfl, Dr.refl _⟩
    case round =>
      obtain ⟨k, hk1, hk, rfl, rfl, ⟨m, hwr⟩⟩ := hrel
      have HWR := Lib.hid hwr
      clear hwr
      by_cases hlt : k < n
      · have hne : ¬ cap = k := by omega
        have g1 := gbd k hk1 hlt
        have g2 := nbF_bd f (xs.take k) (by rw [List.length_take, HL.out]; omega) (fun j hj => by rw [List.length_take, HL.out] at hj; rw [nth_take _ _ _ (by omega)]; exact hx j (by omega))
        have g3 := nbF_bd f (xs.drop k) (by rw [List.length_drop, HL.out]; omega) (fun j hj => by rw [List.length_drop, HL.out] at hj; rw [nth_drop]; exact hx _ (by omega))
        have hbst := bestTo_bd (fun k => nbF f (xs.take k) + nbF f (xs.drop k)) (8000 * 2 ^ f - 8000 + (8000 * 2 ^ f - 8000)) (k - 1) (fun k h1 h2 => gbd k (by omega) (by omega))
        have call1 : ∀ q, Calls Try.prog 34 #[.slice (some ⟨b, off, none⟩) k cap] (wr.drewN q) fun e w' => e = .returned (.int .i64 (nbF f (xs.take k))) ∧ Dr (wr.drewN q) w' := fun q =>
          IH.out _ k cap (xs.take k) _ (by have h := hr.head k (by omega); rw [ints_take] at h; rw [HWR.out]; exact (h.drewN m).drewN q) (by omega) (by omega) (fun j hj => by rw [nth_take _ _ _ hj]; exact hx j (by omega))
        have call2 : ∀ q, Calls Try.prog 34 #[.slice (some ⟨b, off + k, none⟩) (n - k) (cap - k)] (wr.drewN q) fun e w' => e = .returned (.int .i64 (nbF f (xs.drop k))) ∧ Dr (wr.drewN q) w' := fun q =>
          IH.out _ (n - k) (cap - k) (xs.drop k) _ (by
            have h := hr.part k n (by omega) (Nat.le_refl _)
            rw [List.take_of_length_le (by rw [hr.len]; exact Nat.le_refl _), ints_drop] at h; rw [HWR.out]; exact (h.drewN m).drewN q) (by omega) (by omega) (fun j hj => by rw [nth_drop]; exact hx _ (by omega))
        have C1 := Lib.hid call1
        have C2 := Lib.hid call2
        have hi1 : (k : Int) ≤ (cap : Int) := by omega
        have hi2 : (k : Int) ≤ (n : Int) := by omega
        clear call1 call2
        have hs : IntKind.i64.wrap (nbF f (xs.take k) + nbF f (xs.drop k)) = nbF f (xs.take k) + nbF f (xs.drop k) := by
          rw [IntKind.wrap_i64]; omega
        go_wp2_with fail
        go_quiet ((first | (with_reducible refine Calls.quiet_of (C1.out _)) | (with_reducible refine Calls.quiet_of (C2.out _))))
        clear hs
        go_wp2_with fail
        all_goals
          go_roundw
          case rel => exact ⟨k + 1, by omega, by omega, by go_num, int_eq (by
            rw [show k + 1 - 1 = (k - 1) + 1 by omega]
            simp only [bestTo]
            rw [show k - 1 + 1 = k by omega]
            first | (rw [if_pos (by omega)]) | (rw [if_neg (by omega)])), by first | exact Dr.step (Dr.step ⟨m, HWR.out⟩ _) _ | exact Dr.step ⟨m, HWR.out⟩ _ | exact ⟨m, HWR.out⟩⟩
          case measure => simp [intOf]; omega
      · obtain rfl : n = k := by omega
        have hbst := bestTo_bd (fun k => nbF f (xs.take k) + nbF f (xs.drop k)) (8000 * 2 ^ f - 8000 + (8000 * 2 ^ f - 8000)) (n - 1) (fun k h1 h2 => gbd k (by omega) (by omega))
        have hsm := sumTo_bd xs n (fun j hj => hx j hj)
        have e1 : nbF (f + 1) xs = bestTo (fun k => nbF f (xs.take k) + nbF f (xs.drop k)) (n - 1) + sumTo xs n := by
          simp only [nbF]; rw [if_neg (by rw [HL.out]; exact h2), HL.out]
        have E1 := Lib.hid e1
        clear e1
        go_wp2_with fail
        obtain ⟨wo, rfl⟩ : ∃ wo : World, wo = wr := ⟨_, rfl⟩
        have hrw : RdI wo (some ⟨b, off, none⟩) n cap xs := by rw [HWR.out]; exact hr.drewN m
        go_loop [3, 36] (fun v i => ∃ j : Nat, j ≤ n ∧ i = .int .i64 j ∧ v = .int .i64 (bestTo (fun k => nbF f (xs.take k) + nbF f (xs.drop k)) (n - 1) + sumTo xs j)) (fun _ i => n - (intOf i).toNat)
        case atStart => exact ⟨0, by omega, rfl, int_eq (by simp [sumTo])⟩
        case round =>
          obtain ⟨j, hj, rfl, rfl⟩ := hrel
          have hsj := sumTo_bd xs j (fun i hi => hx i (by omega))
          by_cases hjn : j < n
          · obtain ⟨b2, off2, e2, _, hc⟩ := hrw.int (by omega)
            simp only [Option.some.injEq, Addr.mk.injEq, and_true] at e2
            obtain ⟨rfl, rfl⟩ := e2
            have c1 := hc j hjn
            have hxj := hx j hjn
            clear hc
            go_wp2_with fail
            go_round
            case rel => exact ⟨j + 1, by omega, by go_num, int_eq (by simp only [sumTo]; omega)⟩
            case measure => simp [intOf]; omega
          · obtain rfl : j = n := by omega
            go_wp2_with fail
            go_ret
            exact ⟨ret_int E1.out.symm, by exact ⟨m, HWR.out⟩⟩

























theorem ci_CheapestNeighbors (a : Option Addr) (n cap : Nat) (xs : List Int) (w : World) (hr : RdI w a n cap xs) :
    Calls Try.prog 13 #[.slice a n cap] w fun e w' => e = .returned (.int .i64 (neiV xs)) ∧ Below w.heap.size w w' := by
  have HL := Lib.hid hr.lens
  cases hok : okLengthsOk xs
  · have HO := Lib.hid hok
    go_enter Try.func13, Try.ntmps13
    go_wp2_with (go_at_call 15; refine (ci_LengthsOk a n cap xs _ hr).mono ?_; rintro e w' ⟨rfl, hb⟩)
    go_ret
    exact ⟨ret_int (by unfold neiV; rw [HO.out]; simp), by assumption⟩
  have HO := Lib.hid hok
  have hat := okLengthsOk_at hok
  rw [HL.out] at hat
  go_enter Try.func13, Try.ntmps13
  go_wp2_with fail
  refine (ci_LengthsOk a n cap xs _ hr).mono ?_
  rintro e w1 ⟨rfl, hb1⟩
  go_wp2_with fail
  refine (c_neighbors 8 a n cap xs w1 (hr.below hb1) hat.1 (by omega) (fun j hj => by have := hat.2 j hj; omega)).mono ?_
  rintro e w' ⟨rfl, m, rfl⟩
  go_wp2_with fail
  go_ret
  exact ⟨ret_int (by unfold neiV; rw [HO.out]; simp), hb1.trans (below_drewN (Below.refl _ _) _)⟩

end Go.Proofs.Ytaffokicnabkiaa

/- Measures of disorder: what the functions of the program and of the reference answer. No condition but lengths. -/
import Derived.Test.YtnbnmhbilnaihaaHelp
import Derived.Test.YtnbnmhbilnaihaaDisL
namespace Go.Proofs.Ytnbnmhbilnaihaa
open Go.RowKit


set_option maxHeartbeats 400000 in
theorem c_longest (a : Option Addr) (n cap : Nat) (xs : List Int) (w : World) (hr : RdI w a n cap xs) (hn : n ≤ 12) (K : Nat) (f : Int → Int → Bool)
    (hcf : ∀ args w, (callFunc K args).run Try.prog w = .ok (.enter K args) w) (hf : ∀ x y w, Calls Try.prog K #[.int .i64 x, .int .i64 y] w fun e w' => e = .returned (.bool (f x y)) ∧ w = w') :
    Calls Try.prog 55 #[.slice a n cap, .func (.func K) #[] #[]] w fun e w' => e = .returned (.int .i64 (bestM f xs n)) ∧ Below w.heap.size w w' := by
  have HF := Lib.hid hf
  clear hf
  go_enter Try.func55, Try.ntmps55
  go_wp2
  go_loopw [5, 6, 15] (fun b l i wr => ∃ k : Nat, ∃ L la lc, k ≤ n ∧ i = .int .i64 k ∧ b = .int .i64 (bestM f xs k) ∧ l = .slice la k lc ∧ Ow wr 3 L la k lc (ints (lens f xs k)) ∧ New w.heap.size L ∧ Below w.heap.size w wr) (fun _ _ i _ => n - (intOf i).toNat)
  case atStart => exact ⟨0, [], _, _, by omega, rfl, rfl, rfl, Ow.bare _ _ _, fun _ h => (by cases h), (Below.refl _ _).alloc (Nat.le_refl _) _⟩
  case round =>
    obtain ⟨k, L, la, lc, hk, rfl, rfl, rfl, how, hnew, hb⟩ := hrel
    have hcap := hr.le
    have hcm := hr.max
    unfold maxLen at hcm
    by_cases hlt : k < n
    · obtain ⟨b, off, rfl, hbl, hc⟩ := (hr.below hb).int (by omega)
      have c1 := hc k hlt
      have H := Lib.hid hc
      clear hc
      go_wp2_with ((with_reducible show wpList _ _ _ (⟨some 22, _, _, _, _, _⟩ :: _) _ _); refine wpList_upto _ rfl (.tmp 20) (.tmp 21) 22 rfl 3 Try.underlying22 szInt k rfl rfl rfl (by omega) ?_)
      obtain ⟨wo, rfl⟩ : ∃ wo : World, wo = wr := ⟨_, rfl⟩
      go_loopw [9, 24] (fun v i wr => ∃ j : Nat, j ≤ k ∧ i = .int .i64 j ∧ v = .int .i64 (lenAt f xs (lens f xs k) (nth xs k) j) ∧ Below wo.heap.size wo wr) (fun _ i _ => k - (intOf i).toNat)
      case atStart => exact ⟨0, by omega, rfl, rfl, Below.refl _ _⟩
      case round =>
        obtain ⟨j, hj, rfl, rfl, hbq⟩ := hrel
        have hbd2 := lenAt_bd f xs (lens f xs k) (nth xs k) j (fun i hi => (lens_bd f xs k i (by omega)).2)
        by_cases hjk : j < k
        · have c2 := (hbq.cell (p := ⟨b, off + j, none⟩) (by exact hbl)).trans (H.out j (by omega))
          obtain ⟨g, rfl, rfl, hg, hoc, hof⟩ := (how.below hbq).int (by have := how.le; omega)
          have c3 := hoc j hjk
          clear hoc hof
          have hbd := lens_bd f xs k j hjk
          go_wp2_with fail
          refine (HF.out _ _ _).mono ?_
          rintro e w' ⟨rfl, rfl⟩
          cases hfv : f (nth xs j) (nth xs k)
          · go_wp2_with fail
            go_roundw
            case rel => exact ⟨j + 1, by omega, by go_num, int_eq (by rw [lenAt_miss hfv]), hbq⟩
            case measure => simp [intOf]; omega
          · go_wp2_with fail
            go_roundw
            case rel => exact ⟨j + 1, by omega, by go_num, int_eq (by rw [lenAt_hit hfv]; split <;> omega), hbq⟩
            case measure => simp [intOf]; omega
        · obtain rfl : j = k := by omega
          have hbm := bestM_bd f xs j
          have how2 := (how.below hbq).alloc (.cells #[.int .i64 (lenAt f xs (lens f xs j) (nth xs j) j)] 3)
          have hb2 : Below w.heap.size w wr := hb.trans (hbq.mono hb.size)
          have hsz := hb2.size
          go_wp2_with (at_builtin; refine wpList_app _ rfl _ _ 22 rfl 3 Try.underlying22 infoInt rfl rfl rfl how2 (Rd.one _ _ _) (one_int _) (by omega) (by unfold maxLen; omega) ?_; intro a1 cap1 L1 w1 ow1 kp1 st1)
          have n1 : New w.heap.size L1 := st1.new hnew (by simp; omega)
          have b1 : Below w.heap.size w w1 := kp1.below (hb2.alloc hsz _) hnew (by simp; omega)
          go_roundw
          case rel => exact ⟨j + 1, L1, a1, cap1, by omega, by go_num, int_eq (by simp only [bestM]; split <;> omega), rfl, by rw [ints_snoc] at ow1; exact ow1, n1, b1⟩
          case measure => simp [intOf]; omega
    · obtain rfl : k = n := by omega
      go_wp2
      go_ret
      exact ⟨rfl, hb⟩

def leB (x y : Int) : Bool := decide (x ≤ y)
def gtB (x y : Int) : Bool := decide (y < x)

theorem c_isTwelve (b : Bool) (a : Option Addr) (n cap : Nat) (w : World) (hb : decide (n ≤ 12) = b) : Calls Try.prog 52 #[.slice a n cap] w fun e w' => e = .returned (.bool b) ∧ w = w' := by
  have e : (decide ((n : Int) ≤ 12)) = b := by rw [← hb]; congr 1; simp; omega
  have E := Lib.hid e
  clear e hb
  go_enter Try.func52, Try.ntmps52
  go_wp2
  go_ret
  exact ⟨by rw [← E.out]; rfl, rfl⟩

def longV (f : Int → Int → Bool) (xs : List Int) : Int := if xs.length ≤ 12 then bestM f xs xs.length else -1

theorem c_LongestRising1 (x y : Int) (w : World) : Calls Try.prog 56 #[.int .i64 x, .int .i64 y] w fun e w' => e = .returned (.bool (leB x y)) ∧ w = w' := by
  go_enter Try.func56, Try.ntmps56
  go_wp2
  go_ret
  exact ⟨rfl, rfl⟩

theorem ci_LongestRising (a : Option Addr) (n cap : Nat) (xs : List Int) (w : World) (hr : RdI w a n cap xs) :
    Calls Try.prog 22 #[.slice a n cap] w fun e w' => e = .returned (.int .i64 (longV leB xs)) ∧ Below w.heap.size w w' := by
  have hl := Lib.hid hr.lens
  by_cases h12 : n ≤ 12
  · go_enter Try.func22, Try.ntmps22
    go_wp2_with (go_at_call 52; refine (c_isTwelve true _ _ _ _ (by simpa using h12)).mono ?_; rintro e w' ⟨rfl, rfl⟩)
    refine (c_longest a n cap xs _ hr h12 56 leB (fun _ _ => by kernel_rfl) c_LongestRising1).mono ?_
    rintro e w' ⟨rfl, hb⟩
    go_wp2
    go_ret
    exact ⟨ret_int (by unfold longV; rw [hl.out, if_pos h12]), hb⟩
  · go_enter Try.func22, Try.ntmps22
    go_wp2_with (go_at_call 52; refine (c_isTwelve false _ _ _ _ (by simpa using h12)).mono ?_; rintro e w' ⟨rfl, rfl⟩)
    go_ret
    exact ⟨ret_int (by unfold longV; rw [hl.out, if_neg h12]), Below.refl _ _⟩

theorem c_l19Ok (b : Bool) (a : Option Addr) (n cap : Nat) (w : World) (hb : decide (n ≤ 12) = b) : Calls Try.prog 50 #[.slice a n cap] w fun e w' => e = .returned (.bool b) ∧ w = w' := by
  have e : (decide ((n : Int) ≤ 12)) = b := by rw [← hb]; congr 1; simp; omega
  have E := Lib.hid e
  clear e hb
  go_enter Try.func50, Try.ntmps50
  go_wp2
  go_ret
  exact ⟨by rw [← E.out]; rfl, rfl⟩

set_option maxHeartbeats 400000 in
theorem cs_LongestRising (a : Option Addr) (n cap : Nat) (xs : List Int) (w : World) (hr : RdI w a n cap xs) :
    Calls Try.prog 21 #[.slice a n cap] w fun e w' => e = .returned (.int .i64 (longV leB xs)) ∧ Below w.heap.size w w' := by
  have hl := Lib.hid hr.lens
  by_cases h12 : n ≤ 12
  case neg =>
    go_enter Try.func21, Try.ntmps21
    go_wp2_with (go_at_call 50; refine (c_l19Ok false _ _ _ _ (by simpa using h12)).mono ?_; rintro e w' ⟨rfl, rfl⟩)
    go_ret
    exact ⟨ret_int (by unfold longV; rw [hl.out, if_neg h12]), Below.refl _ _⟩
  go_enter Try.func21, Try.ntmps21
  go_wp2_with (go_at_call 50; refine (c_l19Ok true _ _ _ _ (by simpa using h12)).mono ?_; rintro e w' ⟨rfl, rfl⟩)
  go_loopw [3, 4, 16] (fun l b i wr => ∃ k : Nat, ∃ L la lc, k ≤ n ∧ i = .int .i64 k ∧ b = .int .i64 (bestM leB xs k) ∧ l = .slice la k lc ∧ Ow wr 3 L la k lc (ints (lens leB xs k)) ∧ New w.heap.size L ∧ Below w.heap.size w wr) (fun _ _ i _ => n - (intOf i).toNat)
  case atStart => exact ⟨0, [], _, _, by omega, rfl, rfl, rfl, Ow.bare _ _ _, fun _ h => (by cases h), (Below.refl _ _).alloc (Nat.le_refl _) _⟩
  case round =>
    obtain ⟨k, L, la, lc, hk, rfl, rfl, rfl, how, hnew, hb⟩ := hrel
    have hcap := hr.le
    have hcm := hr.max
    unfold maxLen at hcm
    by_cases hlt : k < n
    · obtain ⟨b, off, rfl, hbl, hc⟩ := (hr.below hb).int (by omega)
      have c1 := hc k hlt
      have H := Lib.hid hc
      clear hc
      go_wp2_with ((with_reducible show wpList _ _ _ (⟨some 23, _, _, _, _, _⟩ :: _) _ _); refine wpList_upto _ rfl (.tmp 21) (.tmp 22) 22 rfl 3 Try.underlying22 szInt k rfl rfl rfl (by omega) ?_)
      obtain ⟨wo, rfl⟩ : ∃ wo : World, wo = wr := ⟨_, rfl⟩
      go_loopw [7, 25] (fun v i wr => ∃ j : Nat, j ≤ k ∧ i = .int .i64 j ∧ v = .int .i64 (lenAt leB xs (lens leB xs k) (nth xs k) j) ∧ Below wo.heap.size wo wr) (fun _ i _ => k - (intOf i).toNat)
      case atStart => exact ⟨0, by omega, rfl, rfl, Below.refl _ _⟩
      case round =>
        obtain ⟨j, hj, rfl, rfl, hbq⟩ := hrel
        have hbd2 := lenAt_bd leB xs (lens leB xs k) (nth xs k) j (fun i hi => (lens_bd leB xs k i (by omega)).2)
        by_cases hjk : j < k
        · have c2 := (hbq.cell (p := ⟨b, off + j, none⟩) (by exact hbl)).trans (H.out j (by omega))
          obtain ⟨g, rfl, rfl, hg, hoc, hof⟩ := (how.below hbq).int (by have := how.le; omega)
          have c3 := hoc j hjk
          clear hoc hof
          have hbd := lens_bd leB xs k j hjk
          by_cases hle : nth xs j ≤ nth xs k
          · go_wp2_with fail
            go_roundw
            case rel => exact ⟨j + 1, by omega, by go_num, int_eq (by rw [lenAt_hit (by simpa [leB] using hle)]; split <;> omega), hbq⟩
            case measure => simp [intOf]; omega
          · go_wp2_with fail
            go_roundw
            case rel => exact ⟨j + 1, by omega, by go_num, int_eq (by rw [lenAt_miss (by simpa [leB] using hle)]), hbq⟩
            case measure => simp [intOf]; omega
        · obtain rfl : j = k := by omega
          have hbm := bestM_bd leB xs j
          have how2 := (how.below hbq).alloc (.cells #[.int .i64 (lenAt leB xs (lens leB xs j) (nth xs j) j)] 3)
          have hb2 : Below w.heap.size w wr := hb.trans (hbq.mono hb.size)
          have hsz := hb2.size
          go_wp2_with (at_builtin; refine wpList_app _ rfl _ _ 22 rfl 3 Try.underlying22 infoInt rfl rfl rfl how2 (Rd.one _ _ _) (one_int _) (by omega) (by unfold maxLen; omega) ?_; intro a1 cap1 L1 w1 ow1 kp1 st1)
          have n1 : New w.heap.size L1 := st1.new hnew (by simp; omega)
          have b1 : Below w.heap.size w w1 := kp1.below (hb2.alloc hsz _) hnew (by simp; omega)
          go_roundw
          case rel => exact ⟨j + 1, L1, a1, cap1, by omega, by go_num, int_eq (by simp only [bestM]; split <;> omega), rfl, by rw [ints_snoc] at ow1; exact ow1, n1, b1⟩
          case measure => simp [intOf]; omega
    · obtain rfl : k = n := by omega
      go_wp2
      go_ret
      exact ⟨ret_int (by unfold longV; rw [hl.out, if_pos h12]), hb⟩

def remV (xs : List Int) : Int := if xs.length ≤ 12 then (xs.length : Int) - bestM leB xs xs.length else -1

theorem cs_RemoveLeast (a : Option Addr) (n cap : Nat) (xs : List Int) (w : World) (hr : RdI w a n cap xs) :
    Calls Try.prog 23 #[.slice a n cap] w fun e w' => e = .returned (.int .i64 (remV xs)) ∧ Below w.heap.size w w' := by
  have hl := Lib.hid hr.lens
  have hbm := bestM_bd leB xs n
  by_cases h12 : n ≤ 12
  · have e1 : longV leB xs = bestM leB xs n := by unfold longV; rw [hl.out, if_pos h12]
    go_enter Try.func23, Try.ntmps23
    go_wp2_with (first | (go_at_call 50; refine (c_l19Ok true _ _ _ _ (by simpa using h12)).mono ?_; rintro e w' ⟨rfl, rfl⟩) | (go_at_call 21; refine (cs_LongestRising _ _ _ xs _ hr).mono ?_; rintro e w' ⟨rfl, hb⟩))
    go_ret
    exact ⟨ret_int (by unfold remV; rw [hl.out, if_pos h12]), by assumption⟩
  · go_enter Try.func23, Try.ntmps23
    go_wp2_with (go_at_call 50; refine (c_l19Ok false _ _ _ _ (by simpa using h12)).mono ?_; rintro e w' ⟨rfl, rfl⟩)
    go_ret
    exact ⟨ret_int (by unfold remV; rw [hl.out, if_neg h12]), Below.refl _ _⟩

theorem ci_RemoveLeast (a : Option Addr) (n cap : Nat) (xs : List Int) (w : World) (hr : RdI w a n cap xs) :
    Calls Try.prog 24 #[.slice a n cap] w fun e w' => e = .returned (.int .i64 (remV xs)) ∧ Below w.heap.size w w' := by
  have hl := Lib.hid hr.lens
  have hbm := bestM_bd leB xs n
  by_cases h12 : n ≤ 12
  · have e1 : longV leB xs = bestM leB xs n := by unfold longV; rw [hl.out, if_pos h12]
    go_enter Try.func24, Try.ntmps24
    go_wp2_with (first | (go_at_call 52; refine (c_isTwelve true _ _ _ _ (by simpa using h12)).mono ?_; rintro e w' ⟨rfl, rfl⟩) | (go_at_call 22; refine (ci_LongestRising _ _ _ xs _ hr).mono ?_; rintro e w' ⟨rfl, hb⟩))
    go_ret
    exact ⟨ret_int (by unfold remV; rw [hl.out, if_pos h12]), by assumption⟩
  · go_enter Try.func24, Try.ntmps24
    go_wp2_with (go_at_call 52; refine (c_isTwelve false _ _ _ _ (by simpa using h12)).mono ?_; rintro e w' ⟨rfl, rfl⟩)
    go_ret
    exact ⟨ret_int (by unfold remV; rw [hl.out, if_neg h12]), Below.refl _ _⟩

end Go.Proofs.Ytnbnmhbilnaihaa

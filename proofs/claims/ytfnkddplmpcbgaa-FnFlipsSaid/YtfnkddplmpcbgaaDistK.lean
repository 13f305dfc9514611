/- An order's number: the program's and the reference's. No condition but a length. -/
import Derived.Test.YtfnkddplmpcbgaaHelp
import Derived.Test.YtfnkddplmpcbgaaDistL
namespace Go.Proofs.Ytfnkddplmpcbgaa
open Go.RowKit
set_option linter.unusedVariables false

theorem keyF_take {s : Nat} {xs : List Int} {k : Nat} (h : k < xs.length) : keyF s (xs.take (k + 1)) = keyF s (xs.take k) * 8 + (nth xs k).toNat := by rw [take_nth h, keyF_snoc]
theorem keyF_takeBd {s : Nat} {xs : List Int} (hd : Dig xs) (k : Nat) (hk : k ≤ 8) : keyF s (xs.take k) < (s + 1) * 16777216 := by
  have h1 := keyF_bd (xs.take k) s (fun x hx => hd x (List.mem_of_mem_take hx))
  have h2 : 8 ^ (xs.take k).length ≤ 8 ^ 8 := Nat.pow_le_pow_right (by omega) (by rw [List.length_take]; omega)
  exact Nat.lt_of_lt_of_le h1 (Nat.mul_le_mul_left _ h2)
theorem Dig.nth {xs : List Int} (hd : Dig xs) {k : Nat} (hk : k < xs.length) : ∃ q : Nat, Go.Proofs.Ytfnkddplmpcbgaa.nth xs k = q ∧ q < 8 := by
  have := hd _ (List.getElem_mem hk)
  rw [nth_eq hk]
  exact ⟨xs[k].toNat, by omega, by omega⟩

theorem or_i64 (m q : Nat) (hm : m < 33554432) (hq : q < 8) : bits .or .i64 ((m : Int) * 8) (q : Int) = ((m * 8 + q : Nat) : Int) := by
  have hx : (m * 8) ||| q = m * 8 + q := by
    rw [Nat.mul_comm m 8]
    exact (Nat.two_pow_add_eq_or_of_lt (i := 3) hq m).symm
  have h1 : (BitVec.ofInt 64 ((m : Int) * 8)).toNat = m * 8 := by
    rw [show (m : Int) * 8 = ((m * 8 : Nat) : Int) by omega, BitVec.ofInt_natCast, BitVec.toNat_ofNat]; exact Nat.mod_eq_of_lt (by omega)
  have h2 : (BitVec.ofInt 64 (q : Int)).toNat = q := by
    rw [BitVec.ofInt_natCast, BitVec.toNat_ofNat]; exact Nat.mod_eq_of_lt (by omega)
  show IntKind.i64.wrap ((BitVec.ofInt 64 ((m : Int) * 8) ||| BitVec.ofInt 64 (q : Int)).toNat : Int) = _
  rw [BitVec.toNat_or, h1, h2, hx]
  simp [IntKind.wrap, IntKind.bits, IntKind.signed]
  omega


set_option maxHeartbeats 400000 in
theorem c_key (a : Option Addr) (n cap : Nat) (xs : List Int) (w : World) (hr : RdI w a n cap xs) (hd : Dig xs) (hn : n ≤ 8) :
    Calls Try.prog 34 #[.slice a n cap] w fun e w' => e = .returned (.int .i64 (keyF 1 xs)) ∧ w = w' := by
  have HL := Lib.hid hr.lens
  have HD := Lib.hid hd
  clear hd
  obtain ⟨w0, hw0⟩ : ∃ w0 : World, w0 = w := ⟨_, rfl⟩
  subst hw0
  go_enter Try.func34, Try.ntmps34
  go_wp2
  go_loopw [3, 8] (fun v i wr => ∃ k : Nat, k ≤ n ∧ i = .int .i64 k ∧ v = .int .i64 (keyF 1 (xs.take k)) ∧ wr = w0) (fun _ i _ => n - (intOf i).toNat)
  case atStart => exact ⟨0, by omega, rfl, rfl, rfl⟩
  case round =>
    obtain ⟨k, hk, rfl, rfl, hwr⟩ := hrel
    subst hwr
    by_cases hlt : k < n
    · obtain ⟨b, off, rfl, hbl, hc⟩ := hr.int (by omega)
      have c1 := hc k hlt
      obtain ⟨q, hq, hq8⟩ := HD.out.nth (k := k) (by rw [HL.out]; exact hlt)
      rw [hq] at c1
      have HS := Lib.hid (keyF_take (s := 1) (xs := xs) (k := k) (by rw [HL.out]; exact hlt))
      have hbd := keyF_takeBd (s := 1) HD.out k (by omega)
      generalize keyF 1 (xs.take k) = m at *
      have HQ := Lib.hid hq
      clear hc hq
      go_wp2
      rw [or_i64 m q (by omega) hq8]
      go_roundw
      case rel => exact ⟨k + 1, by omega, by go_num, int_eq (by rw [HS.out, HQ.out]; rfl), by trivial⟩
      case measure => simp [intOf]; omega
    · obtain rfl : k = n := by omega
      have HE := Lib.hid (List.take_of_length_le (l := xs) (i := k) (by rw [HL.out]; exact Nat.le_refl _))
      go_wp2
      go_ret
      exact ⟨by first | rfl | (rw [HE.out]; rfl), rfl⟩



set_option maxHeartbeats 400000 in
theorem c_l22Code (a : Option Addr) (n cap : Nat) (xs : List Int) (w : World) (hr : RdI w a n cap xs) (hd : Dig xs) (hn : n ≤ 8) :
    Calls Try.prog 43 #[.slice a n cap] w fun e w' => e = .returned (.int .i64 (keyF 0 xs)) ∧ w = w' := by
  have HL := Lib.hid hr.lens
  have HD := Lib.hid hd
  clear hd
  obtain ⟨w0, hw0⟩ : ∃ w0 : World, w0 = w := ⟨_, rfl⟩
  subst hw0
  go_enter Try.func43, Try.ntmps43
  go_wp2
  go_loopw [3, 8] (fun v i wr => ∃ k : Nat, k ≤ n ∧ i = .int .i64 k ∧ v = .int .i64 (keyF 0 (xs.take k)) ∧ wr = w0) (fun _ i _ => n - (intOf i).toNat)
  case atStart => exact ⟨0, by omega, rfl, rfl, rfl⟩
  case round =>
    obtain ⟨k, hk, rfl, rfl, hwr⟩ := hrel
    subst hwr
    by_cases hlt : k < n
    · obtain ⟨b, off, rfl, hbl, hc⟩ := hr.int (by omega)
      have c1 := hc k hlt
      obtain ⟨q, hq, hq8⟩ := HD.out.nth (k := k) (by rw [HL.out]; exact hlt)
      rw [hq] at c1
      have HS := Lib.hid (keyF_take (s := 0) (xs := xs) (k := k) (by rw [HL.out]; exact hlt))
      have hbd := keyF_takeBd (s := 0) HD.out k (by omega)
      generalize keyF 0 (xs.take k) = m at *
      have HQ := Lib.hid hq
      clear hc hq
      go_wp2
      go_roundw
      case rel => exact ⟨k + 1, by omega, by go_num, int_eq (by rw [HS.out, HQ.out]; simp), by trivial⟩
      case measure => simp [intOf]; omega
    · obtain rfl : k = n := by omega
      have HE := Lib.hid (List.take_of_length_le (l := xs) (i := k) (by rw [HL.out]; exact Nat.le_refl _))
      go_wp2
      go_ret
      exact ⟨by first | rfl | (rw [HE.out]; rfl), rfl⟩



set_option maxHeartbeats 400000 in

theorem c_l22HasNo (a : Option Addr) (n cap : Nat) (xs : List Int) (x : Int) (w : World) (hr : RdI w a n cap xs) (hx : ∀ j, j < n → nth xs j ≠ x) :
    Calls Try.prog 45 #[.slice a n cap, .int .i64 x] w fun e w' => e = .returned (.int .i64 (-1)) ∧ w = w' := by
  have hmx := hr.max
  have hle := hr.le
  unfold maxLen at hmx
  have HX := Lib.hid hx
  clear hx
  obtain ⟨w0, hw0⟩ : ∃ w0 : World, w0 = w := ⟨_, rfl⟩
  subst hw0
  go_enter Try.func45, Try.ntmps45
  go_wp2
  go_loopw [9] (fun i wr => ∃ k : Nat, k ≤ n ∧ i = .int .i64 k ∧ wr = w0) (fun i _ => n - (intOf i).toNat)
  case atStart => exact ⟨0, by omega, rfl, rfl⟩
  case round =>
    obtain ⟨k, hk, rfl, hwr⟩ := hrel
    subst hwr
    by_cases hlt : k < n
    · obtain ⟨b, off, rfl, hbl, hc⟩ := hr.int (by omega)
      have c1 := hc k hlt
      have hne : (nth xs k == x) = false := by have := HX.out k hlt; simpa using this
      clear hc
      go_wp2
      go_roundw
      case rel => exact ⟨k + 1, by omega, by go_num, by trivial⟩
      case measure => simp [intOf]; omega
    · obtain rfl : k = n := by omega
      go_wp2
      go_ret
      exact ⟨rfl, rfl⟩
set_option maxHeartbeats 400000 in

theorem c_l22HasYes (a : Option Addr) (n cap p : Nat) (xs : List Int) (x : Int) (w : World) (hr : RdI w a n cap xs) (hp : p < n) (hpx : nth xs p = x) (hu : ∀ j, j < p → nth xs j ≠ x) :
    Calls Try.prog 45 #[.slice a n cap, .int .i64 x] w fun e w' => e = .returned (.int .i64 p) ∧ w = w' := by
  have hmx := hr.max
  have hle := hr.le
  unfold maxLen at hmx
  have HX := Lib.hid hu
  have HP := Lib.hid hpx
  clear hu hpx
  obtain ⟨w0, hw0⟩ : ∃ w0 : World, w0 = w := ⟨_, rfl⟩
  subst hw0
  go_enter Try.func45, Try.ntmps45
  go_wp2
  go_loopw [9] (fun i wr => ∃ k : Nat, k ≤ p ∧ i = .int .i64 k ∧ wr = w0) (fun i _ => n - (intOf i).toNat)
  case atStart => exact ⟨0, by omega, rfl, rfl⟩
  case round =>
    obtain ⟨k, hk, rfl, hwr⟩ := hrel
    subst hwr
    obtain ⟨b, off, rfl, hbl, hc⟩ := hr.int (by omega)
    have c1 := hc k (by omega)
    by_cases hlt : k < p
    · have hne : (nth xs k == x) = false := by have := HX.out k hlt; simpa using this
      clear hc
      go_wp2
      go_roundw
      case rel => exact ⟨k + 1, by omega, by go_num, by trivial⟩
      case measure => simp [intOf]; omega
    · obtain rfl : k = p := by omega
      have hne : (nth xs k == x) = true := by have := HP.out; simpa using this
      clear hc
      go_wp2
      go_ret
      exact ⟨rfl, rfl⟩



set_option maxHeartbeats 400000 in
theorem c_wires (n : Nat) (w : World) (hn : n ≤ 64) :
    Calls Try.prog 46 #[.int .i64 0, .int .i64 n] w fun e w' => ∃ a' cap', e = .returned (.slice a' n cap') ∧ OwI w' 3 w.heap.size a' n cap' (idn n) ∧ Below w.heap.size w w' := by
  go_enter Try.func46, Try.ntmps46
  go_wp2
  go_loopw [5, 6] (fun l i wr => ∃ k : Nat, ∃ L la lc, k ≤ n ∧ i = .int .i64 k ∧ l = .slice la k lc ∧ Ow wr 3 L la k lc (ints (idn k)) ∧ New w.heap.size L ∧ Below w.heap.size w wr) (fun _ i _ => n - (intOf i).toNat)
  case atStart => exact ⟨0, [], _, _, by omega, rfl, rfl, Ow.bare _ _ _, fun _ h => (by cases h), (Below.refl _ _).alloc (Nat.le_refl _) _⟩
  case round =>
    obtain ⟨k, L, la, lc, hk, rfl, rfl, how, hnew, hb⟩ := hrel
    by_cases hlt : k < n
    · have hsz := hb.size
      have how2 := how.alloc (.cells #[.int .i64 (k : Int)] 3)
      go_wp2_with (at_builtin; refine wpList_app _ rfl _ _ 26 rfl 3 Try.underlying26 infoInt rfl rfl rfl how2 (Rd.one _ _ _) (one_int _) (by omega) (by unfold maxLen; omega) ?_; intro a1 cap1 L1 w1 ow1 kp1 st1)
      have n1 : New w.heap.size L1 := st1.new hnew (by simp; omega)
      have b1 : Below w.heap.size w w1 := kp1.below (hb.alloc hsz _) hnew (by simp; omega)
      go_roundw
      case rel => exact ⟨k + 1, L1, a1, cap1, by omega, by go_num, rfl, by
        rw [ints_snoc, ← idn_snoc] at ow1; exact ow1, n1, b1⟩
      case measure => simp [intOf]; omega
    · obtain rfl : k = n := by omega
      go_wp2
      go_ret
      exact ⟨_, _, rfl, ⟨L, how, hnew⟩, hb⟩


set_option maxHeartbeats 400000 in
theorem c_l04First (n : Nat) (w : World) (hn : n ≤ 64) :
    Calls Try.prog 42 #[.int .i64 n] w fun e w' => ∃ a' cap', e = .returned (.slice a' n cap') ∧ OwI w' 3 w.heap.size a' n cap' (idn n) ∧ Below w.heap.size w w' := by
  go_enter Try.func42, Try.ntmps42
  go_wp2
  go_loopw [3, 4] (fun l i wr => ∃ k : Nat, ∃ L la lc, k ≤ n ∧ i = .int .i64 k ∧ l = .slice la k lc ∧ Ow wr 3 L la k lc (ints (idn k)) ∧ New w.heap.size L ∧ Below w.heap.size w wr) (fun _ i _ => n - (intOf i).toNat)
  case atStart => exact ⟨0, [], _, _, by omega, rfl, rfl, Ow.bare _ _ _, fun _ h => (by cases h), (Below.refl _ _).alloc (Nat.le_refl _) _⟩
  case round =>
    obtain ⟨k, L, la, lc, hk, rfl, rfl, how, hnew, hb⟩ := hrel
    by_cases hlt : k < n
    · have hsz := hb.size
      have how2 := how.alloc (.cells #[.int .i64 (k : Int)] 3)
      go_wp2_with (at_builtin; refine wpList_app _ rfl _ _ 26 rfl 3 Try.underlying26 infoInt rfl rfl rfl how2 (Rd.one _ _ _) (one_int _) (by omega) (by unfold maxLen; omega) ?_; intro a1 cap1 L1 w1 ow1 kp1 st1)
      have n1 : New w.heap.size L1 := st1.new hnew (by simp; omega)
      have b1 : Below w.heap.size w w1 := kp1.below (hb.alloc hsz _) hnew (by simp; omega)
      go_roundw
      case rel => exact ⟨k + 1, L1, a1, cap1, by omega, by go_num, rfl, by
        rw [ints_snoc, ← idn_snoc] at ow1; exact ow1, n1, b1⟩
      case measure => simp [intOf]; omega
    · obtain rfl : k = n := by omega
      go_wp2
      go_ret
      exact ⟨_, _, rfl, ⟨L, how, hnew⟩, hb⟩


end Go.Proofs.Ytfnkddplmpcbgaa

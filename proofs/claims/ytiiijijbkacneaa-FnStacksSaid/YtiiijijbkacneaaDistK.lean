/- An order's number: the program's and the reference's. No condition but a length. -/
import Derived.Test.YtiiijijbkacneaaHelp
import Derived.Test.YtiiijijbkacneaaDistL
namespace Go.Proofs.Ytiiijijbkacneaa
open Go.RowKit
set_option linter.unusedVariables false

theorem keyF_take {s : Nat} {xs : List Int} {k : Nat} (h : k < xs.length) : keyF s (xs.take (k + 1)) = keyF s (xs.take k) * 8 + (nth xs k).toNat := by rw [take_nth h, keyF_snoc]
theorem keyF_takeBd {s : Nat} {xs : List Int} (hd : Dig xs) (k : Nat) (hk : k ≤ 8) : keyF s (xs.take k) < (s + 1) * 16777216 := by
  have h1 := keyF_bd (xs.take k) s (fun x hx => hd x (List.mem_of_mem_take hx))
  have h2 : 8 ^ (xs.take k).length ≤ 8 ^ 8 := Nat.pow_le_pow_right (by omega) (by rw [List.length_take]; omega)
  exact Nat.lt_of_lt_of_le h1 (Nat.mul_le_mul_left _ h2)
theorem Dig.nth {xs : List Int} (hd : Dig xs) {k : Nat} (hk : k < xs.length) : ∃ q : Nat, Go.Proofs.Ytiiijijbkacneaa.nth xs k = q ∧ q < 8 := by
  have := hd _ (List.getElem_mem hk)
  rw [nth_eq hk]
  exact ⟨xs[k].toNat, by omega, by omega⟩

theorem or_i64 (m q : Nat) (hm : m < 33554432) (hq : q < 8) : bits .or .i64 ((m : Int) * 8) (q : Int) = ((m * 8 + q : Nat) : Int) := by
  have hx : (m * 8) ||| q = m * 8 + q := by
    rw [Nat.mul_comm m 8]
    exact (Nat.two_pow_add_eq_or_of_lt (i := 3) hq m).symm
  have h1 : (BitVec.ofInt 64 ((m : Int) * 8)).toNat = m * 8 := by
    rw [show (m : Int) * 8 = ((m * 8 : Nat) : Int) by omega, BitVec.ofInt_natCast, BitVec.toNat_ofNat]; exact Nat.mod_eq_of_lt (by omega)
  have h2 : (BitVec.ofInt 64 (q : Int)).toNat = q := by
    rw [BitVec.ofInt_natCast, BitVec.toNat_ofNat]; exact Nat.mod_eq_of_lt (by omega)
  show IntKind.i64.wrap ((BitVec.ofInt 64 ((m : Int) * 8) ||| BitVec.ofInt 64 (q : Int)).toNat : Int) = _
  rw [BitVec.toNat_or, h1, h2, hx]
  simp [IntKind.wrap, IntKind.bits, IntKind.signed]
  omega










































































































































































set_option maxHeartbeats 400000 in
theorem c_l04First (n : Nat) (w : World) (hn : n ≤ 64) :
    Calls Try.prog 39 #[.int .i64 n] w fun e w' => ∃ a' cap', e = .returned (.slice a' n cap') ∧ OwI w' 3 w.heap.size a' n cap' (idn n) ∧ Below w.heap.size w w' := by
  go_enter Try.func39, Try.ntmps39
  go_wp2
  go_loopw [3, 4] (fun l i wr => ∃ k : Nat, ∃ L la lc, k ≤ n ∧ i = .int .i64 k ∧ l = .slice la k lc ∧ Ow wr 3 L la k lc (ints (idn k)) ∧ New w.heap.size L ∧ Below w.heap.size w wr) (fun _ i _ => n - (intOf i).toNat)
  case atStart => exact ⟨0, [], _, _, by omega, rfl, rfl, Ow.bare _ _ _, fun _ h => (by cases h), (Below.refl _ _).alloc (Nat.le_refl _) _⟩
  case round =>
    obtain ⟨k, L, la, lc, hk, rfl, rfl, how, hnew, hb⟩ := hrel
    by_cases hlt : k < n
    · have hsz := hb.size
      have how2 := how.alloc (.cells #[.int .i64 (k : Int)] 3)
      go_wp2_with (at_builtin; refine wpList_app _ rfl _ _ 24 rfl 3 Try.underlying24 infoInt rfl rfl rfl how2 (Rd.one _ _ _) (one_int _) (by omega) (by unfold maxLen; omega) ?_; intro a1 cap1 L1 w1 ow1 kp1 st1)
      have n1 : New w.heap.size L1 := st1.new hnew (by simp; omega)
      have b1 : Below w.heap.size w w1 := kp1.below (hb.alloc hsz _) hnew (by simp; omega)
      go_roundw
      case rel => exact ⟨k + 1, L1, a1, cap1, by omega, by go_num, rfl, by
        rw [ints_snoc, ← idn_snoc] at ow1; exact ow1, n1, b1⟩
      case measure => simp [intOf]; omega
    · obtain rfl : k = n := by omega
      go_wp2
      go_ret
      exact ⟨_, _, rfl, ⟨L, how, hnew⟩, hb⟩


set_option maxHeartbeats 400000 in
theorem c_stairs (n : Nat) (w : World) (hn : n ≤ 64) :
    Calls Try.prog 15 #[.int .i64 n] w fun e w' => ∃ a' cap', e = .returned (.slice a' n cap') ∧ OwI w' 3 w.heap.size a' n cap' (idn n) ∧ Below w.heap.size w w' := by
  go_enter Try.func15, Try.ntmps15
  go_wp2
  go_loopw [3, 4] (fun l i wr => ∃ k : Nat, ∃ L la lc, k ≤ n ∧ i = .int .i64 k ∧ l = .slice la k lc ∧ Ow wr 3 L la k lc (ints (idn k)) ∧ New w.heap.size L ∧ Below w.heap.size w wr) (fun _ i _ => n - (intOf i).toNat)
  case atStart => exact ⟨0, [], _, _, by omega, rfl, rfl, Ow.bare _ _ _, fun _ h => (by cases h), (Below.refl _ _).alloc (Nat.le_refl _) _⟩
  case round =>
    obtain ⟨k, L, la, lc, hk, rfl, rfl, how, hnew, hb⟩ := hrel
    by_cases hlt : k < n
    · have hsz := hb.size
      have how2 := how.alloc (.cells #[.int .i64 (k : Int)] 3)
      go_wp2_with (at_builtin; refine wpList_app _ rfl _ _ 24 rfl 3 Try.underlying24 infoInt rfl rfl rfl how2 (Rd.one _ _ _) (one_int _) (by omega) (by unfold maxLen; omega) ?_; intro a1 cap1 L1 w1 ow1 kp1 st1)
      have n1 : New w.heap.size L1 := st1.new hnew (by simp; omega)
      have b1 : Below w.heap.size w w1 := kp1.below (hb.alloc hsz _) hnew (by simp; omega)
      go_roundw
      case rel => exact ⟨k + 1, L1, a1, cap1, by omega, by go_num, rfl, by
        rw [ints_snoc, ← idn_snoc] at ow1; exact ow1, n1, b1⟩
      case measure => simp [intOf]; omega
    · obtain rfl : k = n := by omega
      go_wp2
      go_ret
      exact ⟨_, _, rfl, ⟨L, how, hnew⟩, hb⟩


end Go.Proofs.Ytiiijijbkacneaa

/- The statements' own helpers: a slice is copied, two are compared, one is overwritten with marks, the marks are looked up. No condition but lengths up to 2^20. -/
import Derived.Test.YtaffokicnabkiaaRows
import Derived.Test.YtaffokicnabkiaaMem
import Derived.Outline
import Derived.Deep.QuietTactic
import Derived.BigQuiet
import Derived.WalkSmall
import Derived.Deep.OwnRows
namespace Go.Proofs.Ytaffokicnabkiaa
open Go.RowKit

theorem infoInt : (Try.prog.info? 3).map (fun i => (i.zero, i.size, i.bytes)) = some (some (.int .i64 0), 1, 8) := by kernel_rfl

theorem szInt : (Try.prog.info? 3).map (·.size) = some 1 := by kernel_rfl
theorem int_eq {k : IntKind} {a b : Int} (h : a = b) : Value.int k a = .int k b := by rw [h]
theorem ret_int {k : IntKind} {a b : Int} (h : a = b) : Ending.returned (.int k a) = .returned (.int k b) := by rw [h]
theorem Below.nx {w w1 w2 : World} (h : Below w.heap.size w w1) (k : Below w1.heap.size w1 w2) : Below w.heap.size w w2 := h.trans (k.mono h.size)
/-- All of 64 bits. -/
def WfI (xs : List Int) : Prop := ∀ x ∈ xs, -9223372036854775808 ≤ x ∧ x ≤ 9223372036854775807
/-- What the frame tells of a slice of ints that came in, in my word. -/
theorem rd_of_row2 {w : World} {a : Option Addr} {len cap : Nat} {zs : List Int}
    (h : (a = none ∧ len = 0 ∧ cap = 0 ∧ zs = []) ∨ ∃ x, a = some x ∧ len ≤ cap ∧ cap ≤ maxLen ∧ zs.length = cap ∧ (∀ i, i < zs.length → w.cell? (x.add i) = some (.int .i64 (zs.getD i 0))) ∧ ∀ n ∈ zs, (Lit.int .i64 n).wf = true) :
    ∃ xs, RdI w a len cap xs ∧ WfI xs := by
  rcases h with ⟨_, rfl, rfl, _⟩ | ⟨x, rfl, hle, hmax, hl, hc, hw⟩
  · exact ⟨[], Rd.nil _ _ _ (Nat.zero_le _), fun _ h => by cases h⟩
  · refine ⟨zs.take len, ⟨by simp [hl, hle], hle, hmax, fun hp => ?_⟩, fun v hv => ?_⟩
    · obtain ⟨b, off, spot⟩ := x
      have h0 := hc 0 (by omega)
      have hspot : spot = none := by simpa [Addr.add] using World.cell?_spot h0
      subst hspot
      refine ⟨b, off, rfl, World.block_lt_of_cell? w _ h0, fun j hj => ?_⟩
      have h1 := hc j (by omega)
      rw [Addr.add_lit] at h1
      rw [h1, ints_nth (by simp; omega), nth_eq (by simp; omega), List.getElem_take]
      simp [List.getD, show j < zs.length by omega]
    · have := hw v (List.mem_of_mem_take hv)
      simp only [Lit.wf, Bool.and_eq_true, decide_eq_true_eq] at this
      have e1 : IntKind.i64.min = -9223372036854775808 := rfl
      have e2 : IntKind.i64.max = 9223372036854775807 := rfl
      omega
theorem rd_of_row {w : World} {a : Option Addr} {len cap : Nat} {zs : List Int}
    (h : (a = none ∧ len = 0 ∧ cap = 0 ∧ zs = []) ∨ ∃ x, a = some x ∧ len ≤ cap ∧ cap ≤ maxLen ∧ zs.length = cap ∧ (∀ i, i < zs.length → w.cell? (x.add i) = some (.int .i64 (zs.getD i 0))) ∧ ∀ n ∈ zs, (Lit.int .i64 n).wf = true) :
    ∃ xs, RdI w a len cap xs := by
  obtain ⟨xs, h1, _⟩ := rd_of_row2 h
  exact ⟨xs, h1⟩

theorem fill_step (xs : List Int) (k n : Nat) (hk : k < n) (hn : xs.length = n) :
    (xs.take k ++ List.replicate (n - k) (0 : Int)).set k (nth xs k) = xs.take (k + 1) ++ List.replicate (n - (k + 1)) 0 := by
  rw [take_nth (by omega), List.set_append_right _ _ (by simp; omega)]
  have e : k - (xs.take k).length = 0 := by simp; omega
  have e2 : n - k = (n - (k + 1)) + 1 := by omega
  rw [e, e2, List.replicate_succ, List.set_cons_zero]
  simp

set_option maxHeartbeats 400000 in
theorem c_toIntS (a : Option Addr) (n cap : Nat) (xs : List Int) (w : World) (hr : RdI w a n cap xs) (hn : n ≤ 1048576) :
    Calls Try.prog 6 #[.slice a n cap] w fun e w' => ∃ a', e = .returned (.slice a' n n) ∧ Ow w' 3 [w.heap.size] a' n n (ints xs) ∧ Below w.heap.size w w' := by
  have hmk := run_make_row' (P := Try.prog) 22 3 (.int .i64 0) 8 Try.underlying22 infoInt rfl .i64 .i64 n (by omega) (by omega)
  have hlen := Lib.hid hr.lens
  go_enter Try.func6, Try.ntmps6
  go_wp2
  go_loopw [4] (fun i wr => ∃ k : Nat, k ≤ n ∧ i = .int .i64 k ∧ Ow wr 3 [w.heap.size] (some ⟨w.heap.size, 0, none⟩) n n (ints (xs.take k ++ List.replicate (n - k) 0)) ∧ Below w.heap.size w wr) (fun i _ => n - (intOf i).toNat)
  case atStart =>
    refine ⟨0, by omega, rfl, Ow.new' _ _ _ _ _ (size_madeCells _ _) ?_ (by unfold maxLen; omega), (Below.refl _ _).alloc (Nat.le_refl _) _⟩
    rw [toList_madeCells_one]
    simp
  case round =>
    obtain ⟨k, hk, rfl, how, hb⟩ := hrel
    by_cases hlt : k < n
    · obtain ⟨b, off, rfl, hbl, hc⟩ := (hr.below hb).int (by omega)
      obtain ⟨g, e1, e2, hg, hoc, hof⟩ := how.int (by omega)
      obtain rfl : w.heap.size = g := by simpa using e1
      have c1 := hc k hlt
      have c2 := hoc k hlt
      have c3 := hof k
      have hne : b ≠ w.heap.size := by
        obtain ⟨b', off', e, h1, _⟩ := hr.int (by omega)
        simp at e
        omega
      clear hc hoc hof e1 e2
      go_wp2
      go_roundw
      case rel => exact ⟨k + 1, by omega, by go_num, by
        have h := how.set k (.int .i64 (nth xs k))
        rw [ints_set, fill_step xs k n hlt hlen.out] at h
        exact h, hb.setCell (Nat.le_refl _) _⟩
      case measure => simp [intOf]; omega
    · obtain rfl : k = n := by omega
      go_wp2
      go_ret
      refine ⟨_, rfl, ?_, hb⟩
      have h := how
      rw [List.take_of_length_le (by have := hlen.out; omega), Nat.sub_self, List.replicate_zero, List.append_nil] at h
      exact h

set_option maxHeartbeats 400000 in
theorem c_eqIntS (a a' : Option Addr) (n cap n' cap' : Nat) (xs : List Int) (w : World) (h1 : RdI w a n cap xs) (h2 : RdI w a' n' cap' xs) (hn : n ≤ 1048576) :
    Calls Try.prog 8 #[.slice a n cap, .slice a' n' cap'] w fun e w' => e = .returned (.bool true) ∧ Below w.heap.size w w' := by
  obtain rfl : n = n' := by rw [← h1.lens, ← h2.lens]
  go_enter Try.func8, Try.ntmps8
  go_wp2
  go_loopw [5] (fun i wr => ∃ k : Nat, k ≤ n ∧ i = .int .i64 k ∧ Below w.heap.size w wr) (fun i _ => n - (intOf i).toNat)
  case atStart => exact ⟨0, by omega, rfl, Below.refl _ _⟩
  case round =>
    obtain ⟨k, hk, rfl, hb⟩ := hrel
    by_cases hlt : k < n
    · obtain ⟨b, off, rfl, hbl, hc⟩ := (h1.below hb).int (by omega)
      obtain ⟨b', off', rfl, hbl', hc'⟩ := (h2.below hb).int (by omega)
      have c1 := hc k hlt
      have c2 := hc' k hlt
      clear hc hc'
      go_wp2_with fail
      go_quiet (fail)
      go_wp2
      go_roundw
      case rel => exact ⟨k + 1, by omega, by go_num, by first | exact hb | exact hb.trans (below_drewN (Below.refl _ _) _)⟩
      case measure => simp [intOf]; omega
    · obtain rfl : k = n := by omega
      go_wp2
      go_ret
      exact ⟨rfl, hb⟩


def marks (k : Int) (n : Nat) : List Int := (List.range n).map fun i : Nat => k + (i : Int)
theorem marks_len (k : Int) (n : Nat) : (marks k n).length = n := by simp [marks]
theorem marks_nth (k : Int) (n j : Nat) (h : j < n) : nth (marks k n) j = k + j := by
  rw [nth_eq (by rw [marks_len]; exact h)]; simp [marks]

theorem marks_step (k : Int) (xs : List Int) (j n : Nat) (hj : j < n) (hn : xs.length = n) :
    (marks k j ++ xs.drop j).set j (k + j) = marks k (j + 1) ++ xs.drop (j + 1) := by
  rw [List.set_append_right _ _ (by rw [marks_len]; omega), marks_len, Nat.sub_self]
  rw [List.drop_eq_getElem_cons (by omega), List.set_cons_zero]
  simp [marks, List.range_succ]

set_option maxHeartbeats 400000 in
theorem c_markIntS (L : List Nat) (a : Option Addr) (n cap : Nat) (xs : List Int) (k : Int) (w : World) (how : Ow w 3 L a n cap (ints xs)) (hn : n ≤ 1048576) (h0 : 0 ≤ k) (hk : k ≤ 1099511627776) :
    Calls Try.prog 9 #[.slice a n cap, .int .i64 k] w fun e w' => e = .returned (.int .i64 (k + n)) ∧ Ow w' 3 L a n cap (ints (marks k n)) ∧ Keeps L w w' := by
  have hlen := Lib.hid how.lens
  go_enter Try.func9, Try.ntmps9
  go_wp2
  go_loopw [1, 5] (fun v i wr => ∃ j : Nat, j ≤ n ∧ i = .int .i64 j ∧ v = .int .i64 (k + j) ∧ Ow wr 3 L a n cap (ints (marks k j ++ xs.drop j)) ∧ Keeps L w wr) (fun _ i _ => n - (intOf i).toNat)
  case atStart => exact ⟨0, by omega, rfl, by simp, by simpa [marks] using how, Keeps.refl _ _⟩
  case round =>
    obtain ⟨j, hj, rfl, rfl, ho, hb⟩ := hrel
    by_cases hlt : j < n
    · obtain ⟨g, rfl, rfl, hg, hoc, hof⟩ := ho.int (by have := ho.le; omega)
      have c1 := hoc j hlt
      have c2 := hof j
      clear hoc hof
      go_wp2
      go_roundw
      case rel => exact ⟨j + 1, by omega, by go_num, by go_num, by
        have h := ho.set j (.int .i64 (k + j))
        rw [ints_set, marks_step k xs j n hlt hlen.out] at h
        exact h, hb.trans (Keeps.setCell _ _ _ _) (Step.refl _ _)⟩
      case measure => simp [intOf]; omega
    · obtain rfl : j = n := by omega
      go_wp2
      go_ret
      refine ⟨rfl, ?_, hb⟩
      have h := ho
      rw [List.drop_of_length_le (by have := hlen.out; omega), List.append_nil] at h
      exact h



set_option maxHeartbeats 400000 in
theorem c_heldIntS (a : Option Addr) (n cap : Nat) (k : Int) (w : World) (hr : RdI w a n cap (marks k n)) (hn : n ≤ 1048576) (h0 : 0 ≤ k) (hk : k ≤ 1099511627776) :
    Calls Try.prog 10 #[.slice a n cap, .int .i64 k] w fun e w' => e = .returned (.int .i64 (k + n)) ∧ Below w.heap.size w w' := by
  go_enter Try.func10, Try.ntmps10
  go_wp2
  go_loopw [1, 5] (fun v i wr => ∃ j : Nat, j ≤ n ∧ i = .int .i64 j ∧ v = .int .i64 (k + j) ∧ Below w.heap.size w wr) (fun _ i _ => n - (intOf i).toNat)
  case atStart => exact ⟨0, by omega, rfl, by simp, Below.refl _ _⟩
  case round =>
    obtain ⟨j, hj, rfl, rfl, hb⟩ := hrel
    by_cases hlt : j < n
    · obtain ⟨b, off, rfl, hbl, hc⟩ := (hr.below hb).int (by omega)
      have c1 := hc j hlt
      rw [marks_nth k n j hlt] at c1
      clear hc
      go_wp2
      go_roundw
      case rel => exact ⟨j + 1, by omega, by go_num, by go_num, hb⟩
      case measure => simp [intOf]; omega
    · obtain rfl : j = n := by omega
      go_wp2
      go_ret
      exact ⟨rfl, hb⟩


end Go.Proofs.Ytaffokicnabkiaa

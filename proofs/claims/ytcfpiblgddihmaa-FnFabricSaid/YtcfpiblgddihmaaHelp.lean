/- The statements' own helpers: a slice is copied, two are compared, one is overwritten with marks, the marks are looked up. No condition but lengths up to 2^20. -/
import Derived.Test.YtcfpiblgddihmaaRows
import Derived.Test.YtcfpiblgddihmaaMem
import Derived.Outline
import Derived.Deep.QuietTactic
import Derived.BigQuiet
import Derived.WalkSmall
import Derived.Deep.OwnRows
namespace Go.Proofs.Ytcfpiblgddihmaa
open Go.RowKit

theorem infoInt : (Try.prog.info? 3).map (fun i => (i.zero, i.size, i.bytes)) = some (some (.int .i64 0), 1, 8) := by kernel_rfl

theorem szInt : (Try.prog.info? 3).map (·.size) = some 1 := by kernel_rfl
theorem int_eq {k : IntKind} {a b : Int} (h : a = b) : Value.int k a = .int k b := by rw [h]
theorem ret_int {k : IntKind} {a b : Int} (h : a = b) : Ending.returned (.int k a) = .returned (.int k b) := by rw [h]
theorem Below.nx {w w1 w2 : World} (h : Below w.heap.size w w1) (k : Below w1.heap.size w1 w2) : Below w.heap.size w w2 := h.trans (k.mono h.size)
/-- All of 64 bits. -/
def WfI (xs : List Int) : Prop := ∀ x ∈ xs, -9223372036854775808 ≤ x ∧ x ≤ 9223372036854775807
/-- What the frame tells of a slice of ints that came in, in my word. -/
theorem rd_of_row2 {w : World} {a : Option Addr} {len cap : Nat} {zs : List Int}
    (h : (a = none ∧ len = 0 ∧ cap = 0 ∧ zs = []) ∨ ∃ x, a = some x ∧ len ≤ cap ∧ cap ≤ maxLen ∧ zs.length = cap ∧ (∀ i, i < zs.length → w.cell? (x.add i) = some (.int .i64 (zs.getD i 0))) ∧ ∀ n ∈ zs, (Lit.int .i64 n).wf = true) :
    ∃ xs, RdI w a len cap xs ∧ WfI xs := by
  rcases h with ⟨_, rfl, rfl, _⟩ | ⟨x, rfl, hle, hmax, hl, hc, hw⟩
  · exact ⟨[], Rd.nil _ _ _ (Nat.zero_le _), fun _ h => by cases h⟩
  · refine ⟨zs.take len, ⟨by simp [hl, hle], hle, hmax, fun hp => ?_⟩, fun v hv => ?_⟩
    · obtain ⟨b, off, spot⟩ := x
      have h0 := hc 0 (by omega)
      have hspot : spot = none := by simpa [Addr.add] using World.cell?_spot h0
      subst hspot
      refine ⟨b, off, rfl, World.block_lt_of_cell? w _ h0, fun j hj => ?_⟩
      have h1 := hc j (by omega)
      rw [Addr.add_lit] at h1
      rw [h1, ints_nth (by simp; omega), nth_eq (by simp; omega), List.getElem_take]
      simp [List.getD, show j < zs.length by omega]
    · have := hw v (List.mem_of_mem_take hv)
      simp only [Lit.wf, Bool.and_eq_true, decide_eq_true_eq] at this
      have e1 : IntKind.i64.min = -9223372036854775808 := rfl
      have e2 : IntKind.i64.max = 9223372036854775807 := rfl
      omega
theorem rd_of_row {w : World} {a : Option Addr} {len cap : Nat} {zs : List Int}
    (h : (a = none ∧ len = 0 ∧ cap = 0 ∧ zs = []) ∨ ∃ x, a = some x ∧ len ≤ cap ∧ cap ≤ maxLen ∧ zs.length = cap ∧ (∀ i, i < zs.length → w.cell? (x.add i) = some (.int .i64 (zs.getD i 0))) ∧ ∀ n ∈ zs, (Lit.int .i64 n).wf = true) :
    ∃ xs, RdI w a len cap xs := by
  obtain ⟨xs, h1, _⟩ := rd_of_row2 h
  exact ⟨xs, h1⟩

theorem fill_step (xs : List Int) (k n : Nat) (hk : k < n) (hn : xs.length = n) :
    (xs.take k ++ List.replicate (n - k) (0 : Int)).set k (nth xs k) = xs.take (k + 1) ++ List.replicate (n - (k + 1)) 0 := by
  rw [take_nth (by omega), List.set_append_right _ _ (by simp; omega)]
  have e : k - (xs.take k).length = 0 := by simp; omega
  have e2 : n - k = (n - (k + 1)) + 1 := by omega
  rw [e, e2, List.replicate_succ, List.set_cons_zero]
  simp









































































































































end Go.Proofs.Ytcfpiblgddihmaa

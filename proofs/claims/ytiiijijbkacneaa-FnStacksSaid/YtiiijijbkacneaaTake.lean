/- The closure that takes from the stack: what it captured lies in blocks of one cell. No condition but lengths. -/
import Derived.Test.YtiiijijbkacneaaFlip
import Derived.Test.YtiiijijbkacneaaStackL
import Derived.Deep.RegionLaw
namespace Go.Proofs.Ytiiijijbkacneaa
open Go.RowKit
set_option linter.unusedVariables false
set_option linter.unusedSimpArgs false

/-- A variable of its own: a block of one cell. -/
structure Box (w : World) (v : Nat) (u : Value) : Prop where
  cell : w.cell? ⟨v, 0, none⟩ = some u
  free : w.frozen? ⟨v, 0, none⟩ = false
  old : v < w.heap.size
theorem Box.keep {w w' : World} {v : Nat} {u : Value} {L : List Nat} (h : Box w v u) (k : Keeps L w w') (hn : v ∉ L) : Box w' v u :=
  ⟨(World.cell?_of_block (w := w) (k.block v h.old hn)).trans h.cell, (World.frozen?_of_block (w := w) (k.block v h.old hn)).trans h.free, Nat.lt_of_lt_of_le h.old k.size⟩
theorem Box.set {w : World} {v : Nat} {u : Value} (h : Box w v u) (u' : Value) : Box (w.setCell ⟨v, 0, none⟩ u') v u' :=
  ⟨World.cell?_setCell_same (w := w) (a := ⟨v, 0, none⟩) (v := u') (h := h.cell), by rw [World.frozen?_setCell]; exact h.free, by have := (Keeps.setCell w v 0 u').size; have := h.old; omega⟩


set_option maxHeartbeats 1000000 in
theorem c_take (v0 v1 v2 : Nat) (M L : List Nat) (oa sa : Option Addr) (on oc m sc : Nat) (out st : List Int) (y : Int) (s : ByteArray) (w : World)
    (h0 : Box w v0 (.slice oa on oc)) (h1 : Box w v1 (.slice sa (m + 1) sc)) (h2 : Box w v2 (.string s)) (hout : Ow w 3 M oa on oc (ints out)) (hst : Ow w 3 L sa (m + 1) sc (ints (y :: st).reverse))
    (d01 : v0 ≠ v1) (d02 : v0 ≠ v2) (d12 : v1 ≠ v2) (hM : ∀ v, v ∈ M → v ≠ v0 ∧ v ≠ v1 ∧ v ≠ v2) (hL : ∀ v, v ∈ L → v ≠ v0 ∧ v ≠ v1 ∧ v ≠ v2) (hap : Apart M L) (hon : on ≤ 100) (hm : m ≤ 100) (hs : s.size ≤ 100) :
    Calls Try.prog 58 #[.pointer (some ⟨v0, 0, none⟩), .pointer (some ⟨v1, 0, none⟩), .pointer (some ⟨v2, 0, none⟩)] w fun e w' => e = .returned (.tuple #[]) ∧ ∃ M' oa' oc',
      Box w' v0 (.slice oa' (on + 1) oc') ∧ Box w' v1 (.slice sa m sc) ∧ Box w' v2 (.string (s ++ ⟨#[116]⟩)) ∧ Ow w' 3 M' oa' (on + 1) oc' (ints (out ++ [y])) ∧ Ow w' 3 L sa m sc (ints st.reverse) ∧ Step w M M' ∧ Keeps (v0 :: v1 :: v2 :: M) w w' := by
  have hsl : st.length = m := by have := hst.lens; simpa using this
  obtain ⟨g, rfl, rfl, _, hsc, _⟩ := hst.int (by have := hst.le; omega)
  have cy := hsc m (by omega)
  have e2 : nth (y :: st).reverse m = y := by rw [← hsl, nth_top]
  rw [e2] at cy
  clear hsc e2
  have c0 := h0.cell
  have c1 := h1.cell
  have c2 := h2.cell
  have f0 := h0.free
  have f1 := h1.free
  have f2 := h2.free
  go_enter Try.func58, Try.ntmps58
  go_wp2_with fail
  have c0a : ∀ o, (w.alloc o).cell? ⟨v0, 0, none⟩ = some (.slice oa on oc) := fun o => (h0.keep (Keeps.alloc [] w o) (by simp)).cell
  have hb8 : (on + 1) * 8 ≤ 140737488355328 := by omega
  have hb9 : on + 1 ≤ maxLen := by unfold maxLen; omega
  have hlt : (m : Int) < (m : Int) + 1 := by omega
  have hwm : IntKind.i64.wrap (m : Int) = (m : Int) := by rw [IntKind.wrap_i64]; omega
  go_region_law (refine step_appG rfl (.tmp 3) (.tmp 10) 24 rfl 3 Try.underlying24 infoInt rfl (by simp [Act.eval, Act.put]) (by simp [Act.eval, Act.put]) (xa := some ⟨w.heap.size, 0, none⟩) (m := 1) (xcap := 1) (hout.alloc _).drew (Rd.one _ _ _).drew (one_int y) hb8 hb9 ?_; intro a5 cap5 L5 w5 hc5 ow5 kp5 st5; have al := Keeps.alloc [] w (.cells #[.int .i64 y] 3); have q0 := (((h0.keep al (by simp)).keep (Keeps.drew [] _) (by simp)).keep kp5 (fun hi => (hM _ hi).1 rfl)); have q1 := (((h1.keep al (by simp)).keep (Keeps.drew [] _) (by simp)).keep kp5 (fun hi => (hM _ hi).2.1 rfl)); have q2 := (((h2.keep al (by simp)).keep (Keeps.drew [] _) (by simp)).keep kp5 (fun hi => (hM _ hi).2.2 rfl)); have q0c := q0.cell; have q0f := q0.free; have q1c := q1.cell; have q1f := q1.free; have q2c := q2.cell; have q2f := q2.free)
  all_goals
    have hst5 : Ow w5 3 [g] (some ⟨g, 0, none⟩) (m + 1) sc (ints (y :: st).reverse) := (((hst.alloc (.cells #[.int .i64 y] 3)).drew).keep kp5 hap.symm.symm.symm)
    have x0 := q0.set (.slice a5 (on + 1) cap5)
    have x1 := q1.keep (Keeps.setCell w5 v0 0 (.slice a5 (on + 1) cap5)) (by simpa using fun h => d01 h.symm)
    have x2 := q2.keep (Keeps.setCell w5 v0 0 (.slice a5 (on + 1) cap5)) (by simpa using fun h => d02 h.symm)
    have y0 := x0.keep (Keeps.setCell _ v1 0 (.slice (some ⟨g, 0, none⟩) m sc)) (by simpa using d01)
    have y1 := x1.set (.slice (some ⟨g, 0, none⟩) m sc)
    have y2 := x2.keep (Keeps.setCell _ v1 0 (.slice (some ⟨g, 0, none⟩) m sc)) (by simpa using fun h => d12 h.symm)
    have x1c := x1.cell
    have x1f := x1.free
    have y2c := y2.cell
    have y2f := y2.free
    clear q0c q0f q1c q1f q2c q2f
    have hle := hst5.le
    go_wp2_with ((with_reducible show wpList _ _ _ (⟨some 16, _, _, _, _, _⟩ :: _) _ _); refine wpList_upto _ rfl (.tmp 12) (.tmp 15) 24 rfl 3 Try.underlying24 szInt m rfl rfl (by omega) (by omega) ?_)
    go_end0
    have hL5 : ∀ v, v ∈ L5 → v ≠ v0 ∧ v ≠ v1 ∧ v ≠ v2 := fun v hv => by
      rcases st5 v hv with h | h
      · exact hM v h
      · have := h0.old; have := h1.old; have := h2.old; simp at h; omega
    have h6 := hst5.head m (by omega)
    rw [ints_take, ← hsl, rev_pop, hsl] at h6
    have k1 : Keeps (v0 :: v1 :: v2 :: M) w (w.alloc (.cells #[.int .i64 y] 3)) := Keeps.alloc _ _ _
    have k2 := k1.trans (Keeps.drew (v0 :: v1 :: v2 :: M) _) (Step.refl _ _)
    have k3 := k2.trans (kp5.mono (L' := v0 :: v1 :: v2 :: M) (fun i h => .inl (by simp [h]))) (Step.refl _ _)
    have s0 := Keeps.setCell w5 v0 0 (.slice a5 (on + 1) cap5)
    have s1 := Keeps.setCell (w5.setCell ⟨v0, 0, none⟩ (.slice a5 (on + 1) cap5)) v1 0 (.slice (some ⟨g, 0, none⟩) m sc)
    have s2 := Keeps.setCell ((w5.setCell ⟨v0, 0, none⟩ (.slice a5 (on + 1) cap5)).setCell ⟨v1, 0, none⟩ (.slice (some ⟨g, 0, none⟩) m sc)) v2 0 (.string (s ++ ⟨#[116]⟩))
    refine ⟨rfl, L5, a5, cap5, y0.keep s2 (by simpa using d02), y1.keep s2 (by simpa using d12), y2.set _, ?_, ?_, ?_, ?_⟩
    · rw [← ints_snoc]
      exact ((ow5.keep s0 (fun i hi hm => (hL5 i hi).1 (by simpa using hm))).keep s1 (fun i hi hm => (hL5 i hi).2.1 (by simpa using hm))).keep s2 (fun i hi hm => (hL5 i hi).2.2 (by simpa using hm))
    · exact ((h6.keep s0 (fun i hi hm => (hL i hi).1 (by simpa using hm))).keep s1 (fun i hi hm => (hL i hi).2.1 (by simpa using hm))).keep s2 (fun i hi hm => (hL i hi).2.2 (by simpa using hm))
    · intro v hv
      rcases st5 v hv with h | h
      · exact .inl h
      · exact .inr (by simp at h; omega)
    · exact ((k3.trans (s0.mono (L' := v0 :: v1 :: v2 :: M) (fun i h => .inl (by simp at h; simp [h]))) (Step.refl _ _)).trans (s1.mono (L' := v0 :: v1 :: v2 :: M) (fun i h => .inl (by simp at h; simp [h]))) (Step.refl _ _)).trans (s2.mono (L' := v0 :: v1 :: v2 :: M) (fun i h => .inl (by simp at h; simp [h]))) (Step.refl _ _)


end Go.Proofs.Ytiiijijbkacneaa

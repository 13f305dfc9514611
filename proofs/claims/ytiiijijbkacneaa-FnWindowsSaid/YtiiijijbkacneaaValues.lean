/- The library's slices.Sorted over slices.Values: the same numbers, in order, in a new row. No condition but lengths. -/
import Derived.RangeFuncBox
import Derived.RangeFuncLeaves
import Derived.Shelf.Abstract
import Derived.WalkKit
import Derived.OwnWalkIn
import Derived.TacticsInMore
import Derived.LoopNIn
import Derived.LoopIn
import Derived.Maps.AppendAt
import Derived.Test.YtiiijijbkacneaaSortW
namespace Go.Proofs.Ytiiijijbkacneaa
open Go.RowKit Go.Shelf
set_option linter.unusedVariables false
attribute [local go_sem] Oper.semAt_some

def uptoN (xs : List Int) (k : Nat) : List Int := (List.range k).map fun j => nth xs j
theorem uptoN_succ (xs : List Int) (k : Nat) : uptoN xs (k + 1) = uptoN xs k ++ [nth xs k] := by simp [uptoN, List.range_succ]
theorem uptoN_length (xs : List Int) (k : Nat) : (uptoN xs k).length = k := by simp [uptoN]
theorem uptoN_all (xs : List Int) : uptoN xs xs.length = xs := by
  apply List.ext_getElem
  · simp [uptoN]
  · intro i h1 h2
    simp [uptoN, nth, List.getD, h2]


set_option maxRecDepth 100000 in
set_option maxHeartbeats 2000000 in
/-- slices.Values's closure, for every loop body that keeps what lay below n₀. -/
theorem c_values1 (l Bs n₀ b off len cap n : Nat) (hn : 1 ≤ n) (xs : List Int) (hreach : len ≤ 1000) (hb : b < n₀) (J Jx : List Int → World → Prop)
    (hY : ∀ pre x W, J pre W → pre.length < len → YieldAt Fence.wide (n - 1) Try.prog l #[.int .i64 x] W fun e W' =>
      (e = .returned (.bool true) ∧ J (pre ++ [x]) W' ∧ Below n₀ W W') ∨ (e = .returned (.bool false) ∧ Jx (pre ++ [x]) W'))
    (W : World) (hBs : W.cell? ⟨Bs, 0, none⟩ = some (.slice (some ⟨b, off, none⟩) len cap)) (hc : ∀ j, j < len → W.cell? ⟨b, off + j, none⟩ = some (.int .i64 (nth xs j))) (h0 : J [] W) :
    CallsIn Fence.wide n Try.prog 66 #[.func (.yield l) #[] #[], .pointer (some ⟨Bs, 0, none⟩)] W fun e W' => (∃ v, e = .returned v) ∧
      ((∃ ys, ys = uptoN xs len ∧ J ys W') ∨ (∃ pre, (∃ k, k ≤ len ∧ pre = uptoN xs k) ∧ Jx pre W')) := by
  refine callsIn_of_wp Try.func66 rfl trivial ?_ rfl
  simp only [Try.ntmps66, List.size_toArray, List.length_cons, List.length_nil, Nat.reduceAdd, Nat.reduceSub, Array.replicate_succ, Array.replicate_zero, List.push_toArray, List.append_toArray, List.nil_append, List.cons_append]
  gi_wp2
  gi_loopw [7] (fun i wr => ∃ k : Nat, k ≤ len ∧ i = .int .i64 k ∧ J (uptoN xs k) wr ∧ Below n₀ W wr)
    (fun i _ => len - (intOf i).toNat)
  case atStart => exact ⟨0, Nat.zero_le _, rfl, h0, Below.refl _ _⟩
  case round =>
    obtain ⟨k, hk, rfl, hJs, hnx⟩ := hrel
    have hcx : k < len → wr.cell? ⟨b, off + k, none⟩ = some (.int .i64 (nth xs k)) := fun h => (hnx.cell (p := ⟨b, off + k, none⟩) hb).trans (hc k h)
    by_cases hlt : k < len
    · obtain ⟨fn, tmps, assign, body, hy, hR⟩ := hY _ (nth xs k) wr hJs (by rw [uptoN_length]; exact hlt)
      have hcx' := hcx hlt
      gi_wp2
      refine hR.mono ?_
      rintro e W3 (⟨rfl, hJ3, hk3⟩ | ⟨rfl, hJx3⟩)
      · gi_wp2
        go_roundw
        case rel => exact ⟨k + 1, by omega, by simp, by rw [uptoN_succ]; exact hJ3, hnx.trans hk3⟩
        case measure => simp [intOf]; omega
      · gi_wp2
        refine bodyPost_ret (results_none rfl _ _ _) rfl ?_
        exact ⟨⟨_, rfl⟩, .inr ⟨_, ⟨k + 1, by omega, (uptoN_succ _ _).symm⟩, hJx3⟩⟩
    · obtain rfl : k = len := by omega
      gi_wp2
      go_end0
      exact ⟨⟨_, rfl⟩, .inl ⟨_, rfl, hJs⟩⟩

theorem values_stops (n : Nat) (hn : 1 ≤ n) (Bs n₀ b off len cap : Nat) (xs : List Int) (hl : xs.length = len) (hreach : len ≤ 1000) (w : World) (hBs : Bs < w.heap.size) (hn₀ : n₀ ≤ w.heap.size) (hb : b < n₀)
    (hcs : w.cell? ⟨Bs, 0, none⟩ = some (.slice (some ⟨b, off, none⟩) len cap)) (hc : ∀ j, j < len → w.cell? ⟨b, off + j, none⟩ = some (.int .i64 (nth xs j))) :
    SeqStopsK Fence.wide n Try.prog 66 #[.pointer (some ⟨Bs, 0, none⟩)] (fun x : Int => #[Value.int .i64 x]) (Below n₀) (fun ys => ys = xs) (fun _ => True) len w := fun l J Jx W hW _ _ hY h0 => by
  have hc' := (hW.cell (p := ⟨Bs, 0, none⟩) hBs).trans hcs
  refine (c_values1 l Bs n₀ b off len cap n hn xs hreach hb J Jx hY W hc' (fun j hj => (hW.cell (p := ⟨b, off + j, none⟩) (by show b < w.heap.size; omega)).trans (hc j hj)) h0).mono ?_
  rintro e W' ⟨he, ⟨ys, rfl, hj⟩ | ⟨pre, ⟨k, hk, rfl⟩, hj⟩⟩
  · exact ⟨he, .inl ⟨_, by rw [← hl]; exact uptoN_all xs, hj⟩⟩
  · exact ⟨he, .inr ⟨_, trivial, hj⟩⟩

theorem c_values (a : Option Addr) (len cap : Nat) (w : World) :
    Calls Try.prog 53 #[.slice a len cap] w fun e w' => e = .returned (.func (.func 66) #[] #[.pointer (some ⟨w.heap.size, 0, none⟩)]) ∧ w' = w.alloc (.cells #[.slice a len cap] 24) := by
  have hmf : ∀ (fn : Fn) (first cp : Array Value) (w : World), (Instr.makeFunc fn first cp).run Try.prog w = .ok (.func fn first cp) w := fun _ _ _ _ => rfl
  go_enter Try.func53, Try.ntmps53
  go_wp2
  go_ret
  exact ⟨rfl, rfl⟩

theorem infoIntV : (Try.prog.info? 3).map (fun i => (i.zero, i.size, i.bytes)) = some (some (.int .i64 0), 1, 8) := by kernel_rfl

set_option maxRecDepth 100000 in
set_option maxHeartbeats 2000000 in
theorem c_appendSeq (Bs b off len cap : Nat) (xs : List Int) (hl : xs.length = len) (hreach : len ≤ 1000) (w : World) (hBs : Bs < w.heap.size) (hb : b < w.heap.size)
    (hcs : w.cell? ⟨Bs, 0, none⟩ = some (.slice (some ⟨b, off, none⟩) len cap)) (hc : ∀ j, j < len → w.cell? ⟨b, off + j, none⟩ = some (.int .i64 (nth xs j))) :
    CallsIn Fence.wide 5 Try.prog 69 #[.slice none 0 0, .func (.func 66) #[] #[.pointer (some ⟨Bs, 0, none⟩)]] w fun e W' => ∃ v, e = .returned v ∧ W'.ownsRow w.heap.size 3 1 v xs.length (xs.map (Value.int .i64)) ∧ (v = .slice none 0 0 ↔ xs = []) ∧ Below w.heap.size w W' := by
  obtain ⟨i0, hi, hz0, hz1, hz2⟩ := info_parts infoIntV
  refine callsIn_of_wp_marks Try.func69 rfl trivial ?_ rfl
  simp only [Try.ntmps69, List.size_toArray, List.length_cons, List.length_nil, Nat.reduceAdd, Nat.reduceSub, Array.replicate_succ, Array.replicate_zero, List.push_toArray, List.append_toArray, List.nil_append, List.cons_append]
  gi_wp2
  have bO := Boxed.new w 24 (.slice none 0 0)
  have hB0 : Below w.heap.size w (w.alloc (.cells #[.slice none 0 0] 24)) := (Below.refl _ w).alloc (Nat.le_refl _) _
  refine wpIn_rangeFunc_ownG rfl (by omega) (gf := 66) (lb := #[.pointer (some ⟨Bs, 0, none⟩)]) rfl trivial (enters_of Try.func66 (by kernel_rfl) rfl)
    (values_stops (5 - 1) (by omega) Bs w.heap.size b off len cap xs hl hreach (w.alloc (.cells #[.slice none 0 0] 24)) (by simp; omega) (by simp) hb ((hB0.cell (p := ⟨Bs, 0, none⟩) hBs).trans hcs) (fun j hj => (hB0.cell (p := ⟨b, off + j, none⟩) hb).trans (hc j hj))) belowK_t (belowK_b (by simp)) (Below.refl _ _) (fun _ => rfl)
    (fun pre W => (∃ v, Boxed W w.heap.size 24 v ∧ W.ownsRow w.heap.size 3 1 v pre.length (pre.map (Value.int .i64)) ∧ (v = .slice none 0 0 ↔ pre = [])) ∧ Below w.heap.size w W)
    (fun _ _ _ => False)
    (OwnFrom.and (Own.from (holdsRow_own w.heap.size w.heap.size 24 3 1 (fun pre : List Int => pre.length) (fun pre => pre.map (Value.int .i64)) (fun pre v => v = .slice none 0 0 ↔ pre = [])) _) (ownFrom_below (Nat.le_refl _) (by simp)))
    (fun _ _ _ _ _ hs _ _ => hs)
    ⟨⟨_, bO, World.ownsRow_nil _ _ _ _, by simp⟩, hB0⟩
    (fun x => { tmps := #[.slice none 0 0, .func (.func 66) #[] #[.pointer (some ⟨Bs, 0, none⟩)], .pointer (some ⟨w.heap.size, 0, none⟩), undef, .slice none 0 0, .int .i64 x, .func (.func 66) #[] #[.pointer (some ⟨Bs, 0, none⟩)], .int .i64 x, undef, undef, undef, undef, undef], defers := [] }) ?assign ?body ?done ?stop
  case assign =>
    intro l x W K hK
    gi_wp2
    exact hK
  case body =>
    rintro l pre x W ⟨⟨v, hv, hrow, hnil⟩, hB⟩ hlt
    have hc := hv.cell
    gi_wp2_with (gi_at_builtin; refine wpListIn_append_own _ rfl _ _ 24 rfl w.heap.size 3 i0 (.int .i64 0) 1 8 Try.underlying24 hi hz0 hz1 hz2 rfl (by decide) _ _ _ rfl (hrow.alloc _) ⟨W.heap.size, 0, none⟩ 1 1 [.int .i64 x] rfl rfl (cell_one_new _ _ _) (by simp [Value.oneCell']) (by unfold maxLen; omega) (by omega) (by have := hB.size; simp; omega) ?_; intro v' w1 hown' hgrow _; obtain ⟨g', cap', rfl⟩ := ownsRow_succ hown'; obtain ⟨hv1, hv2, hr2, hk2, hb2⟩ := hv.appended (by decide) hrow hB.size (Nat.le_refl _) hown' hgrow; have hc1 := hv1.cell; have hf1 := hv1.frozen)
    exact ⟨hk2.from _, hb2, ⟨_, hv2, by simpa using hr2, by simp⟩, hB.trans hb2⟩
  case done =>
    rintro D ys W hD rfl ⟨⟨v, hv, hrow, hnil⟩, hB⟩ hK
    have hc := hv.cell
    gi_wp2
    refine ⟨by simp, .inl ⟨_, _, rfl, run_takeDeferred hK, ?_⟩⟩
    exact ⟨_, results_tmp rfl _ _ _, v, rfl, ownsRow_putObj hrow _ hK rfl, hnil, hB.trans (belowK_b (w := w) (Nat.le_refl _) W D _ _ (by simp at hD; omega) hK rfl rfl)⟩
  case stop =>
    rintro D c pre W _ _ h _
    exact h.elim

/-- slices.Sorted(slices.Values(..)), behind the call of Values. -/
theorem c_sortedV (Bs b off len cap : Nat) (xs : List Int) (hl : xs.length = len) (hp : 0 < len) (hreach : len ≤ 1000) (w : World) (hBs : Bs < w.heap.size) (hb : b < w.heap.size)
    (hcs : w.cell? ⟨Bs, 0, none⟩ = some (.slice (some ⟨b, off, none⟩) len cap)) (hc : ∀ j, j < len → w.cell? ⟨b, off + j, none⟩ = some (.int .i64 (nth xs j))) :
    Calls Try.prog 52 #[.func (.func 66) #[] #[.pointer (some ⟨Bs, 0, none⟩)]] w fun e w' => ∃ sa sc, e = .returned (.slice sa len sc) ∧ OwI w' 3 w.heap.size sa len sc (srt xs) ∧ Below w.heap.size w w' := by
  have HL := Lib.hid hl
  have happ := callsIn_wide.1 (c_appendSeq Bs b off len cap xs hl hreach w hBs hb hcs hc)
  have hcol : Calls Try.prog 64 #[.func (.func 66) #[] #[.pointer (some ⟨Bs, 0, none⟩)]] w fun e W' => ∃ v, e = .returned v ∧ W'.ownsRow w.heap.size 3 1 v xs.length (xs.map (Value.int .i64)) ∧ (v = .slice none 0 0 ↔ xs = []) ∧ Below w.heap.size w W' := by
    go_enter Try.func64, Try.ntmps64
    go_wp2_with fail
    refine happ.mono ?_
    rintro e w1 ⟨v, rfl, h1, h2, h3⟩
    go_wp2_with fail
    go_ret
    exact ⟨v, rfl, h1, h2, h3⟩
  clear happ
  go_enter Try.func52, Try.ntmps52
  go_wp2_with fail
  refine hcol.mono ?_
  rintro e w1 ⟨v, rfl, h1, h2, h3⟩
  rw [hl] at h1
  rcases h1.2 with ⟨_, h0⟩ | ⟨g, cp, cur, rfl, hg, hgh, hle, hmx, hsz, htk⟩
  · omega
  · rw [Nat.mul_one] at hsz htk
    have how : Ow w1 3 [g] (some ⟨g, 0, none⟩) len cp (ints xs) := ⟨by simpa using hl, hle, hmx, .inr ⟨g, cur, rfl, rfl, hgh, hsz, htk⟩⟩
    have hgl : g < w1.heap.size := (Array.getElem?_eq_some_iff.1 hgh).1
    clear h1 h2 hcol
    go_wp2_with (go_at_call 65; refine (c_Sort (some ⟨g, 0, none⟩) len cp [g] xs w1 how ⟨g, 0, rfl, hgl⟩ hreach).mono ?_; rintro e w2 ⟨rfl, ow2, k2⟩)
    go_ret
    refine ⟨some ⟨g, 0, none⟩, cp, rfl, ⟨[g], ow2, fun i hi => by simp at hi; omega⟩, k2.below h3 (fun i hi => by simp at hi; omega) h3.size⟩


end Go.Proofs.Ytiiijijbkacneaa

/- The library's slices.Delete of one element at runs (structs of two cells). No condition but lengths. -/
import Derived.Test.YtaffokicnabkiaaTwo
import Derived.Test.YtaffokicnabkiaaHelp
import Derived.Deep.RegionLaw
namespace Go.Proofs.Ytaffokicnabkiaa
open Go.RowKit
set_option linter.unusedVariables false
set_option linter.unusedSimpArgs false

/-- append at elements of two cells as one step of a region that draws its order. -/
theorem step_app2 {P : Program} {ops : Array Oper} {o : Oper} {a : Act} {w : World} {K : Act → World → Prop} {Q : Exit → Act → World → Prop} {E : Prop}
    (hg : o.guard = none) (s x : Operand) (t : TypeId) (hop : o.op = Op.call { callee := Callee.builtin Builtin.append, args := #[s, x], argTypes := #[t, t] })
    (T : TypeId) {z : Value} {bytes : Nat} (ht : P.underlying t = some (.slice T)) (hinfo : (P.info? T).map (fun i => (i.zero, i.size, i.bytes)) = some (some z, 2, bytes)) (hz1 : z.cells.size = 2)
    {L : List Nat} {sa : Option Addr} {n cap : Nat} {vs : List Value} {xa : Option Addr} {m xcap : Nat} {news : List Value} (hs : a.eval s = .slice sa n cap) (hx : a.eval x = .slice xa m xcap)
    (own : Ow2 w T L sa n cap vs) (src : Rd2 w xa m xcap news) (h1 : ∀ u ∈ news, u.oneCell' = true) (hb : (n + m) * bytes ≤ 140737488355328) (h63 : n + m ≤ maxLen)
    (hK : ∀ a' cap' L' w', (n + m ≤ cap → a' = sa ∧ cap' = cap ∧ L' = L) → Ow2 w' T L' a' (n + m) cap' (vs ++ news) → Keeps L w w' → Step w L L' → K (a.put o.dst (.slice a' (n + m) cap')) w') :
    if Region.wanted o (yielded ops a.tmps) = true then Oper.wp P o a w K Q else E := by
  have hw : Region.wanted o (yielded ops a.tmps) = true := by simp [Region.wanted, hg]
  rw [if_pos hw]
  obtain ⟨a', cap', L', w', hrun, r1, r2, r3, r4⟩ := run_app2 (P := P) t o.type T ht hinfo hz1 own src h1 hb h63
  unfold Oper.wp
  simp [execOp, hop, resolve, invoke, builtin, hs, hx, hrun, Result.andThen]
  exact hK a' cap' L' w' r4 r1 r2 r3

/-- clear at the last element. -/
theorem run_clear2 {P : Program} {w : World} (t ty T : TypeId) (z : Value) (u v : Value) (ht : P.underlying t = some (.slice T)) (hv : ∀ w, (zeroValue T).run P w = .ok z w) (hz : z.cells = #[u, v]) (h1 : u.oneCell' = true) (h2 : v.oneCell' = true)
    {g n cap c : Nat} {cur : Array Value} {T' : TypeId} (hg : w.heap[g]? = some (.cells cur T' (0, 0))) (hs : cur.size = 2 * cap) (hn : n < cap) :
    ∃ cur', (Builtin.clear_ #[t] ty #[.slice (some ⟨g, n * 2, none⟩) 1 c]).run P w = .ok (.tuple #[]) (w.setRow g cur') ∧ cur'.size = 2 * cap ∧ cur'.toList.take (2 * n) = cur.toList.take (2 * n) := by
  have hzc : (Builtin.zeroCells z.cells 1).toList = [u, v] := by
    rw [hz]
    simp [Builtin.zeroCells]
    rfl
  have hst := run_storeCells_at P g (n * 2) T' [u, v] 0 cur w hg (by simp; omega) (by intro x hx; simp at hx; rcases hx with rfl | rfl <;> assumption)
  simp only [Nat.add_zero] at hst
  refine ⟨(cur.toList.take (n * 2) ++ [u, v] ++ cur.toList.drop (n * 2 + [u, v].length)).toArray, ?_, ?_, ?_⟩
  · simp [Builtin.clear_, run_underlying ht, hv, hzc]
    simp at hst
    simp [hst, Result.andThen]
  · simp; omega
  · rw [List.append_assoc, List.take_append_of_le_length (by simp; omega), Nat.mul_comm 2 n, List.take_take, Nat.min_self]


theorem infoRun : (Try.prog.info? 62).map (fun i => (i.zero, i.size, i.bytes)) = some (some (.agg #[.int .i64 0, .slice none 0 0]), 2, 32) := by kernel_rfl
set_option maxRecDepth 100000 in
set_option maxHeartbeats 4000000 in
theorem c_DelRun (a : Option Addr) (n cap i : Nat) (L : List Nat) (vs : List Value) (w : World) (h : Ow2 w 62 L a n cap vs) (hi : i < n) (hn : n ≤ 1000) (h1 : ∀ u ∈ vs, u.oneCell' = true) (x y : Int) (hx : x = i) (hy : y = (i : Int) + 1) :
    Calls Try.prog 61 #[.slice a n cap, .int .i64 x, .int .i64 y] w fun e w' => e = .returned (.slice a (n - 1) cap) ∧ Ow2 w' 62 L a (n - 1) cap (vs.take (2 * i) ++ vs.drop (2 * (i + 1))) ∧ Keeps L w w' := by
  subst hx; subst hy
  have hle := h.le
  have hmax := h.max
  unfold maxLen at hmax
  obtain ⟨g, rfl, rfl, hgl, _, _⟩ := h.at' (by omega)
  have OW := Lib.hid h
  have H1 := Lib.hid h1
  clear h h1
  have hne : ((i : Int) == (i : Int) + 1) = false := by rw [beq_eq_false_iff_ne]; omega
  have hi1 : (0 : Int) ≤ (i : Int) + 1 := by omega
  go_enter Try.func61, Try.ntmps61
  have hic : i ≤ cap := by omega
  have hjc : i + 1 ≤ cap := by omega
  obtain ⟨A, hA, SRC⟩ : ∃ A : Addr, (if cap = i + 1 then (some ⟨g, 0, none⟩ : Option Addr) else some ⟨g, (i + 1) * 2, none⟩) = some A ∧ Hid (Rd2 w.drew (some A) (n - (i + 1)) (cap - (i + 1)) (vs.drop (2 * (i + 1)))) := by
    have h := (OW.out.rd.drew).from (i + 1) (by omega)
    by_cases hc : cap = i + 1
    · refine ⟨⟨g, 0, none⟩, by rw [if_pos hc], ?_⟩
      rw [if_pos hc] at h
      exact Lib.hid h
    · refine ⟨⟨g, (i + 1) * 2, none⟩, by rw [if_neg hc], ?_⟩
      rw [if_neg hc, Option.map_some, Addr.add_lit, Nat.zero_add] at h
      exact Lib.hid h
  have HD := Lib.hid (OW.out.drew.head i (by omega))
  have HC := Lib.hid (fun (u : Value) (hu : u ∈ vs.drop (2 * (i + 1))) => H1.out u (List.mem_of_mem_drop hu))
  have hi2 : (i : Int) + 1 ≤ (n : Int) := by omega
  go_wp2_with fail
  clear hne
  go_region_law (refine step_app2 rfl (.tmp 22) (.tmp 25) 60 rfl 62 Try.underlying60 infoRun rfl (by simp [Act.eval, Act.put]) (by simp [Act.eval, Act.put]) HD.out SRC.out HC.out (by omega) (by unfold maxLen; omega) ?_; intro a1 cap1 L1 w1 hr1 ow1 kp1 st1; obtain ⟨rfl, rfl, rfl⟩ := hr1 (by omega))
  all_goals
    have e1 : i + (n - (i + 1)) = n - 1 := by omega
    rw [e1] at ow1 ⊢
    obtain ⟨m, rfl⟩ : ∃ m, n = m + 1 := ⟨n - 1, by omega⟩
    rw [Nat.add_sub_cancel] at ow1 ⊢
    obtain ⟨r1, r2, r3, r4⟩ := ow1
    rcases r4 with ⟨h0, _⟩ | ⟨g', cur, e, e', hg, hs, ht⟩
    · cases h0
    · have e2 := List.head_eq_of_cons_eq e
      subst e2
      obtain ⟨cur', hcl, hcs, hct⟩ := run_clear2 (P := Try.prog) (n := m) (c := cap1 - m) 60 0 62 _ _ _ Try.underlying60 (fun _ => rfl) rfl rfl rfl hg hs (by omega)
      have hz1 : (m : Int) ≤ (m : Int) + 1 := by omega
      clear hA hr1
      go_wp2
      go_ret
      refine ⟨rfl, ⟨r1, by omega, r3, .inr ⟨g, cur', rfl, rfl, setRow_heap _ g cur _ _ _ hg, hcs, hct.trans ht⟩⟩, ?_⟩
      exact ((Keeps.drew [g] w).trans kp1 (Step.refl _ _)).trans (Keeps.setRow _ _ _) (Step.refl _ _)

end Go.Proofs.Ytaffokicnabkiaa

/- Rows of elements of two cells: reads as, owns, append, slices of slices. No condition but lengths. -/
import Derived.Test.YtaffokicnabkiaaMem
namespace Go.Proofs.Ytaffokicnabkiaa
open Go.RowKit
set_option linter.unusedVariables false

/-- A slice value of n elements of two cells reads as the cells vs. -/
structure Rd2 (w : World) (a : Option Addr) (n cap : Nat) (vs : List Value) : Prop where
  len : vs.length = 2 * n
  le : n ≤ cap
  max : cap ≤ maxLen
  at' : 0 < n → ∃ b off, a = some ⟨b, off, none⟩ ∧ b < w.heap.size ∧ ∀ j, j < 2 * n → w.cell? ⟨b, off + j, none⟩ = vs[j]?

/-- It owns a row of the blocks L (one block or none). -/
def Ow2 (w : World) (T : TypeId) (L : List Nat) (a : Option Addr) (n cap : Nat) (vs : List Value) : Prop :=
  vs.length = 2 * n ∧ n ≤ cap ∧ cap ≤ maxLen ∧
  ((L = [] ∧ cap = 0) ∨ ∃ g cur, L = [g] ∧ a = some ⟨g, 0, none⟩ ∧ w.heap[g]? = some (.cells cur T (0, 0)) ∧ cur.size = 2 * cap ∧ cur.toList.take (2 * n) = vs)

section
variable {w : World} {T : TypeId} {L : List Nat} {a : Option Addr} {n cap : Nat} {vs : List Value}
theorem Ow2.len (h : Ow2 w T L a n cap vs) : vs.length = 2 * n := h.1
theorem Ow2.le (h : Ow2 w T L a n cap vs) : n ≤ cap := h.2.1
theorem Ow2.max (h : Ow2 w T L a n cap vs) : cap ≤ maxLen := h.2.2.1
theorem Ow2.old (h : Ow2 w T L a n cap vs) : Old w L := by
  intro k hk
  rcases h.2.2.2 with ⟨rfl, _⟩ | ⟨g, cur, rfl, _, hg, _⟩
  · cases hk
  · simp at hk; subst hk
    exact (Array.getElem?_eq_some_iff.1 hg).1
theorem Ow2.keep {w' : World} {M : List Nat} (h : Ow2 w T L a n cap vs) (k : Keeps M w w') (hn : Apart L M) : Ow2 w' T L a n cap vs := by
  refine ⟨h.1, h.2.1, h.2.2.1, ?_⟩
  rcases h.2.2.2 with h1 | ⟨g, cur, rfl, h1, hg, h2⟩
  · exact .inl h1
  · exact .inr ⟨g, cur, rfl, h1, (k.block g (Array.getElem?_eq_some_iff.1 hg).1 (hn g (by simp))).trans hg, h2⟩
theorem Ow2.below {w' : World} (h : Ow2 w T L a n cap vs) (k : Below w.heap.size w w') : Ow2 w' T L a n cap vs := h.keep (Keeps.of_below k []) (fun _ _ h => by cases h)
theorem Ow2.alloc (h : Ow2 w T L a n cap vs) (o : Obj) : Ow2 (w.alloc o) T L a n cap vs := h.keep (Keeps.alloc [] w o) (fun _ _ h => by cases h)
theorem Ow2.drew (h : Ow2 w T L a n cap vs) : Ow2 w.drew T L a n cap vs := h
theorem Ow2.drewN (h : Ow2 w T L a n cap vs) (m : Nat) : Ow2 (w.drewN m) T L a n cap vs := h
theorem Ow2.at' (h : Ow2 w T L a n cap vs) (hp : 0 < cap) :
    ∃ g, L = [g] ∧ a = some ⟨g, 0, none⟩ ∧ g < w.heap.size ∧ (∀ j, j < 2 * n → w.cell? ⟨g, j, none⟩ = vs[j]?) ∧ ∀ j, w.frozen? ⟨g, j, none⟩ = false := by
  rcases h.2.2.2 with ⟨_, h1⟩ | ⟨g, cur, rfl, rfl, hg, hs, ht⟩
  · omega
  · refine ⟨g, rfl, rfl, (Array.getElem?_eq_some_iff.1 hg).1, fun j hj => ?_, fun j => frozen_of_row w g j cur T hg⟩
    rw [cell_of_row w g j cur T (0, 0) hg, ← ht, List.getElem?_take, if_pos hj]
    simp
theorem Ow2.rd (h : Ow2 w T L a n cap vs) : Rd2 w a n cap vs := ⟨h.1, h.2.1, h.2.2.1, fun hp => by
  obtain ⟨g, rfl, rfl, hg, hc, _⟩ := h.at' (Nat.lt_of_lt_of_le hp h.2.1)
  exact ⟨g, 0, rfl, hg, fun j hj => by rw [Nat.zero_add]; exact hc j hj⟩⟩
theorem Ow2.head (h : Ow2 w T L a n cap vs) (k : Nat) (hk : k ≤ n) : Ow2 w T L a k cap (vs.take (2 * k)) := by
  refine ⟨by rw [List.length_take, h.1]; omega, by have := h.2.1; omega, h.2.2.1, ?_⟩
  rcases h.2.2.2 with h1 | ⟨g, cur, rfl, rfl, hg, hs, ht⟩
  · exact .inl h1
  · exact .inr ⟨g, cur, rfl, rfl, hg, hs, by rw [← ht, List.take_take, Nat.min_eq_left (by omega)]⟩
theorem Ow2.bare (w : World) (T : TypeId) (a : Option Addr) : Ow2 w T [] a 0 0 [] := ⟨rfl, Nat.le_refl _, Nat.zero_le _, .inl ⟨rfl, rfl⟩⟩
theorem Rd2.keep {w' : World} (h : Rd2 w a n cap vs) (k : Keeps L w w') (hn : ∀ ad, a = some ad → ad.block ∉ L) : Rd2 w' a n cap vs :=
  ⟨h.len, h.le, h.max, fun hp => by
    obtain ⟨b, off, rfl, hb, hc⟩ := h.at' hp
    exact ⟨b, off, rfl, Nat.lt_of_lt_of_le hb k.size, fun j hj => (World.cell?_of_block (k.block b hb (hn _ rfl))).trans (hc j hj)⟩⟩
theorem Rd2.drew (h : Rd2 w a n cap vs) : Rd2 w.drew a n cap vs := ⟨h.len, h.le, h.max, h.at'⟩
theorem Rd2.from (h : Rd2 w a n cap vs) (lo : Nat) (h1 : lo ≤ n) : Rd2 w (if cap = lo then a else a.map (·.add (lo * 2))) (n - lo) (cap - lo) (vs.drop (2 * lo)) :=
  ⟨by rw [List.length_drop, h.len]; omega, by have := h.le; omega, by have := h.max; omega, fun hp => by
    obtain ⟨b, off, rfl, hb, hc⟩ := h.at' (by omega)
    have hle := h.le
    refine ⟨b, off + lo * 2, by rw [if_neg (by omega), Option.map_some, Addr.add_lit], hb, fun j hj => ?_⟩
    rw [Nat.add_assoc, hc (lo * 2 + j) (by omega), List.getElem?_drop, Nat.mul_comm]⟩
theorem Rd2.one (w : World) (T : TypeId) (u v : Value) : Rd2 (w.alloc (.cells #[u, v] T)) (some ⟨w.heap.size, 0, none⟩) 1 1 [u, v] :=
  ⟨rfl, Nat.le_refl _, by unfold maxLen; omega, fun _ => ⟨w.heap.size, 0, rfl, by simp, fun j hj => by
    rw [Nat.zero_add, cell_of_row (w.alloc (.cells #[u, v] T)) w.heap.size j #[u, v] T (0, 0) (heap_alloc_new w _)]
    simp⟩⟩
end

theorem firstCells_rd2 (P : Program) {w : World} {a : Option Addr} {n cap : Nat} {vs : List Value} (h : Rd2 w a n cap vs) : (Builtin.firstCells 2 n (.slice a n cap)).run P w = .ok vs.toArray w := by
  by_cases hp : 0 < n
  · obtain ⟨b, off, rfl, _, hc⟩ := h.at' hp
    refine run_firstCells_some w 2 n _ n cap vs (by rw [h.len, Nat.mul_comm]) (fun j v hv => ?_)
    have hj : j < 2 * n := by rw [← h.len]; exact (List.getElem?_eq_some_iff.1 hv).1
    rw [Addr.add_lit, hc j hj, hv]
  · obtain rfl : n = 0 := by omega
    obtain rfl : vs = [] := List.eq_nil_of_length_eq_zero h.len
    cases a <;> simp [Builtin.firstCells, loadCells, loadCellsFrom]

/-- What append does to a row of elements of two cells. -/
theorem run_app2 {P : Program} {w : World} (t ty T : TypeId) {z : Value} {bytes : Nat} (ht : P.underlying t = some (.slice T)) (hinfo : (P.info? T).map (fun i => (i.zero, i.size, i.bytes)) = some (some z, 2, bytes)) (hz1 : z.cells.size = 2)
    {L : List Nat} {a : Option Addr} {n cap : Nat} {vs : List Value} (own : Ow2 w T L a n cap vs) {xa : Option Addr} {m xcap : Nat} {news : List Value} (src : Rd2 w xa m xcap news) (h1 : ∀ u ∈ news, u.oneCell' = true)
    (hb : (n + m) * bytes ≤ 140737488355328) (h63 : n + m ≤ maxLen) :
    ∃ a' cap' L' w', (Builtin.append_ #[t, t] ty #[.slice a n cap, .slice xa m xcap]).run P w = .ok (.slice a' (n + m) cap') w' ∧ Ow2 w' T L' a' (n + m) cap' (vs ++ news) ∧ Keeps L w w' ∧ Step w L L' ∧ (n + m ≤ cap → a' = a ∧ cap' = cap ∧ L' = L) := by
  obtain ⟨i, hi, hz, hsize, hby⟩ := info_parts hinfo
  by_cases hm : m = 0
  · subst hm
    obtain rfl : news = [] := List.eq_nil_of_length_eq_zero src.len
    have hf := firstCells_rd2 P src
    refine ⟨a, cap, L, w, ?_, by simpa using own, Keeps.refl _ _, Step.refl _ _, fun _ => ⟨rfl, rfl, rfl⟩⟩
    have hle := own.le
    cases a <;> simp [Builtin.append_, run_underlying ht, sizeOf, typeInfo, hi, Builtin.lenOf, hsize, hf, hle, storeCells]
  · have hmp : 0 < m := by omega
    obtain ⟨xb, xo, rfl, hxb, hxc⟩ := src.at' hmp
    have hnews : ∀ j u, news[j]? = some u → w.cell? ((⟨xb, xo, none⟩ : Addr).add j) = some u := fun j v hv => by
      have hj : j < 2 * m := by rw [← src.len]; exact (List.getElem?_eq_some_iff.1 hv).1
      rw [Addr.add_lit, hxc j hj, hv]
    have hsl := src.len
    have hol := own.len
    by_cases hroom : n + m ≤ cap
    · rcases own.2.2.2 with ⟨_, h0⟩ | ⟨g, cur, rfl, rfl, hg, hs, htk⟩
      · omega
      · have hr := run_append_room (P := P) w t ty T i ht hi g n cap cur hg ⟨xb, xo, none⟩ m xcap news (by rw [hsl, hsize, Nat.mul_comm]) hnews h1 hroom (by rw [hsize, hsl]; omega)
        rw [hsize, Nat.mul_comm n 2] at hr
        refine ⟨_, _, [g], _, hr, ⟨by rw [List.length_append, hol, hsl]; omega, hroom, own.2.2.1, .inr ⟨g, _, rfl, rfl, setRow_heap w g cur _ T _ hg, ?_, ?_⟩⟩, Keeps.setRow _ _ _, Step.refl _ _, fun _ => ⟨rfl, rfl, rfl⟩⟩
        · simp only [List.size_toArray, List.length_append, List.length_take, List.length_drop, Array.length_toList]
          omega
        · rw [htk]
          exact List.take_left' (by rw [List.length_append, hol, hsl]; omega)
    · have hold : (Builtin.firstCells i.size n (.slice a n cap)).run P w.drew = .ok vs.toArray w.drew := by
        rw [hsize]; exact firstCells_rd2 P (w := w.drew) (own.drew).rd
      have hr := run_append_grow_src (P := P) w t t ty T i z ht hi hz a n cap vs hold (.slice (some ⟨xb, xo, none⟩) m xcap) m news (by rw [hsize]; exact Src.ofSlice w ht _ m xcap news (by rw [hsl, Nat.mul_comm]) hnews h1) (by omega) (by unfold maxLen at h63; omega)
        (by rw [hby]; exact growslice_fits (by omega) hb)
      have hge := grownCap_ge w (n + m) cap T
      refine ⟨_, _, [w.heap.size], _, hr, ⟨by rw [List.length_append, hol, hsl]; omega, hge, grownCap_le_maxLen w (n + m) cap T h63, .inr ⟨_, _, rfl, rfl, heap_alloc_new w.drew _, ?_, ?_⟩⟩, (Keeps.drew L w).trans (Keeps.alloc L w.drew _) (Step.refl _ _), fun k hk => .inr (by simp at hk; omega), fun h => absurd h hroom⟩
      · simp only [Array.size_append, List.size_toArray, List.length_append, size_zeroCells, hz1]
        omega
      · rw [Array.toList_append]
        exact List.take_left' (by simp only [List.length_append]; omega)

/-- The same for the walk. -/
theorem wpList_app2 {P : Program} (w : World) {ops : Array Oper} {rest : List Oper} {o : Oper} {act : Act} {Q : Exit → Act → World → Prop} (hgd : o.guard = none) (s x : Operand) (t : TypeId)
    (ho : o.op = .call { callee := .builtin .append, args := #[s, x], argTypes := #[t, t] })
    (T : TypeId) {z : Value} {bytes : Nat} (ht : P.underlying t = some (.slice T)) (hinfo : (P.info? T).map (fun i => (i.zero, i.size, i.bytes)) = some (some z, 2, bytes)) (hz1 : z.cells.size = 2)
    {L : List Nat} {a : Option Addr} {n cap : Nat} {vs : List Value} {xa : Option Addr} {m xcap : Nat} {news : List Value} (hs : act.eval s = .slice a n cap) (hx : act.eval x = .slice xa m xcap)
    (own : Ow2 w T L a n cap vs) (src : Rd2 w xa m xcap news) (h1 : ∀ u ∈ news, u.oneCell' = true) (hb : (n + m) * bytes ≤ 140737488355328) (h63 : n + m ≤ maxLen)
    (h : ∀ a' cap' L' w', Ow2 w' T L' a' (n + m) cap' (vs ++ news) → Keeps L w w' → Step w L L' → (n + m ≤ cap → a' = a ∧ cap' = cap ∧ L' = L) → wpList P ops Q rest (act.put o.dst (.slice a' (n + m) cap')) w') : wpList P ops Q (o :: rest) act w := by
  refine wpList_plain hgd fun K hK' => ?_
  obtain ⟨a', cap', L', w', hrun, r1, r2, r3, r4⟩ := run_app2 (P := P) t o.type T ht hinfo hz1 own src h1 hb h63
  unfold Oper.wp
  simp [execOp, ho, resolve, invoke, builtin, hs, hx, hrun, Result.andThen]
  exact hK' _ _ (h a' cap' L' w' r1 r2 r3 r4)
end Go.Proofs.Ytaffokicnabkiaa

/- Memory: when a slice value reads as a list, when the call itself owns it, what an operation leaves as it was. No condition. -/
import Derived.WalkKit
import Derived.Deep.AppendSrc
import Derived.Deep.Draws
import Derived.Lib.Hide
namespace Go.Proofs.Ytaffokicnabkiaa
open Go.RowKit

/-- Outside the blocks L the world w' is as w was; nothing has gone. -/
structure Keeps (L : List Nat) (w w' : World) : Prop where
  os : w'.os = w.os
  tape : w'.tape = w.tape
  output : w'.output = w.output
  size : w.heap.size ≤ w'.heap.size
  block : ∀ k, k < w.heap.size → k ∉ L → w'.heap[k]? = w.heap[k]?

/-- The blocks L' are blocks of L or new ones. -/
def Step (w : World) (L L' : List Nat) : Prop := ∀ k, k ∈ L' → k ∈ L ∨ w.heap.size ≤ k
/-- No block in common. -/
def Apart (L M : List Nat) : Prop := ∀ k, k ∈ L → k ∉ M
/-- All below the heap's end. -/
def Old (w : World) (L : List Nat) : Prop := ∀ k, k ∈ L → k < w.heap.size
/-- All from B on. -/
def New (B : Nat) (L : List Nat) : Prop := ∀ k, k ∈ L → B ≤ k

theorem Keeps.refl (L : List Nat) (w : World) : Keeps L w w := ⟨rfl, rfl, rfl, Nat.le_refl _, fun _ _ _ => rfl⟩
theorem Keeps.trans {L L' : List Nat} {a b c : World} (h : Keeps L a b) (k : Keeps L' b c) (s : Step a L L') : Keeps L a c :=
  ⟨k.os.trans h.os, k.tape.trans h.tape, k.output.trans h.output, Nat.le_trans h.size k.size, fun i hi hn =>
    (k.block i (Nat.lt_of_lt_of_le hi h.size) (fun hm => by rcases s i hm with h1 | h1; exact hn h1; omega)).trans (h.block i hi hn)⟩
theorem Keeps.mono {L L' : List Nat} {a b : World} (h : Keeps L a b) (s : ∀ k, k ∈ L → k ∈ L' ∨ a.heap.size ≤ k) : Keeps L' a b :=
  ⟨h.os, h.tape, h.output, h.size, fun i hi hn => h.block i hi (fun hm => by rcases s i hm with h1 | h1; exact hn h1; omega)⟩
theorem Keeps.of_below {w w' : World} (h : Below w.heap.size w w') (L : List Nat) : Keeps L w w' := ⟨h.os, h.tape, h.output, h.size, fun k hk _ => h.block k hk⟩
theorem Keeps.below {B : Nat} {L : List Nat} {W w w' : World} (hb : Below B W w) (h : Keeps L w w') (hn : New B L) (hB : B ≤ w.heap.size) : Below B W w' :=
  hb.trans ⟨h.os, h.tape, h.output, h.size, fun k hk => h.block k (by omega) (fun hm => by have := hn k hm; omega)⟩
theorem Keeps.below0 {w w' : World} {B : Nat} {L : List Nat} (h : Keeps L w w') (hn : New B L) (hB : B ≤ w.heap.size) : Below B w w' := Keeps.below (Below.refl _ _) h hn hB
theorem Keeps.alloc (L : List Nat) (w : World) (o : Obj) : Keeps L w (w.alloc o) := ⟨rfl, rfl, rfl, by simp, fun k hk _ => Below.heap_alloc w o k hk⟩
theorem Keeps.drew (L : List Nat) (w : World) : Keeps L w w.drew := ⟨rfl, rfl, rfl, Nat.le_refl _, fun _ _ _ => rfl⟩
theorem Keeps.drewN (L : List Nat) (w : World) (m : Nat) : Keeps L w (w.drewN m) := ⟨rfl, rfl, rfl, Nat.le_refl _, fun _ _ _ => rfl⟩
theorem Keeps.setCell (w : World) (g j : Nat) (u : Value) : Keeps [g] w (w.setCell ⟨g, j, none⟩ u) :=
  ⟨rfl, rfl, rfl, by simp [World.setCell], fun k _ hn => Below.heap_setCell _ _ _ _ (by simpa using hn)⟩
theorem Keeps.setRow (w : World) (g : Nat) (cs : Array Value) : Keeps [g] w (w.setRow g cs) := ⟨rfl, rfl, rfl, by simp, fun k _ hk => setRow_other w g k _ (by simpa using hk)⟩

theorem Step.refl (w : World) (L : List Nat) : Step w L L := fun _ h => .inl h
theorem Step.trans {w w' : World} {L L' L'' : List Nat} (h : Step w L L') (k : Step w' L' L'') (hs : w.heap.size ≤ w'.heap.size) : Step w L L'' := fun i hi => by
  rcases k i hi with h1 | h1
  · exact h i h1
  · exact .inr (by omega)
theorem Step.new {w : World} {L L' : List Nat} {B : Nat} (h : Step w L L') (n : New B L) (hB : B ≤ w.heap.size) : New B L' := fun i hi => by
  rcases h i hi with h1 | h1
  · exact n i h1
  · omega
theorem Apart.step {w : World} {L L' M : List Nat} (h : Apart L M) (s : Step w L L') (o : Old w M) : Apart L' M := fun k hk hm => by
  rcases s k hk with h1 | h1
  · exact h k h1 hm
  · have := o k hm; omega
theorem Apart.symm {L M : List Nat} (h : Apart L M) : Apart M L := fun k hk hm => h k hm hk
theorem Apart.of_new {w : World} {L M : List Nat} (o : Old w L) (n : New w.heap.size M) : Apart L M := fun k hk hm => by have := o k hk; have := n k hm; omega
theorem Apart.nil (M : List Nat) : Apart [] M := fun _ h => by cases h
theorem Old.keeps {w w' : World} {L M : List Nat} (o : Old w L) (k : Keeps M w w') : Old w' L := fun i hi => Nat.lt_of_lt_of_le (o i hi) k.size
theorem New.mono {B B' : Nat} {L : List Nat} (n : New B L) (h : B' ≤ B) : New B' L := fun k hk => Nat.le_trans h (n k hk)

/-- The number at place j. -/
def nth (xs : List Int) (j : Nat) : Int := xs.getD j 0
theorem nth_eq {xs : List Int} {j : Nat} (h : j < xs.length) : nth xs j = xs[j] := by simp [nth, List.getD, h]
theorem nth_some {xs : List Int} {j : Nat} (h : j < xs.length) : xs[j]? = some (nth xs j) := by simp [nth, List.getD, h]
theorem take_nth {xs : List Int} {k : Nat} (h : k < xs.length) : xs.take (k + 1) = xs.take k ++ [nth xs k] := by
  rw [List.take_add_one, nth_some h]; rfl

/-- A slice value with address a, length n, capacity cap reads as the list vs. -/
structure Rd (w : World) (a : Option Addr) (n cap : Nat) (vs : List Value) : Prop where
  len : vs.length = n
  le : n ≤ cap
  max : cap ≤ maxLen
  at' : 0 < n → ∃ b off, a = some ⟨b, off, none⟩ ∧ b < w.heap.size ∧ ∀ j, j < n → w.cell? ⟨b, off + j, none⟩ = vs[j]?

/-- The values of a list of ints. -/
abbrev ints (xs : List Int) : List Value := xs.map (Value.int .i64)
abbrev RdI (w : World) (a : Option Addr) (n cap : Nat) (xs : List Int) : Prop := Rd w a n cap (ints xs)

theorem ints_nth {xs : List Int} {j : Nat} (h : j < xs.length) : (ints xs)[j]? = some (.int .i64 (nth xs j)) := by
  rw [List.getElem?_map, nth_some h]; rfl

theorem Rd.keep {w w' : World} {a : Option Addr} {n cap : Nat} {vs : List Value} {L : List Nat} (h : Rd w a n cap vs) (k : Keeps L w w') (hn : ∀ ad, a = some ad → ad.block ∉ L) : Rd w' a n cap vs :=
  ⟨h.len, h.le, h.max, fun hp => by
    obtain ⟨b, off, rfl, hb, hc⟩ := h.at' hp
    exact ⟨b, off, rfl, Nat.lt_of_lt_of_le hb k.size, fun j hj => (World.cell?_of_block (k.block b hb (hn _ rfl))).trans (hc j hj)⟩⟩
theorem Rd.below {w w' : World} {a : Option Addr} {n cap : Nat} {vs : List Value} (h : Rd w a n cap vs) (k : Below w.heap.size w w') : Rd w' a n cap vs := h.keep (Keeps.of_below k []) (fun _ _ h => by cases h)
theorem Rd.lens {w : World} {a : Option Addr} {n cap : Nat} {xs : List Int} (h : RdI w a n cap xs) : xs.length = n := by simpa using h.len
theorem Rd.int {w : World} {a : Option Addr} {n cap : Nat} {xs : List Int} (h : RdI w a n cap xs) (hp : 0 < n) :
    ∃ b off, a = some ⟨b, off, none⟩ ∧ b < w.heap.size ∧ ∀ j, j < n → w.cell? ⟨b, off + j, none⟩ = some (.int .i64 (nth xs j)) := by
  obtain ⟨b, off, e, hb, hc⟩ := h.at' hp
  exact ⟨b, off, e, hb, fun j hj => by rw [hc j hj]; exact ints_nth (by rw [h.lens]; exact hj)⟩
theorem Rd.drew {w : World} {a : Option Addr} {n cap : Nat} {vs : List Value} (h : Rd w a n cap vs) : Rd w.drew a n cap vs := ⟨h.len, h.le, h.max, h.at'⟩
theorem Rd.drewN {w : World} {a : Option Addr} {n cap : Nat} {vs : List Value} (h : Rd w a n cap vs) (m : Nat) : Rd (w.drewN m) a n cap vs := ⟨h.len, h.le, h.max, h.at'⟩
theorem Rd.nil (w : World) (a : Option Addr) (cap : Nat) (h : cap ≤ maxLen) : Rd w a 0 cap [] := ⟨rfl, Nat.zero_le _, h, fun h => by omega⟩
/-- A part of it: from lo up to hi. -/
theorem Rd.part {w : World} {b off : Nat} {n cap : Nat} {vs : List Value} (h : Rd w (some ⟨b, off, none⟩) n cap vs) (lo hi : Nat) (h1 : lo ≤ hi) (h2 : hi ≤ n) :
    Rd w (some ⟨b, off + lo, none⟩) (hi - lo) (cap - lo) ((vs.take hi).drop lo) :=
  ⟨by rw [List.length_drop, List.length_take, h.len]; omega, by have := h.le; omega, by have := h.max; omega, fun hp => by
    obtain ⟨b', off', e, hb, hc⟩ := h.at' (by omega)
    simp only [Option.some.injEq, Addr.mk.injEq, and_true] at e
    obtain ⟨rfl, rfl⟩ := e
    refine ⟨b, off + lo, rfl, hb, fun j hj => ?_⟩
    rw [Nat.add_assoc, hc (lo + j) (by omega), List.getElem?_drop, List.getElem?_take, if_pos (by omega)]⟩
/-- Its head up to hi, whatever the address. -/
theorem Rd.head {w : World} {a : Option Addr} {n cap : Nat} {vs : List Value} (h : Rd w a n cap vs) (hi : Nat) (h2 : hi ≤ n) : Rd w a hi cap (vs.take hi) :=
  ⟨by rw [List.length_take, h.len]; omega, by have := h.le; omega, h.max, fun hp => by
    obtain ⟨b', off', e, hb, hc⟩ := h.at' (by omega)
    exact ⟨b', off', e, hb, fun j hj => by rw [hc j (by omega), List.getElem?_take, if_pos hj]⟩⟩

/-- A slice value owns a row of the blocks L (one block or none): the row is not frozen, begins at its block's head, its first n cells are vs. -/
def Ow (w : World) (T : TypeId) (L : List Nat) (a : Option Addr) (n cap : Nat) (vs : List Value) : Prop :=
  vs.length = n ∧ n ≤ cap ∧ cap ≤ maxLen ∧
  ((L = [] ∧ cap = 0) ∨ ∃ g cur, L = [g] ∧ a = some ⟨g, 0, none⟩ ∧ w.heap[g]? = some (.cells cur T (0, 0)) ∧ cur.size = cap ∧ cur.toList.take n = vs)

section
variable {w : World} {T : TypeId} {L : List Nat} {a : Option Addr} {n cap : Nat} {vs : List Value}

theorem Ow.len (h : Ow w T L a n cap vs) : vs.length = n := h.1
theorem Ow.lens {xs : List Int} (h : Ow w T L a n cap (ints xs)) : xs.length = n := by simpa using h.1
theorem Ow.le (h : Ow w T L a n cap vs) : n ≤ cap := h.2.1
theorem Ow.max (h : Ow w T L a n cap vs) : cap ≤ maxLen := h.2.2.1
theorem Ow.old (h : Ow w T L a n cap vs) : Old w L := by
  intro k hk
  rcases h.2.2.2 with ⟨rfl, _⟩ | ⟨g, cur, rfl, _, hg, _⟩
  · cases hk
  · simp at hk; subst hk
    exact (Array.getElem?_eq_some_iff.1 hg).1
theorem Ow.keep {w' : World} {M : List Nat} (h : Ow w T L a n cap vs) (k : Keeps M w w') (hn : Apart L M) : Ow w' T L a n cap vs := by
  refine ⟨h.1, h.2.1, h.2.2.1, ?_⟩
  rcases h.2.2.2 with h1 | ⟨g, cur, rfl, h1, hg, h2⟩
  · exact .inl h1
  · exact .inr ⟨g, cur, rfl, h1, (k.block g (Array.getElem?_eq_some_iff.1 hg).1 (hn g (by simp))).trans hg, h2⟩
theorem Ow.below {w' : World} (h : Ow w T L a n cap vs) (k : Below w.heap.size w w') : Ow w' T L a n cap vs := h.keep (Keeps.of_below k []) (fun _ _ h => by cases h)
theorem Ow.alloc (h : Ow w T L a n cap vs) (o : Obj) : Ow (w.alloc o) T L a n cap vs := h.keep (Keeps.alloc [] w o) (fun _ _ h => by cases h)
theorem Ow.drew (h : Ow w T L a n cap vs) : Ow w.drew T L a n cap vs := h
theorem Ow.drewN (h : Ow w T L a n cap vs) (m : Nat) : Ow (w.drewN m) T L a n cap vs := h
theorem Ow.at' (h : Ow w T L a n cap vs) (hp : 0 < cap) :
    ∃ g, L = [g] ∧ a = some ⟨g, 0, none⟩ ∧ g < w.heap.size ∧ (∀ j, j < n → w.cell? ⟨g, j, none⟩ = vs[j]?) ∧ ∀ j, w.frozen? ⟨g, j, none⟩ = false := by
  rcases h.2.2.2 with ⟨_, h1⟩ | ⟨g, cur, rfl, rfl, hg, hs, ht⟩
  · omega
  · refine ⟨g, rfl, rfl, (Array.getElem?_eq_some_iff.1 hg).1, fun j hj => ?_, fun j => frozen_of_row w g j cur T hg⟩
    rw [cell_of_row w g j cur T (0, 0) hg, ← ht, List.getElem?_take, if_pos hj]
    simp
theorem Ow.int {xs : List Int} (h : Ow w T L a n cap (ints xs)) (hp : 0 < cap) :
    ∃ g, L = [g] ∧ a = some ⟨g, 0, none⟩ ∧ g < w.heap.size ∧ (∀ j, j < n → w.cell? ⟨g, j, none⟩ = some (.int .i64 (nth xs j))) ∧ ∀ j, w.frozen? ⟨g, j, none⟩ = false := by
  obtain ⟨g, h1, h2, h3, h4, h5⟩ := h.at' hp
  exact ⟨g, h1, h2, h3, fun j hj => by rw [h4 j hj]; exact ints_nth (by rw [h.lens]; exact hj), h5⟩
theorem Ow.rd (h : Ow w T L a n cap vs) : Rd w a n cap vs := ⟨h.1, h.2.1, h.2.2.1, fun hp => by
  obtain ⟨g, rfl, rfl, hg, hc, _⟩ := h.at' (Nat.lt_of_lt_of_le hp h.2.1)
  exact ⟨g, 0, rfl, hg, fun j hj => by rw [Nat.zero_add]; exact hc j hj⟩⟩
/-- Its head. -/
theorem Ow.head (h : Ow w T L a n cap vs) (k : Nat) (hk : k ≤ n) : Ow w T L a k cap (vs.take k) := by
  refine ⟨by rw [List.length_take, h.1]; omega, by have := h.2.1; omega, h.2.2.1, ?_⟩
  rcases h.2.2.2 with h1 | ⟨g, cur, rfl, rfl, hg, hs, ht⟩
  · exact .inl h1
  · exact .inr ⟨g, cur, rfl, rfl, hg, hs, by rw [← ht, List.take_take, Nat.min_eq_left hk]⟩
/-- A store into it. -/
theorem Ow.set {g cap : Nat} (h : Ow w T [g] (some ⟨g, 0, none⟩) n cap vs) (j : Nat) (u : Value) : Ow (w.setCell ⟨g, j, none⟩ u) T [g] (some ⟨g, 0, none⟩) n cap (vs.set j u) := by
  refine ⟨by simpa using h.1, h.2.1, h.2.2.1, ?_⟩
  rcases h.2.2.2 with ⟨h1, _⟩ | ⟨g', cur, e, e', hg, hs, ht⟩
  · cases h1
  · simp at e; subst e
    exact .inr ⟨g, cur.setIfInBounds j u, rfl, rfl, heap_setCell_same w g j cur T u hg, by simpa using hs, by rw [Array.toList_setIfInBounds, ← ht, List.take_set]⟩
/-- A new row. -/
theorem Ow.new (w : World) (T : TypeId) (cs : Array Value) (hm : cs.size ≤ maxLen) : Ow (w.alloc (.cells cs T)) T [w.heap.size] (some ⟨w.heap.size, 0, none⟩) cs.size cs.size cs.toList :=
  ⟨by simp, Nat.le_refl _, hm, .inr ⟨_, cs, rfl, rfl, heap_alloc_new w _, rfl, by rw [List.take_of_length_le (by simp)]⟩⟩
theorem Ow.new' (w : World) (T : TypeId) (cs : Array Value) (n : Nat) (vs : List Value) (hn : cs.size = n) (hv : cs.toList = vs) (hm : n ≤ maxLen) : Ow (w.alloc (.cells cs T)) T [w.heap.size] (some ⟨w.heap.size, 0, none⟩) n n vs := by
  subst hn; subst hv; exact Ow.new w T cs hm
theorem Ow.bare (w : World) (T : TypeId) (a : Option Addr) : Ow w T [] a 0 0 [] := ⟨rfl, Nat.le_refl _, Nat.zero_le _, .inl ⟨rfl, rfl⟩⟩
end

theorem firstCells_rd (P : Program) {w : World} {a : Option Addr} {n cap : Nat} {vs : List Value} (h : Rd w a n cap vs) : (Builtin.firstCells 1 n (.slice a n cap)).run P w = .ok vs.toArray w := by
  by_cases hp : 0 < n
  · obtain ⟨b, off, rfl, _, hc⟩ := h.at' hp
    refine run_firstCells_some w 1 n _ n cap vs (by rw [h.len, Nat.mul_one]) (fun j v hv => ?_)
    have hj : j < n := by rw [← h.len]; exact (List.getElem?_eq_some_iff.1 hv).1
    rw [Addr.add_lit, hc j hj, hv]
  · obtain rfl : n = 0 := by omega
    obtain rfl : vs = [] := List.eq_nil_of_length_eq_zero h.len
    cases a <;> simp [Builtin.firstCells, loadCells, loadCellsFrom]

/-- What append does to a row that the call owns (one-cell elements), whatever is appended. -/
theorem run_app {P : Program} {w : World} (t ty T : TypeId) {z : Value} {bytes : Nat} (ht : P.underlying t = some (.slice T)) (hinfo : (P.info? T).map (fun i => (i.zero, i.size, i.bytes)) = some (some z, 1, bytes)) (hz1 : z.cells.size = 1)
    {L : List Nat} {a : Option Addr} {n cap : Nat} {vs : List Value} (own : Ow w T L a n cap vs) {xa : Option Addr} {m xcap : Nat} {news : List Value} (src : Rd w xa m xcap news) (h1 : ∀ u ∈ news, u.oneCell' = true)
    (hb : (n + m) * bytes ≤ 140737488355328) (h63 : n + m ≤ maxLen) :
    ∃ a' cap' L' w', (Builtin.append_ #[t, t] ty #[.slice a n cap, .slice xa m xcap]).run P w = .ok (.slice a' (n + m) cap') w' ∧ Ow w' T L' a' (n + m) cap' (vs ++ news) ∧ Keeps L w w' ∧ Step w L L' := by
  obtain ⟨i, hi, hz, hsize, hby⟩ := info_parts hinfo
  by_cases hm : m = 0
  · subst hm
    obtain rfl : news = [] := List.eq_nil_of_length_eq_zero src.len
    have hf := firstCells_rd P src
    refine ⟨a, cap, L, w, ?_, by simpa using own, Keeps.refl _ _, Step.refl _ _⟩
    have hle := own.le
    cases a <;> simp [Builtin.append_, run_underlying ht, sizeOf, typeInfo, hi, Builtin.lenOf, hsize, hf, hle, storeCells]
  · have hmp : 0 < m := by omega
    obtain ⟨xb, xo, rfl, hxb, hxc⟩ := src.at' hmp
    have hnews : ∀ j u, news[j]? = some u → w.cell? ((⟨xb, xo, none⟩ : Addr).add j) = some u := fun j v hv => by
      have hj : j < m := by rw [← src.len]; exact (List.getElem?_eq_some_iff.1 hv).1
      rw [Addr.add_lit, hxc j hj, hv]
    by_cases hroom : n + m ≤ cap
    · rcases own.2.2.2 with ⟨_, h0⟩ | ⟨g, cur, rfl, rfl, hg, hs, htk⟩
      · omega
      · have hr := run_append_room (P := P) w t ty T i ht hi g n cap cur hg ⟨xb, xo, none⟩ m xcap news (by rw [src.len, hsize, Nat.mul_one]) hnews h1 hroom (by rw [hsize, src.len]; omega)
        rw [hsize, Nat.mul_one] at hr
        refine ⟨_, _, [g], _, hr, ⟨by rw [List.length_append, own.1, src.len], hroom, own.2.2.1, .inr ⟨g, _, rfl, rfl, setRow_heap w g cur _ T _ hg, ?_, ?_⟩⟩, Keeps.setRow _ _ _, Step.refl _ _⟩
        · have h2 := src.len
          simp only [List.size_toArray, List.length_append, List.length_take, List.length_drop, Array.length_toList]
          omega
        · rw [htk]
          exact List.take_left' (by rw [List.length_append, own.1, src.len])
    · have hold : (Builtin.firstCells i.size n (.slice a n cap)).run P w.drew = .ok vs.toArray w.drew := by
        rw [hsize]; exact firstCells_rd P (w := w.drew) (own.drew).rd
      have hr := run_append_grow_src (P := P) w t t ty T i z ht hi hz a n cap vs hold (.slice (some ⟨xb, xo, none⟩) m xcap) m news (by rw [hsize]; exact Src.ofSlice w ht _ m xcap news (by rw [src.len, Nat.mul_one]) hnews h1) (by omega) (by unfold maxLen at h63; omega)
        (by rw [hby]; exact growslice_fits (by omega) hb)
      have hge := grownCap_ge w (n + m) cap T
      refine ⟨_, _, [w.heap.size], _, hr, ⟨by rw [List.length_append, own.1, src.len], hge, grownCap_le_maxLen w (n + m) cap T h63, .inr ⟨_, _, rfl, rfl, heap_alloc_new w.drew _, ?_, ?_⟩⟩, (Keeps.drew L w).trans (Keeps.alloc L w.drew _) (Step.refl _ _), fun k hk => .inr (by simp at hk; omega)⟩
      · have h2 := src.len
        have h3 := own.1
        simp only [Array.size_append, List.size_toArray, List.length_append, size_zeroCells, hz1]
        omega
      · rw [Array.toList_append]
        exact List.take_left' (by simp only [List.length_append]; rw [own.1, src.len])

/-- The same for the walk. -/
theorem wpList_app {P : Program} (w : World) {ops : Array Oper} {rest : List Oper} {o : Oper} {act : Act} {Q : Exit → Act → World → Prop} (hgd : o.guard = none) (s x : Operand) (t : TypeId)
    (ho : o.op = .call { callee := .builtin .append, args := #[s, x], argTypes := #[t, t] })
    (T : TypeId) {z : Value} {bytes : Nat} (ht : P.underlying t = some (.slice T)) (hinfo : (P.info? T).map (fun i => (i.zero, i.size, i.bytes)) = some (some z, 1, bytes)) (hz1 : z.cells.size = 1)
    {L : List Nat} {a : Option Addr} {n cap : Nat} {vs : List Value} {xa : Option Addr} {m xcap : Nat} {news : List Value} (hs : act.eval s = .slice a n cap) (hx : act.eval x = .slice xa m xcap)
    (own : Ow w T L a n cap vs) (src : Rd w xa m xcap news) (h1 : ∀ u ∈ news, u.oneCell' = true) (hb : (n + m) * bytes ≤ 140737488355328) (h63 : n + m ≤ maxLen)
    (h : ∀ a' cap' L' w', Ow w' T L' a' (n + m) cap' (vs ++ news) → Keeps L w w' → Step w L L' → wpList P ops Q rest (act.put o.dst (.slice a' (n + m) cap')) w') : wpList P ops Q (o :: rest) act w := by
  refine wpList_plain hgd fun K hK' => ?_
  obtain ⟨a', cap', L', w', hrun, r1, r2, r3⟩ := run_app (P := P) t o.type T ht hinfo hz1 own src h1 hb h63
  unfold Oper.wp
  simp [execOp, ho, resolve, invoke, builtin, hs, hx, hrun, Result.andThen]
  exact hK' _ _ (h a' cap' L' w' r1 r2 r3)

/-- The source of an append of one element: the block that the translation lays for it. -/
theorem Rd.one (w : World) (T : TypeId) (u : Value) : Rd (w.alloc (.cells #[u] T)) (some ⟨w.heap.size, 0, none⟩) 1 1 [u] :=
  ⟨rfl, Nat.le_refl _, by unfold maxLen; omega, fun _ => ⟨w.heap.size, 0, rfl, by simp, fun j hj => by
    obtain rfl : j = 0 := by omega
    rw [World.cell?_alloc_at _ _ _ _ (by simp)]; rfl⟩⟩
theorem Rd.one' (w : World) (T : TypeId) (u : Value) (b : Nat) (hb : b = w.heap.size) : Rd (w.alloc (.cells #[u] T)) (some ⟨b, 0, none⟩) 1 1 [u] := by subst hb; exact Rd.one w T u
theorem one_int (x : Int) : ∀ u ∈ [Value.int .i64 x], u.oneCell' = true := by intro u hu; simp at hu; subst hu; rfl
theorem one_slice (a : Option Addr) (n c : Nat) : ∀ u ∈ [Value.slice a n c], u.oneCell' = true := by intro u hu; simp at hu; subst hu; rfl
theorem one_ints (xs : List Int) : ∀ u ∈ ints xs, u.oneCell' = true := ints_oneCell .i64 xs
theorem ints_set (xs : List Int) (k : Nat) (x : Int) : (ints xs).set k (.int .i64 x) = ints (xs.set k x) := by simp [ints, List.map_set]
theorem ints_snoc (xs : List Int) (x : Int) : ints xs ++ [.int .i64 x] = ints (xs ++ [x]) := by simp
theorem ints_append (xs ys : List Int) : ints xs ++ ints ys = ints (xs ++ ys) := by simp

/-- The call owns, from block B on, a slice of ints that reads as xs. -/
def OwI (w : World) (T : TypeId) (B : Nat) (a : Option Addr) (n cap : Nat) (xs : List Int) : Prop := ∃ L, Ow w T L a n cap (ints xs) ∧ New B L
theorem OwI.mono {w : World} {T : TypeId} {B B' : Nat} {a : Option Addr} {n cap : Nat} {xs : List Int} (h : OwI w T B a n cap xs) (hb : B' ≤ B) : OwI w T B' a n cap xs := by
  obtain ⟨L, h1, h2⟩ := h
  exact ⟨L, h1, h2.mono hb⟩

/-- The address of a slice cut at l. -/
def cutAt (cap l : Nat) (a : Option Addr) : Option Addr := if cap = l then a else a.map (·.add l)
theorem Rd.cut {w : World} {a : Option Addr} {n cap : Nat} {vs : List Value} (h : Rd w a n cap vs) (lo hi : Nat) (h1 : lo ≤ hi) (h2 : hi ≤ n) : Rd w (cutAt cap lo a) (hi - lo) (cap - lo) ((vs.take hi).drop lo) :=
  ⟨by rw [List.length_drop, List.length_take, h.len]; omega, by have := h.le; omega, by have := h.max; omega, fun hp => by
    obtain ⟨b, off, rfl, hb, hc⟩ := h.at' (by omega)
    have hle := h.le
    refine ⟨b, off + lo, by unfold cutAt; rw [if_neg (by omega), Option.map_some, Addr.add_lit], hb, fun j hj => ?_⟩
    rw [Nat.add_assoc, hc (lo + j) (by omega), List.getElem?_drop, List.getElem?_take, if_pos (by omega)]⟩
theorem Rd.from {w : World} {a : Option Addr} {n cap : Nat} {vs : List Value} (h : Rd w a n cap vs) (lo : Nat) (h1 : lo ≤ n) : Rd w (cutAt cap lo a) (n - lo) (cap - lo) (vs.drop lo) := by
  have := h.cut lo n h1 (Nat.le_refl _)
  rwa [List.take_of_length_le (by rw [h.len]; exact Nat.le_refl _)] at this
theorem map_add_zero (a : Option Addr) : a.map (·.add 0) = a := by cases a <;> rfl
theorem cutAt_zero (cap : Nat) (a : Option Addr) : cutAt cap 0 a = a := by unfold cutAt; rw [map_add_zero]; split <;> rfl
theorem ints_drop (xs : List Int) (k : Nat) : (ints xs).drop k = ints (xs.drop k) := by simp [ints, List.map_drop]
theorem ints_take (xs : List Int) (k : Nat) : (ints xs).take k = ints (xs.take k) := by simp [ints, List.map_take]

theorem run_cut {P : Program} (w : World) (t T : TypeId) (ht : P.underlying t = some (.slice T)) (hinfo : (P.info? T).map (·.size) = some 1) (a : Option Addr) (n cap : Nat) (lo hi : Nat) (h1 : lo ≤ hi) (h2 : hi ≤ cap) (kl kh : IntKind) :
    (Instr.slice t (.slice a n cap) (some (.int kl (lo : Int))) (some (.int kh (hi : Int))) none).run P w = .ok (.slice (cutAt cap lo a) (hi - lo) (cap - lo)) w := by
  have he : P.elem t = T := by simp [Program.elem, ht]
  have hs : (sizeOf T).run P w = .ok 1 w := by
    obtain ⟨i, hi', hz⟩ := Option.map_eq_some_iff.1 hinfo
    simp [sizeOf, typeInfo, hi', hz]
  have h := run_slice_lh (P := P) w t a n cap (by rw [he]; exact ht) kl kh (lo : Int) (hi : Int) (by omega) (by omega) (by omega)
  rw [h, he, hs]
  simp [Result.andThen, sliced, cutAt]
theorem run_from {P : Program} (w : World) (t T : TypeId) (ht : P.underlying t = some (.slice T)) (hinfo : (P.info? T).map (·.size) = some 1) (a : Option Addr) (n cap : Nat) (lo : Nat) (h1 : lo ≤ n) (kl : IntKind) :
    (Instr.slice t (.slice a n cap) (some (.int kl (lo : Int))) none none).run P w = .ok (.slice (cutAt cap lo a) (n - lo) (cap - lo)) w := by
  have he : P.elem t = T := by simp [Program.elem, ht]
  have hs : (sizeOf T).run P w = .ok 1 w := by
    obtain ⟨i, hi', hz⟩ := Option.map_eq_some_iff.1 hinfo
    simp [sizeOf, typeInfo, hi', hz]
  have h := run_slice_l (P := P) w t a n cap (by rw [he]; exact ht) kl (lo : Int) (by omega) (by omega)
  rw [h, he, hs]
  simp [Result.andThen, sliced, cutAt]
theorem run_upto {P : Program} (w : World) (t T : TypeId) (ht : P.underlying t = some (.slice T)) (hinfo : (P.info? T).map (·.size) = some 1) (a : Option Addr) (n cap : Nat) (hi : Nat) (h2 : hi ≤ cap) (kh : IntKind) :
    (Instr.slice t (.slice a n cap) none (some (.int kh (hi : Int))) none).run P w = .ok (.slice a hi cap) w := by
  have he : P.elem t = T := by simp [Program.elem, ht]
  have hs : (sizeOf T).run P w = .ok 1 w := by
    obtain ⟨i, hi', hz⟩ := Option.map_eq_some_iff.1 hinfo
    simp [sizeOf, typeInfo, hi', hz]
  have h := run_slice_h (P := P) w t a n cap (by rw [he]; exact ht) kh (hi : Int) (by omega) (by omega)
  rw [h, he, hs]
  simp [Result.andThen, sliced, map_add_zero]

section
variable {P : Program} (w : World) {ops : Array Oper} {rest : List Oper} {o : Oper} {act : Act} {Q : Exit → Act → World → Prop}
/-- x[lo:] for the walk. -/
theorem wpList_from (hgd : o.guard = none) (x lo : Operand) (t : TypeId) (ho : o.op = .slice t x (some lo) none none) (T : TypeId) (ht : P.underlying t = some (.slice T)) (hinfo : (P.info? T).map (·.size) = some 1)
    {a : Option Addr} {n cap : Nat} {vs : List Value} (l : Nat) {kl : IntKind} {li : Int} (hx : act.eval x = .slice a n cap) (hl : act.eval lo = .int kl li) (hli : li = (l : Int)) (rd : Rd w a n cap vs) (h1 : l ≤ n)
    (h : ∀ a', a' = cutAt cap l a → Rd w a' (n - l) (cap - l) (vs.drop l) → wpList P ops Q rest (act.put o.dst (.slice a' (n - l) (cap - l))) w) : wpList P ops Q (o :: rest) act w := by
  refine wpList_plain hgd fun K hK' => ?_
  subst hli
  have he : P.elem t = T := by simp [Program.elem, ht]
  have hrun := (run_sliceAt_slice (P := P) w t _ _ _ _ (by rw [he]; exact ht)).trans (run_from (P := P) w t T ht hinfo a n cap l h1 kl)
  unfold Oper.wp
  simp [execOp, ho, hx, hl, hrun, Result.andThen]
  exact hK' _ _ (h _ rfl (rd.from l h1))
/-- x[:hi] for the walk. -/
theorem wpList_upto (hgd : o.guard = none) (x hi : Operand) (t : TypeId) (ho : o.op = .slice t x none (some hi) none) (T : TypeId) (ht : P.underlying t = some (.slice T)) (hinfo : (P.info? T).map (·.size) = some 1)
    {a : Option Addr} {n cap : Nat} (l : Nat) {kl : IntKind} {li : Int} (hx : act.eval x = .slice a n cap) (hl : act.eval hi = .int kl li) (hli : li = (l : Int)) (h1 : l ≤ cap)
    (h : wpList P ops Q rest (act.put o.dst (.slice a l cap)) w) : wpList P ops Q (o :: rest) act w := by
  refine wpList_plain hgd fun K hK' => ?_
  subst hli
  have he : P.elem t = T := by simp [Program.elem, ht]
  have hrun := (run_sliceAt_slice (P := P) w t _ _ _ _ (by rw [he]; exact ht)).trans (run_upto (P := P) w t T ht hinfo a n cap l h1 kl)
  unfold Oper.wp
  simp [execOp, ho, hx, hl, hrun, Result.andThen]
  exact hK' _ _ h
/-- x[lo:hi] for the walk. -/
theorem wpList_cut (hgd : o.guard = none) (x lo hi : Operand) (t : TypeId) (ho : o.op = .slice t x (some lo) (some hi) none) (T : TypeId) (ht : P.underlying t = some (.slice T)) (hinfo : (P.info? T).map (·.size) = some 1)
    {a : Option Addr} {n cap : Nat} {vs : List Value} (l m : Nat) {kl kh : IntKind} {li mi : Int} (hx : act.eval x = .slice a n cap) (hl : act.eval lo = .int kl li) (hli : li = (l : Int)) (hh : act.eval hi = .int kh mi) (hmi : mi = (m : Int)) (rd : Rd w a n cap vs) (h1 : l ≤ m) (h2 : m ≤ n)
    (h : ∀ a', a' = cutAt cap l a → Rd w a' (m - l) (cap - l) ((vs.take m).drop l) → wpList P ops Q rest (act.put o.dst (.slice a' (m - l) (cap - l))) w) : wpList P ops Q (o :: rest) act w := by
  refine wpList_plain hgd fun K hK' => ?_
  subst hli
  subst hmi
  have he : P.elem t = T := by simp [Program.elem, ht]
  have hrun := (run_sliceAt_slice (P := P) w t _ _ _ _ (by rw [he]; exact ht)).trans (run_cut (P := P) w t T ht hinfo a n cap l m h1 (Nat.le_trans h2 rd.le) kl kh)
  unfold Oper.wp
  simp [execOp, ho, hx, hl, hh, hrun, Result.andThen]
  exact hK' _ _ (h _ rfl (rd.cut l m h1 h2))
end

end Go.Proofs.Ytaffokicnabkiaa

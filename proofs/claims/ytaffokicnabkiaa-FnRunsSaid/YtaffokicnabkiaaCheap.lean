/- The cheapest merge: the program's impl.cheapest. No condition but lengths. -/
import Derived.Test.YtaffokicnabkiaaTake
import Derived.Test.YtaffokicnabkiaaHufL
import Derived.Test.YtaffokicnabkiaaConcat
import Derived.Test.YtaffokicnabkiaaRun1
import Derived.Deep.RegionLaw
import Derived.Deep.OwnRows
import Derived.Deep.RegionHeld3
namespace Go.Proofs.Ytaffokicnabkiaa
open Go.RowKit
set_option linter.unusedVariables false
set_option linter.unusedSimpArgs false

/-- A run in memory with the row of its members. -/
abbrev RC := Int × Cell
def rvOf (m : RC) : RV := ⟨m.1, m.2.a, m.2.n, m.2.cap⟩
def rnOf (m : RC) : Rn := (m.1, m.2.xs)
def mAt (ms : List RC) (j : Nat) : RC := ms.getD j (0, ⟨[], none, 0, 0, []⟩)
theorem rvAt_map (ms : List RC) (j : Nat) : rvAt (ms.map rvOf) j = rvOf (mAt ms j) := by
  unfold rvAt mAt
  rw [List.getD, List.getD, List.getElem?_map]
  cases ms[j]? <;> rfl
theorem rAt_map (ms : List RC) (j : Nat) : rAt (ms.map rnOf) j = rnOf (mAt ms j) := by
  unfold rAt mAt
  rw [List.getD, List.getD, List.getElem?_map]
  cases ms[j]? <;> rfl
theorem lp_map (ms : List RC) : ∀ k, lp (ms.map rvOf) k = lq (vals (ms.map rnOf)) k
  | 0 => rfl
  | k + 1 => by
    have e : ∀ j, (rvAt (ms.map rvOf) j).v = nth (vals (ms.map rnOf)) j := fun j => by rw [vals_nth, rAt_map, rvAt_map]; rfl
    rw [lp, lq, lp_map ms k, e, e]
theorem mAt_mem {ms : List RC} {j : Nat} (h : j < ms.length) : mAt ms j ∈ ms := by
  unfold mAt; rw [List.getD, List.getElem?_eq_getElem h]; exact List.getElem_mem h
theorem rmL_mem {α : Type} {l : List α} {p : Nat} {x : α} (h : x ∈ rmL l p) : x ∈ l := by
  rcases List.mem_append.1 h with h1 | h1
  · exact List.mem_of_mem_take h1
  · exact List.mem_of_mem_drop h1
/-- The members' rows. -/
def Ms (w : World) (B : List Nat) (ms : List RC) : Prop := ∀ m ∈ ms, Ow w 3 m.2.L m.2.a m.2.n m.2.cap (ints m.2.xs) ∧ Apart m.2.L B
theorem Ms.keep {w w' : World} {B M : List Nat} {ms : List RC} (h : Ms w B ms) (k : Keeps M w w') (hM : ∀ i ∈ M, i ∈ B ∨ w.heap.size ≤ i) : Ms w' B ms := fun m hm => by
  obtain ⟨h1, h2⟩ := h m hm
  refine ⟨h1.keep k (fun i hi hj => ?_), h2⟩
  rcases hM i hj with h3 | h3
  · exact h2 i hi h3
  · have := h1.old i hi; omega
theorem Ms.below {w w' : World} {B : List Nat} {ms : List RC} (h : Ms w B ms) (k : Below w.heap.size w w') : Ms w' B ms := fun m hm => ⟨(h m hm).1.below k, (h m hm).2⟩
theorem Ms.sub {w : World} {B : List Nat} {ms ms' : List RC} (h : Ms w B ms) (hs : ∀ m ∈ ms', m ∈ ms) : Ms w B ms' := fun m hm => h m (hs m hm)
theorem Ms.blocks {w : World} {B B' : List Nat} {ms : List RC} (h : Ms w B ms) (hs : ∀ i ∈ B', i ∈ B ∨ w.heap.size ≤ i) : Ms w B' ms := fun m hm => ⟨(h m hm).1, fun i hi hj => by
  rcases hs i hj with h3 | h3
  · exact (h m hm).2 i hi h3
  · have := (h m hm).1.old i hi; omega⟩
theorem Ms.snoc {w : World} {B : List Nat} {ms : List RC} {m : RC} (h : Ms w B ms) (h1 : Ow w 3 m.2.L m.2.a m.2.n m.2.cap (ints m.2.xs)) (h2 : Apart m.2.L B) : Ms w B (ms ++ [m]) := fun m' hm => by
  rcases List.mem_append.1 hm with h3 | h3
  · exact h m' h3
  · simp at h3; subst h3; exact ⟨h1, h2⟩

theorem Ms.go {w w' : World} {B B' M : List Nat} {ms : List RC} (h : Ms w B ms) (k : Keeps M w w') (hM : ∀ i ∈ M, i ∈ B ∨ w.heap.size ≤ i) (hB : ∀ i ∈ B', i ∈ B ∨ w.heap.size ≤ i) : Ms w' B' ms := fun m hm => ⟨((h.keep k hM) m hm).1, ((h.blocks hB) m hm).2⟩
theorem Rd2.one' (w : World) (T : TypeId) (u v : Value) (b : Nat) (hb : b = w.heap.size) : Rd2 (w.alloc (.cells #[u, v] T)) (some ⟨b, 0, none⟩) 1 1 [u, v] := by subst hb; exact Rd2.one w T u v
/-- The captured list: its box, its row. -/
structure Bx (w : World) (bx : Nat) (L : List Nat) (a : Option Addr) (n cap : Nat) (ms : List RC) : Prop where
  old : bx < w.heap.size
  cell : w.cell? ⟨bx, 0, none⟩ = some (.slice a n cap)
  frozen : w.frozen? ⟨bx, 0, none⟩ = false
  row : Ow2 w 62 L a n cap (runs (ms.map rvOf))
  out : bx ∉ L
theorem Bx.keep {w w' : World} {bx : Nat} {L M : List Nat} {a : Option Addr} {n cap : Nat} {ms : List RC} (h : Bx w bx L a n cap ms) (k : Keeps M w w') (hb : bx ∉ M) (hL : Apart L M) : Bx w' bx L a n cap ms :=
  ⟨Nat.lt_of_lt_of_le h.old k.size, (World.cell?_of_block (a := ⟨bx, 0, none⟩) (k.block bx h.old hb)).trans h.cell, (World.frozen?_of_block (a := ⟨bx, 0, none⟩) (k.block bx h.old hb)).trans h.frozen, h.row.keep k hL, h.out⟩
theorem Bx.below {w w' : World} {bx : Nat} {L : List Nat} {a : Option Addr} {n cap : Nat} {ms : List RC} (h : Bx w bx L a n cap ms) (k : Below w.heap.size w w') : Bx w' bx L a n cap ms := h.keep (Keeps.of_below k []) (fun h => by cases h) (fun _ _ h => by cases h)
/-- Behind an append and the store of the box. -/
theorem Bx.app {w w1 w3 : World} {bx : Nat} {L L1 : List Nat} {a a1 : Option Addr} {n n1 cap cap1 : Nat} {ms ms1 : List RC} (h : Bx w bx L a n cap ms) (b : Below w.heap.size w w1) (ow : Ow2 w3 62 L1 a1 n1 cap1 (runs (ms1.map rvOf))) (kp : Keeps L w1 w3) (st : Step w1 L L1) :
    w3.cell? ⟨bx, 0, none⟩ = some (.slice a n cap) ∧ w3.frozen? ⟨bx, 0, none⟩ = false ∧ Bx (w3.setCell ⟨bx, 0, none⟩ (.slice a1 n1 cap1)) bx L1 a1 n1 cap1 ms1 ∧ Keeps (bx :: L) w (w3.setCell ⟨bx, 0, none⟩ (.slice a1 n1 cap1)) := by
  have h1 := h.below b
  have hk := kp.block bx h1.old h1.out
  have m1 := (World.cell?_of_block (a := ⟨bx, 0, none⟩) hk).trans h1.cell
  have m2 := (World.frozen?_of_block (a := ⟨bx, 0, none⟩) hk).trans h1.frozen
  have ks := Keeps.setCell w3 bx 0 (.slice a1 n1 cap1)
  have ho : bx ∉ L1 := fun hm => by
    rcases st bx hm with h2 | h2
    · exact h1.out h2
    · have := h1.old; omega
  refine ⟨m1, m2, ⟨?_, World.cell?_setCell_same _ _ _ m1, by rw [World.frozen?_setCell]; exact m2, ow.keep ks (fun i hi hj => by simp at hj; subst hj; exact ho hi), ho⟩, ?_⟩
  · exact Nat.lt_of_lt_of_le h1.old (Nat.le_trans kp.size ks.size)
  · exact ((Keeps.of_below b (bx :: L)).trans ((kp.mono (L' := bx :: L) (fun i hi => .inl (List.mem_cons_of_mem _ hi))).trans (ks.mono (L' := bx :: L) (fun i hi => .inl (by simp at hi; simp [hi]))) (Step.refl _ _)) (Step.refl _ _))


theorem c_takeB (bx : Nat) (a : Option Addr) (n cap : Nat) (L : List Nat) (ms : List RC) (w : World) (h : Bx w bx L a n cap ms) (h0 : 0 < n) (hn : n ≤ 1000) :
    Calls Try.prog 60 #[.pointer (some ⟨bx, 0, none⟩)] w fun e w' => e = .returned (.agg #[.int .i64 (mAt ms (lst (ms.map rnOf))).1, .slice (mAt ms (lst (ms.map rnOf))).2.a (mAt ms (lst (ms.map rnOf))).2.n (mAt ms (lst (ms.map rnOf))).2.cap]) ∧ Bx w' bx L a (n - 1) cap (rmL ms (lst (ms.map rnOf))) ∧ Keeps (bx :: L) w w' := by
  have hl : ms.length = n := by have := h.row.len; rw [runs_len, List.length_map] at this; omega
  have e1 : lp (ms.map rvOf) n = lst (ms.map rnOf) := by unfold lst; rw [lp_map, List.length_map, hl]
  have e2 : rmR (ms.map rvOf) (lst (ms.map rnOf)) = (rmL ms (lst (ms.map rnOf))).map rvOf := (rmL_map rvOf ms _).symm
  have hc := c_take bx a n cap L (ms.map rvOf) w h.old h.cell h.frozen h.row h.out h0 hn
  rw [e1, rvAt_map, e2] at hc
  refine hc.mono ?_
  rintro e w' ⟨rfl, h1, h2, h3, h4⟩
  exact ⟨rfl, ⟨Nat.lt_of_lt_of_le h.old h4.size, h1, h2, h3, h.out⟩, h4⟩












/-- A run in a block of its own. -/
def Tw (w : World) (p : Nat) (m : RC) : Prop := w.heap[p]? = some (.cells #[.int .i64 m.1, .slice m.2.a m.2.n m.2.cap] 62 (0, 0))
theorem Tw.old {w : World} {p : Nat} {m : RC} (h : Tw w p m) : p < w.heap.size := (Array.getElem?_eq_some_iff.1 h).1
theorem Tw.keep {w w' : World} {p : Nat} {m : RC} {M : List Nat} (h : Tw w p m) (k : Keeps M w w') (hp : p ∉ M) : Tw w' p m := (k.block p h.old hp).trans h
theorem Tw.below {w w' : World} {p : Nat} {m : RC} (h : Tw w p m) (k : Below w.heap.size w w') : Tw w' p m := h.keep (Keeps.of_below k []) (fun h => by cases h)
theorem Tw.new (w : World) (m : RC) : Tw (w.alloc (.cells #[.int .i64 m.1, .slice m.2.a m.2.n m.2.cap] 62)) w.heap.size m := heap_alloc_new w _
theorem Tw.c0 {w : World} {p : Nat} {m : RC} (h : Tw w p m) : w.cell? ⟨p, 0, none⟩ = some (.int .i64 m.1) := by rw [cell_of_row w p 0 _ _ _ h]; rfl
theorem Tw.c1 {w : World} {p : Nat} {m : RC} (h : Tw w p m) : w.cell? ⟨p, 1, none⟩ = some (.slice m.2.a m.2.n m.2.cap) := by rw [cell_of_row w p 1 _ _ _ h]; rfl
theorem Tw.fill {w : World} {p : Nat} (h : w.heap[p]? = some (.cells #[.int .i64 0, .slice none 0 0] 62 (0, 0))) (m : RC) : Tw ((w.setCell ⟨p, 0, none⟩ (.int .i64 m.1)).setCell ⟨p, 1, none⟩ (.slice m.2.a m.2.n m.2.cap)) p m := by
  have h1 := heap_setCell_same w p 0 _ _ (.int .i64 m.1) h
  have h2 := heap_setCell_same _ p 1 _ _ (.slice m.2.a m.2.n m.2.cap) h1
  unfold Tw; rw [h2]; rfl
def Fin13 (wq : World) (m1 m2 : RC) (p : Value) (wx : World) : Prop := ∃ X oa oc M, p = .pointer (some ⟨X, 0, none⟩) ∧ Tw wx X (m1.1 + m2.1, ⟨M, oa, m1.2.n + m2.2.n, oc, m1.2.xs ++ m2.2.xs⟩) ∧ Ow wx 3 M oa (m1.2.n + m2.2.n) oc (ints (m1.2.xs ++ m2.2.xs)) ∧ New wq.heap.size M ∧ wq.heap.size ≤ X ∧ X ∉ M ∧ Below wq.heap.size wq wx
theorem Fin13.a {wq w5 : World} {m1 m2 : RC} {M : List Nat} {oa : Option Addr} {oc : Nat} (bW : Below wq.heap.size wq w5) (ho : Ow w5 3 M oa (m1.2.n + m2.2.n) oc (ints (m1.2.xs ++ m2.2.xs))) (hnM : New wq.heap.size M) :
    Fin13 wq m1 m2 (.pointer (some ⟨w5.heap.size, 0, none⟩)) (w5.alloc (.cells #[.int .i64 (m1.1 + m2.1), .slice oa (m1.2.n + m2.2.n) oc] 62)) :=
  ⟨w5.heap.size, oa, oc, M, rfl, Tw.new w5 (m1.1 + m2.1, ⟨M, oa, m1.2.n + m2.2.n, oc, m1.2.xs ++ m2.2.xs⟩), ho.alloc _, hnM, bW.size, fun h => by have := ho.old _ h; omega, bW.alloc bW.size _⟩
theorem Fin13.b {wq w5 : World} {m1 m2 : RC} {M : List Nat} {oa : Option Addr} {oc X : Nat} (bW : Below wq.heap.size wq w5) (ho : Ow w5 3 M oa (m1.2.n + m2.2.n) oc (ints (m1.2.xs ++ m2.2.xs))) (hnM : New wq.heap.size M) (hX : wq.heap.size ≤ X) (hXM : X ∉ M) (hz : w5.heap[X]? = some (.cells #[.int .i64 0, .slice none 0 0] 62 (0, 0))) :
    Fin13 wq m1 m2 (.pointer (some ⟨X, 0, none⟩)) ((w5.setCell ⟨X, 0, none⟩ (.int .i64 (m1.1 + m2.1))).setCell ⟨X, 1, none⟩ (.slice oa (m1.2.n + m2.2.n) oc)) :=
  ⟨X, oa, oc, M, rfl, Tw.fill hz (m1.1 + m2.1, ⟨M, oa, m1.2.n + m2.2.n, oc, m1.2.xs ++ m2.2.xs⟩), (ho.keep (Keeps.setCell _ _ _ _) (fun i hi hj => by simp at hj; subst hj; exact hXM hi)).keep (Keeps.setCell _ _ _ _) (fun i hi hj => by simp at hj; subst hj; exact hXM hi), hnM, hX, hXM, (bW.setCell hX _).setCell hX _⟩
theorem RdG.two {w wx : World} {c1 c2 : Cell} (o1 : Ow w 3 c1.L c1.a c1.n c1.cap (ints c1.xs)) (o2 : Ow w 3 c2.L c2.a c2.n c2.cap (ints c2.xs)) {b : Nat} (hb : b = w.heap.size) (hbx : Below (w.alloc (.cells #[.slice c1.a c1.n c1.cap, .slice c2.a c2.n c2.cap] 22)).heap.size (w.alloc (.cells #[.slice c1.a c1.n c1.cap, .slice c2.a c2.n c2.cap] 22)) wx) : RdG wx (some ⟨b, 0, none⟩) 2 2 [c1.xs, c2.xs] := by
  subst hb
  exact ⟨[c1, c2], ((Ow.new' w 22 #[.slice c1.a c1.n c1.cap, .slice c2.a c2.n c2.cap] 2 _ rfl rfl (by unfold maxLen; omega)).below hbx).rd, fun c hc => by
    simp at hc
    rcases hc with rfl | rfl
    · exact ((o1.alloc _).below hbx).rd
    · exact ((o2.alloc _).below hbx).rd, rfl⟩
theorem zero_b {wq w5 : World} {o z : Obj} (hb : Below ((wq.alloc o).alloc z).heap.size ((wq.alloc o).alloc z) w5) : w5.heap[wq.heap.size + 1]? = some z := by
  rw [hb.block _ (by simp)]
  have h := heap_alloc_new (wq.alloc o) z
  rw [show (wq.alloc o).heap.size = wq.heap.size + 1 by simp] at h
  exact h
theorem zero_c {wq w5 : World} {o z : Obj} (hb : Below ((wq.alloc z).alloc o).heap.size ((wq.alloc z).alloc o) w5) : w5.heap[wq.heap.size]? = some z := by
  rw [hb.block _ (by simp; omega), Below.heap_alloc _ _ _ (by simp)]
  exact heap_alloc_new wq z
theorem Below.pre2 {wq w5 : World} {o z : Obj} (hb : Below ((wq.alloc o).alloc z).heap.size ((wq.alloc o).alloc z) w5) : Below wq.heap.size wq w5 := Below.nx (((Below.refl _ _).alloc (Nat.le_refl _) _).alloc (by simp) _) hb
theorem Below.pre1 {wq w5 : World} {o : Obj} (hb : Below (wq.alloc o).heap.size (wq.alloc o) w5) : Below wq.heap.size wq w5 := Below.nx ((Below.refl _ _).alloc (Nat.le_refl _) _) hb
theorem Below.undrew {w w5 : World} (hb : Below w.drew.heap.size w.drew w5) : Below w.heap.size w w5 := ⟨hb.os, hb.tape, hb.output, hb.size, hb.block⟩
theorem New.pre1 {wq : World} {o : Obj} {M : List Nat} (h : New (wq.alloc o).heap.size M) : New wq.heap.size M := fun i hi => Nat.le_trans (by simp) (h i hi)
theorem New.pre {wq : World} {o z : Obj} {M : List Nat} (h : New ((wq.alloc o).alloc z).heap.size M) : New wq.heap.size M ∧ wq.heap.size + 1 ∉ M ∧ wq.heap.size ∉ M := by
  refine ⟨fun i hi => ?_, fun hi => ?_, fun hi => ?_⟩
  all_goals (have := h _ hi; simp at this; try omega)
def lenAtT (bx : Nat) (w : World) : Nat := match w.cell? ⟨bx, 0, none⟩ with | some (.slice _ m _) => m | _ => 0
theorem lenAt_bx {w : World} {bx : Nat} {L : List Nat} {a : Option Addr} {n cap : Nat} {ms : List RC} (h : Bx w bx L a n cap ms) : lenAtT bx w = n := by unfold lenAtT; rw [h.cell]

set_option maxRecDepth 100000 in
set_option maxHeartbeats 4000000 in
theorem c_cheapest (a : Option Addr) (n cap : Nat) (xs : List Int) (w : World) (hr : RdI w a n cap xs) (hn : n ≤ 8) (hx : ∀ x ∈ xs, 1 ≤ x ∧ x ≤ 1000) :
    Calls Try.prog 33 #[.slice a n cap] w fun e w' => ∃ da dc, e = .returned (.tuple #[.int .i64 (hufC xs), .slice da n dc]) ∧ OwI w' 3 w.heap.size da n dc (hufD xs) ∧ Below w.heap.size w w' := by
  have HL := Lib.hid hr.lens
  have HX := Lib.hid hx
  clear hx
  go_enter Try.func33, Try.ntmps33
  have hmk := run_make_row' (P := Try.prog) 22 3 (.int .i64 0) 8 Try.underlying22 infoInt rfl .i64 .i64 n (by omega) (by omega)
  have hmf : ∀ (fn : Fn) (first cp : Array Value) (w : World), (Instr.makeFunc fn first cp).run Try.prog w = .ok (.func fn first cp) w := fun _ _ _ _ => rfl
  go_wp2_with fail
  obtain ⟨bx, hbx⟩ : ∃ bx, bx = w.heap.size + 1 := ⟨_, rfl⟩
  obtain ⟨w1, hw1⟩ : ∃ w1, w1 = (w.alloc (.cells #[] 62)).alloc (.cells #[.slice (some ⟨w.heap.size, 0, none⟩) 0 0] 60) := ⟨_, rfl⟩
  have hb1 : Below w.heap.size w w1 := by rw [hw1]; exact ((Below.refl _ _).alloc (Nat.le_refl _) _).alloc (by simp) _
  have B1 : Bx w1 bx [] (some ⟨w.heap.size, 0, none⟩) 0 0 [] := by
    rw [hw1, hbx]
    refine ⟨by simp, ?_, ?_, Ow2.bare _ _ _, fun h => by cases h⟩
    · have h := heap_alloc_new (w.alloc (.cells #[] 62)) (.cells #[.slice (some ⟨w.heap.size, 0, none⟩) 0 0] 60)
      rw [show (w.alloc (.cells #[] 62)).heap.size = w.heap.size + 1 by simp] at h
      rw [cell_of_row _ _ 0 _ _ _ h]; rfl
    · have h := heap_alloc_new (w.alloc (.cells #[] 62)) (.cells #[.slice (some ⟨w.heap.size, 0, none⟩) 0 0] 60)
      rw [show (w.alloc (.cells #[] 62)).heap.size = w.heap.size + 1 by simp] at h
      exact frozen_of_row _ _ 0 _ _ h
  rw [← hbx, ← hw1]
  have HBX := Lib.hid hbx
  clear hbx hw1
  go_loopw [18] (fun i wr => ∃ k : Nat, ∃ L la lcap ms, k ≤ n ∧ i = .int .i64 (k : Int) ∧ Bx wr bx L la k lcap ms ∧ New w.heap.size L ∧ Ms wr (bx :: L) ms ∧ ms.map rnOf = leafs xs k ∧ Below w.heap.size w wr) (fun i _ => n - natT i)
  case atStart => exact ⟨0, [], _, _, [], by omega, rfl, B1, (fun _ h => by cases h), (fun _ h => by cases h), rfl, hb1⟩
  case round =>
    clear B1 hb1
    obtain ⟨k, L, la, lcap, ms, hk, rfl, HB, hnL, hM, hms, hb⟩ := hrel
    have HMS := Lib.hid hms
    clear hms
    have hszr := hb.size
    have hbc := HB.cell
    by_cases hkn : k < n
    · obtain ⟨b, off, rfl, _, hc⟩ := (hr.below hb).int (by omega)
      have c1 := hc k hkn
      clear hc
      have hbxr := HB.old
      have hbx1 : bx < wr.heap.size + 1 := by omega
      have hbx2 : bx ≠ wr.heap.size := by omega
      have hmx := HB.row.max
      go_wp2_with ((with_reducible show wpList _ _ _ (⟨some 29, _, _, _, _, _⟩ :: _) _ _); refine wpList_app2 _ rfl _ _ 60 rfl 62 Try.underlying60 infoRun rfl rfl rfl ((HB.row.alloc _).alloc _) (Rd2.one' _ _ _ _ _ (by simp)) (by intro u hu; simp at hu; rcases hu with rfl | rfl <;> rfl) (by omega) (by unfold maxLen; omega) ?_; intro a1 cap1 L1 w3 ow1 kp1 st1 hc1; clear hc1; have ow1' : Ow2 w3 62 L1 a1 (k + 1) cap1 (runs ((ms ++ [((nth xs k, ⟨[wr.heap.size], some ⟨wr.heap.size, 0, none⟩, 1, 1, [(k : Int)]⟩) : RC)]).map rvOf)) := by { rw [List.map_append, runs_app]; exact ow1 }; obtain ⟨m1, m2, HB', KB⟩ := HB.app (((Below.refl _ _).alloc (Nat.le_refl _) _).alloc (by simp) _) ow1' kp1 st1)
      have hst : ∀ i ∈ L1, i ∈ L ∨ wr.heap.size < i := fun i hi => by
        rcases st1 i hi with h | h
        · exact .inl h
        · right; simp at h; omega
      have hnB : New w.heap.size (bx :: L) := fun i hi => by
        rcases List.mem_cons.1 hi with h | h
        · have := HBX.out; omega
        · exact hnL i h
      have hself : Ow w3 3 [wr.heap.size] (some ⟨wr.heap.size, 0, none⟩) 1 1 (ints [(k : Int)]) := ((Ow.new' wr 3 #[.int .i64 (k : Int)] 1 _ rfl rfl (by unfold maxLen; omega)).alloc _).keep kp1 (fun i hi hj => by simp at hi; subst hi; have := HB.row.old _ hj; omega)
      have hself2 := hself.keep (Keeps.setCell w3 bx 0 (.slice a1 (k + 1) cap1)) (fun i hi hj => by simp at hi hj; omega)
      have HM2 := (hM.go KB (fun i hi => .inl hi) (B' := bx :: L1) (fun i hi => by
        rcases List.mem_cons.1 hi with h | h
        · exact .inl (by simp [h])
        · rcases hst i h with h2 | h2
          · exact .inl (by simp [h2])
          · exact .inr (by omega))).snoc (m := (nth xs k, ⟨[wr.heap.size], some ⟨wr.heap.size, 0, none⟩, 1, 1, [(k : Int)]⟩)) hself2 (fun i hi hj => by
        simp at hi; subst hi
        rcases List.mem_cons.1 hj with h | h
        · omega
        · rcases hst _ h with h2 | h2
          · have := HB.row.old _ h2; omega
          · omega)
      have HLF := Lib.hid (show (ms ++ [((nth xs k, ⟨[wr.heap.size], some ⟨wr.heap.size, 0, none⟩, 1, 1, [(k : Int)]⟩) : RC)]).map rnOf = leafs xs (k + 1) by rw [List.map_append, HMS.out, leafs_succ]; rfl)
      have hn2 : New w.heap.size L1 := fun i hi => by
        rcases hst i hi with h | h
        · exact hnL i h
        · omega
      go_roundw
      case rel => exact ⟨k + 1, L1, a1, cap1, _, by omega, by rw [Int.natCast_add]; rfl, HB', hn2, HM2, HLF.out, KB.below hb hnB hszr⟩
      case measure => simp [natT]; omega
    · obtain rfl : k = n := by omega
      clear hkn hk
      go_wp2_with fail
      obtain ⟨D, hD⟩ : ∃ D, D = wr.heap.size := ⟨_, rfl⟩
      obtain ⟨wm, hwm⟩ : ∃ wm, wm = wr.alloc (.cells (madeCells #[.int .i64 0] k) 3) := ⟨_, rfl⟩
      have hbm : Below wr.heap.size wr wm := by rw [hwm]; exact (Below.refl _ _).alloc (Nat.le_refl _) _
      have HB0 := HB.below hbm
      have hD0 : Ow wm 3 [D] (some ⟨D, 0, none⟩) k k (ints (hst xs 0).d) := by
        rw [hwm, hD]
        exact Ow.new' _ _ _ _ _ (size_madeCells _ _) (by rw [toList_madeCells_one]; simp [hst, HL.out]) (by unfold maxLen; omega)
      have hDL : D ∉ L := fun h => by have := HB.row.old _ h; omega
      have hbD : bx ≠ D := by have := HB.old; omega
      have HM0 := (hM.blocks (B' := bx :: D :: L) (fun i hi => by
        rcases List.mem_cons.1 hi with h | h
        · exact .inl (by simp [h])
        · rcases List.mem_cons.1 h with h | h
          · subst h; exact .inr (by omega)
          · exact .inl (by simp [h]))).below hbm
      have hb0 : Below w.heap.size w wm := Below.nx hb hbm
      have hwD : w.heap.size ≤ D := by omega
      have HMS0 := Lib.hid (show ms.map rnOf = (hst xs 0).l by rw [HMS.out]; show _ = leafs xs xs.length; rw [HL.out])
      rw [← hwm, ← hD]
      clear hwm hD hbm hM HB hb hmk HMS
      go_loopw [8] (fun c wr => ∃ t ln : Nat, ∃ L la lcap ms, c = .int .i64 (hst xs t).c ∧ ln + t = k ∧ (t + 1 ≤ k ∨ t = 0) ∧ Bx wr bx L la ln lcap ms ∧ New w.heap.size L ∧ D ∉ L ∧ Ow wr 3 [D] (some ⟨D, 0, none⟩) k k (ints (hst xs t).d) ∧ Ms wr (bx :: D :: L) ms ∧ ms.map rnOf = (hst xs t).l ∧ Below w.heap.size w wr) (fun _ wr => lenAtT bx wr)
      case atStart => exact ⟨0, k, L, la, lcap, ms, rfl, by omega, .inr rfl, HB0, hnL, hDL, hD0, HM0, HMS0.out, hb0⟩
      case round =>
        clear HB0 hnL hDL hD0 HM0 HMS0 hb0 hbc hszr
        obtain ⟨t, ln, L, la, lcap, ms, rfl, hln, ht, HB, hnL, hDL, hOD, hM, hms, hb⟩ := hrel
        have HMS := Lib.hid hms
        have HI := Lib.hid (HI.all HX.out t (by rw [HL.out]; exact ht))
        have hbc := HB.cell
        have HLEN := Lib.hid (lenAt_bx HB)
        clear hms
        by_cases h2 : 2 ≤ ln
        · have h3 : (1 : Int) < (ln : Int) := by omega
          go_upto_region 12 with (go_at_call 60; refine (c_takeB bx la ln lcap L ms _ HB (by omega) (by omega)).mono ?_; rintro e w2 ⟨rfl, HB2, K2⟩)
          have hl : ms.length = ln := by have := HB.row.len; rw [runs_len, List.length_map] at this; omega
          obtain ⟨m1, hm1⟩ : ∃ m1, m1 = mAt ms (lst (ms.map rnOf)) := ⟨_, rfl⟩
          obtain ⟨ms1, hms1⟩ : ∃ x, x = rmL ms (lst (ms.map rnOf)) := ⟨_, rfl⟩
          have hlt : lst (ms.map rnOf) < ms.length := by have := lst_lt (l := ms.map rnOf) (by rw [List.length_map]; omega); rwa [List.length_map] at this
          have HO1 := Lib.hid (show rnOf m1 = one1 (hst xs t).l by unfold one1; rw [hm1, ← HMS.out, rAt_map])
          have m1mem : m1 ∈ ms := by rw [hm1]; exact mAt_mem hlt
          have HMS1 := Lib.hid (show ms1.map rnOf = rmL (hst xs t).l (lst (hst xs t).l) by rw [hms1, rmL_map, HMS.out])
          have hl1 : ms1.length = ln - 1 := by rw [hms1, rmL_len hlt, hl]
          have hsub1 : ∀ m ∈ ms1, m ∈ ms := fun m hm => by rw [hms1] at hm; exact rmL_mem hm
          rw [← hms1] at HB2
          rw [← hm1]
          clear hm1 hms1 hlt
          have hbxD : D ∉ bx :: L := fun h => by
            rcases List.mem_cons.1 h with h | h
            · exact hbD h.symm
            · exact hDL h
          have hOD2 := hOD.keep K2 (fun i hi hj => by simp at hi; subst hi; exact hbxD hj)
          have hM2 := hM.keep K2 (fun i hi => .inl (by
            rcases List.mem_cons.1 hi with h | h
            · simp [h]
            · simp [h]))
          have hnB : New w.heap.size (bx :: L) := fun i hi => by
            rcases List.mem_cons.1 hi with h | h
            · have := HBX.out; omega
            · exact hnL i h
          have hb2 := K2.below hb hnB hb.size
          obtain ⟨P1, hP1⟩ : ∃ P1, P1 = w2.heap.size := ⟨_, rfl⟩
          obtain ⟨wp, hwp⟩ : ∃ wp, wp = w2.alloc (.cells #[.int .i64 m1.1, .slice m1.2.a m1.2.n m1.2.cap] 62) := ⟨_, rfl⟩
          have bp : Below w2.heap.size w2 wp := by rw [hwp]; exact (Below.refl _ _).alloc (Nat.le_refl _) _
          have T1 : Tw wp P1 m1 := by rw [hwp, hP1]; exact Tw.new _ _
          have HBp := HB2.below bp
          have hODp := hOD2.below bp
          have hMp := hM2.below bp
          have hbp := Below.nx hb2 bp
          have hP1b : P1 ∉ bx :: L := fun h => by
            rcases List.mem_cons.1 h with h | h
            · have := HB2.old; omega
            · have := HB2.row.old _ h; omega
          have hP1D : P1 ≠ D := by have := hOD2.old D (by simp); omega
          rw [← hwp, ← hP1]
          clear hwp hP1 bp HB2 hOD2 hM2 hb2 HB hOD hM hb
          go_upto_region 13 with (go_at_call 60; refine (c_takeB bx la (ln - 1) lcap L ms1 _ HBp (by omega) (by omega)).mono ?_; rintro e w4 ⟨rfl, HB4, K4⟩)
          obtain ⟨m2, hm2⟩ : ∃ m2, m2 = mAt ms1 (lst (ms1.map rnOf)) := ⟨_, rfl⟩
          obtain ⟨ms2, hms2⟩ : ∃ x, x = rmL ms1 (lst (ms1.map rnOf)) := ⟨_, rfl⟩
          have hlt : lst (ms1.map rnOf) < ms1.length := by have := lst_lt (l := ms1.map rnOf) (by rw [List.length_map]; omega); rwa [List.length_map] at this
          have HO2 := Lib.hid (show rnOf m2 = two1 (hst xs t).l by unfold two1; rw [hm2, ← HMS1.out, rAt_map])
          have m2mem : m2 ∈ ms := hsub1 _ (by rw [hm2]; exact mAt_mem hlt)
          have HMS2 := Lib.hid (show ms2.map rnOf = rest2 (hst xs t).l by unfold rest2; rw [hms2, rmL_map, HMS1.out])
          have hsub2 : ∀ m ∈ ms2, m ∈ ms := fun m hm => by rw [hms2] at hm; exact hsub1 _ (rmL_mem hm)
          rw [← hms2] at HB4
          rw [← hm2]
          clear hm2 hms2 hlt hl1 hsub1 HMS1
          have hOD4 := hODp.keep K4 (fun i hi hj => by simp at hi; subst hi; exact hbxD hj)
          have hM4 := hMp.keep K4 (fun i hi => .inl (by
            rcases List.mem_cons.1 hi with h | h
            · simp [h]
            · simp [h]))
          have hb4 := K4.below hbp hnB hbp.size
          have T14 := T1.keep K4 hP1b
          obtain ⟨P2, hP2⟩ : ∃ P2, P2 = w4.heap.size := ⟨_, rfl⟩
          obtain ⟨wq, hwq⟩ : ∃ wq, wq = w4.alloc (.cells #[.int .i64 m2.1, .slice m2.2.a m2.2.n m2.2.cap] 62) := ⟨_, rfl⟩
          have bq : Below w4.heap.size w4 wq := by rw [hwq]; exact (Below.refl _ _).alloc (Nat.le_refl _) _
          have T2q : Tw wq P2 m2 := by rw [hwq, hP2]; exact Tw.new _ _
          have T1q := T14.below bq
          have HBq := HB4.below bq
          have hODq := hOD4.below bq
          have hMq := hM4.below bq
          have hbq := Below.nx hb4 bq
          rw [← hwq, ← hP2]
          clear hwq hP2 bq HB4 hOD4 hM4 hb4 T14 T1 HBp hODp hMp hbp
          have m1l : rnOf m1 ∈ (hst xs t).l := by rw [← HMS.out]; exact List.mem_map.2 ⟨m1, m1mem, rfl⟩
          have m2l : rnOf m2 ∈ (hst xs t).l := by rw [← HMS.out]; exact List.mem_map.2 ⟨m2, m2mem, rfl⟩
          have hS := isum_ok (by rw [HL.out]; exact hn) HX.out
          have hv1 : 1 ≤ m1.1 ∧ m1.1 ≤ 8000 := ⟨HI.out.pos _ m1l, Int.le_trans (HI.out.low m1l) hS.2⟩
          have hv2 : 1 ≤ m2.1 ∧ m2.1 ≤ 8000 := ⟨HI.out.pos _ m2l, Int.le_trans (HI.out.low m2l) hS.2⟩
          have o1 := (hMq m1 m1mem).1
          have o2 := (hMq m2 m2mem).1
          have hn1 : m1.2.n ≤ 8 := by have h := HI.out.short m1l; have h2 := o1.lens; rw [HL.out] at h; simp only [rnOf] at h; omega
          have hn2 : m2.2.n ≤ 8 := by have h := HI.out.short m2l; have h2 := o2.lens; rw [HL.out] at h; simp only [rnOf] at h; omega
          have HT := Lib.hid (show [m1.2.xs, m2.2.xs].flatten.length = m1.2.n + m2.2.n by
            have h1 := o1.lens
            have h2 := o2.lens
            simp; omega)
          have HFL := Lib.hid (show [m1.2.xs, m2.2.xs].flatten = m1.2.xs ++ m2.2.xs by simp)
          have RA := Lib.hid (fun (wx : World) hbx => RdG.two (wx := wx) o1 o2 rfl hbx)
          have RC := Lib.hid (fun (wx : World) hbx => RdG.two (w := wq.alloc (.cells #[.int .i64 0, .slice none 0 0] 62)) (wx := wx) (o1.alloc _) (o2.alloc _) (b := wq.heap.size + 1) (by simp) hbx)
          have WR := Lib.hid (show IntKind.i64.wrap (m1.1 + m2.1) = m1.1 + m2.1 by rw [IntKind.wrap_i64]; omega)
          have H22 := Lib.hid (show 2 ≤ 1000 by omega)
          have H33 := Lib.hid (show m1.2.n + m2.2.n ≤ 1000 by omega)
          have p10 := T1q.c0
          have p11 := T1q.c1
          have p20 := T2q.c0
          have p21 := T2q.c1
          have hp1 := T1q.old
          have hp2 := T2q.old
          clear m1l m2l o1 o2
          go_cut [12] from 42 to 53 (fun p wx => Fin13 wq m1 m2 p wx)
          case first =>
            have g1 : P1 ≠ wq.heap.size := by omega
            have g2 : P2 ≠ wq.heap.size := by omega
            have g3 : P1 ≠ wq.heap.size + 1 := by omega
            have g4 : P2 ≠ wq.heap.size + 1 := by omega
            have g5 : wq.heap.size ≠ P1 := by omega
            have g6 : wq.heap.size ≠ P2 := by omega
            have g7 : wq.heap.size + 1 ≠ P1 := by omega
            have g8 : wq.heap.size + 1 ≠ P2 := by omega
            have g9 : P1 < wq.heap.size + 1 := by omega
            have g10 : P2 < wq.heap.size + 1 := by omega
            go_region_held3 (fun w' => w'.cell? ⟨P1, 0, none⟩ = some (.int .i64 m1.1) ∧ w'.cell? ⟨P1, 1, none⟩ = some (.slice m1.2.a m1.2.n m1.2.cap) ∧ w'.cell? ⟨P2, 0, none⟩ = some (.int .i64 m2.1) ∧ w'.cell? ⟨P2, 1, none⟩ = some (.slice m2.2.a m2.2.n m2.2.cap)) (go_keep)
              (first
                | (go_simp; go_at_call 41; first | ((with_reducible refine ((c_Concat (some ⟨wq.heap.size, 0, none⟩) 2 2 (m1.2.n + m2.2.n) [m1.2.xs, m2.2.xs] _ (RA.out _ (Below.refl _ _)) H22.out HT.out H33.out)).mono ?_); rintro e w5 ⟨oa, oc, rfl, ⟨M, ho, hnM⟩, hb5⟩; rw [HFL.out] at ho; have bW := Below.pre1 hb5; have hs0 := bW.size; have hs1 : P1 < w5.heap.size := Nat.lt_of_lt_of_le hp1 hs0; have hs2 : P2 < w5.heap.size := Nat.lt_of_lt_of_le hp2 hs0; have q1 := (bW.cell (p := ⟨P1, 0, none⟩) hp1).trans p10; have q2 := (bW.cell (p := ⟨P2, 0, none⟩) hp2).trans p20; have q3 := (bW.cell (p := ⟨P1, 1, none⟩) hp1).trans p11; have q4 := (bW.cell (p := ⟨P2, 1, none⟩) hp2).trans p21; have hnM2 := New.pre1 (wq := wq) hnM; clear hnM hb5) | ((with_reducible refine ((c_Concat (some ⟨wq.heap.size, 0, none⟩) 2 2 (m1.2.n + m2.2.n) [m1.2.xs, m2.2.xs] _ (RA.out _ (Below.refl _ _).drew) H22.out HT.out H33.out)).mono ?_); rintro e w5 ⟨oa, oc, rfl, ⟨M, ho, hnM⟩, hb5⟩; rw [HFL.out] at ho; have bW := Below.pre1 (Below.undrew hb5); have hs0 := bW.size; have hs1 : P1 < w5.heap.size := Nat.lt_of_lt_of_le hp1 hs0; have hs2 : P2 < w5.heap.size := Nat.lt_of_lt_of_le hp2 hs0; have q1 := (bW.cell (p := ⟨P1, 0, none⟩) hp1).trans p10; have q2 := (bW.cell (p := ⟨P2, 0, none⟩) hp2).trans p20; have q3 := (bW.cell (p := ⟨P1, 1, none⟩) hp1).trans p11; have q4 := (bW.cell (p := ⟨P2, 1, none⟩) hp2).trans p21; have hnM2 := New.pre1 (wq := wq) hnM; clear hnM hb5) | ((with_reducible refine ((c_Concat (some ⟨wq.heap.size, 0, none⟩) 2 2 (m1.2.n + m2.2.n) [m1.2.xs, m2.2.xs] _ (RA.out _ ((Below.refl _ _).alloc (Nat.le_refl _) _)) H22.out HT.out H33.out)).mono ?_); rintro e w5 ⟨oa, oc, rfl, ⟨M, ho, hnM⟩, hb5⟩; rw [HFL.out] at ho; have bW := Below.pre2 hb5; have hs0 := bW.size; have hs1 : P1 < w5.heap.size := Nat.lt_of_lt_of_le hp1 hs0; have hs2 : P2 < w5.heap.size := Nat.lt_of_lt_of_le hp2 hs0; have q1 := (bW.cell (p := ⟨P1, 0, none⟩) hp1).trans p10; have q2 := (bW.cell (p := ⟨P2, 0, none⟩) hp2).trans p20; have q3 := (bW.cell (p := ⟨P1, 1, none⟩) hp1).trans p11; have q4 := (bW.cell (p := ⟨P2, 1, none⟩) hp2).trans p21; have ZZ := Lib.hid (zero_b hb5); have z1 : w5.cell? ⟨wq.heap.size + 1, 0, none⟩ = some (.int .i64 0) := by { rw [cell_of_row _ _ 0 _ _ _ ZZ.out]; rfl }; have z2 : w5.cell? ⟨wq.heap.size + 1, 1, none⟩ = some (.slice none 0 0) := by { rw [cell_of_row _ _ 1 _ _ _ ZZ.out]; rfl }; have z3 : ∀ j, w5.frozen? ⟨wq.heap.size + 1, j, none⟩ = false := fun j => frozen_of_row _ _ j _ _ ZZ.out; have hN3 := New.pre (wq := wq) hnM; have hnM2 := hN3.1; have HXM := Lib.hid hN3.2.1; have HX2 := Lib.hid (Nat.le_succ wq.heap.size); clear hnM hN3 hb5) | ((with_reducible refine ((c_Concat (some ⟨wq.heap.size, 0, none⟩) 2 2 (m1.2.n + m2.2.n) [m1.2.xs, m2.2.xs] _ (RA.out _ ((Below.refl _ _).alloc (Nat.le_refl _) _).drew) H22.out HT.out H33.out)).mono ?_); rintro e w5 ⟨oa, oc, rfl, ⟨M, ho, hnM⟩, hb5⟩; rw [HFL.out] at ho; have bW := Below.pre2 (Below.undrew hb5); have hs0 := bW.size; have hs1 : P1 < w5.heap.size := Nat.lt_of_lt_of_le hp1 hs0; have hs2 : P2 < w5.heap.size := Nat.lt_of_lt_of_le hp2 hs0; have q1 := (bW.cell (p := ⟨P1, 0, none⟩) hp1).trans p10; have q2 := (bW.cell (p := ⟨P2, 0, none⟩) hp2).trans p20; have q3 := (bW.cell (p := ⟨P1, 1, none⟩) hp1).trans p11; have q4 := (bW.cell (p := ⟨P2, 1, none⟩) hp2).trans p21; have ZZ := Lib.hid (zero_b (Below.undrew hb5)); have z1 : w5.cell? ⟨wq.heap.size + 1, 0, none⟩ = some (.int .i64 0) := by { rw [cell_of_row _ _ 0 _ _ _ ZZ.out]; rfl }; have z2 : w5.cell? ⟨wq.heap.size + 1, 1, none⟩ = some (.slice none 0 0) := by { rw [cell_of_row _ _ 1 _ _ _ ZZ.out]; rfl }; have z3 : ∀ j, w5.frozen? ⟨wq.heap.size + 1, j, none⟩ = false := fun j => frozen_of_row _ _ j _ _ ZZ.out; have hN3 := New.pre (wq := wq) hnM; have hnM2 := hN3.1; have HXM := Lib.hid hN3.2.1; have HX2 := Lib.hid (Nat.le_succ wq.heap.size); clear hnM hN3 hb5) | ((with_reducible refine ((c_Concat (some ⟨wq.heap.size + 1, 0, none⟩) 2 2 (m1.2.n + m2.2.n) [m1.2.xs, m2.2.xs] _ (RC.out _ (Below.refl _ _)) H22.out HT.out H33.out)).mono ?_); rintro e w5 ⟨oa, oc, rfl, ⟨M, ho, hnM⟩, hb5⟩; rw [HFL.out] at ho; have bW := Below.pre2 hb5; have hs0 := bW.size; have hs1 : P1 < w5.heap.size := Nat.lt_of_lt_of_le hp1 hs0; have hs2 : P2 < w5.heap.size := Nat.lt_of_lt_of_le hp2 hs0; have q1 := (bW.cell (p := ⟨P1, 0, none⟩) hp1).trans p10; have q2 := (bW.cell (p := ⟨P2, 0, none⟩) hp2).trans p20; have q3 := (bW.cell (p := ⟨P1, 1, none⟩) hp1).trans p11; have q4 := (bW.cell (p := ⟨P2, 1, none⟩) hp2).trans p21; have ZZ := Lib.hid (zero_c hb5); have z1 : w5.cell? ⟨wq.heap.size, 0, none⟩ = some (.int .i64 0) := by { rw [cell_of_row _ _ 0 _ _ _ ZZ.out]; rfl }; have z2 : w5.cell? ⟨wq.heap.size, 1, none⟩ = some (.slice none 0 0) := by { rw [cell_of_row _ _ 1 _ _ _ ZZ.out]; rfl }; have z3 : ∀ j, w5.frozen? ⟨wq.heap.size, j, none⟩ = false := fun j => frozen_of_row _ _ j _ _ ZZ.out; have hN3 := New.pre (wq := wq) hnM; have hnM2 := hN3.1; have HXM := Lib.hid hN3.2.2; have HX2 := Lib.hid (Nat.le_refl wq.heap.size); clear hnM hN3 hb5) | ((with_reducible refine ((c_Concat (some ⟨wq.heap.size + 1, 0, none⟩) 2 2 (m1.2.n + m2.2.n) [m1.2.xs, m2.2.xs] _ (RC.out _ (Below.refl _ _).drew) H22.out HT.out H33.out)).mono ?_); rintro e w5 ⟨oa, oc, rfl, ⟨M, ho, hnM⟩, hb5⟩; rw [HFL.out] at ho; have bW := Below.pre2 (Below.undrew hb5); have hs0 := bW.size; have hs1 : P1 < w5.heap.size := Nat.lt_of_lt_of_le hp1 hs0; have hs2 : P2 < w5.heap.size := Nat.lt_of_lt_of_le hp2 hs0; have q1 := (bW.cell (p := ⟨P1, 0, none⟩) hp1).trans p10; have q2 := (bW.cell (p := ⟨P2, 0, none⟩) hp2).trans p20; have q3 := (bW.cell (p := ⟨P1, 1, none⟩) hp1).trans p11; have q4 := (bW.cell (p := ⟨P2, 1, none⟩) hp2).trans p21; have ZZ := Lib.hid (zero_c (Below.undrew hb5)); have z1 : w5.cell? ⟨wq.heap.size, 0, none⟩ = some (.int .i64 0) := by { rw [cell_of_row _ _ 0 _ _ _ ZZ.out]; rfl }; have z2 : w5.cell? ⟨wq.heap.size, 1, none⟩ = some (.slice none 0 0) := by { rw [cell_of_row _ _ 1 _ _ _ ZZ.out]; rfl }; have z3 : ∀ j, w5.frozen? ⟨wq.heap.size, j, none⟩ = false := fun j => frozen_of_row _ _ j _ _ ZZ.out; have hN3 := New.pre (wq := wq) hnM; have hnM2 := hN3.1; have HXM := Lib.hid hN3.2.2; have HX2 := Lib.hid (Nat.le_refl wq.heap.size); clear hnM hN3 hb5)))
            all_goals
              go_wp2_with fail
              go_meet
              rw [WR.out]
              first
                | (with_reducible exact Fin13.a bW ho hnM2)
                | (with_reducible exact Fin13.b bW ho hnM2 HX2.out HXM.out ZZ.out)
          case rest =>
            obtain ⟨X, oa, oc, M, rfl, TX, ho, hnM, hX, hXM, b13⟩ := hcut
            obtain ⟨wn, rfl⟩ : ∃ wn : World, wn = wc := ⟨_, rfl⟩
            have HBn := HBq.below b13
            have hODn := hODq.below b13
            have hMn := hMq.below b13
            have hbn := Below.nx hbq b13
            have hDq := hODq.old D (by simp)
            have hLq : ∀ i ∈ L, i < wq.heap.size := fun i hi => HBq.row.old i hi
            have hbxq := HBq.old
            have hMD : Apart M [D] := fun i hi hj => by simp at hj; subst hj; have := hnM _ hi; omega
            have hXD : X ≠ D := by omega
            have HBOTH := Lib.hid (show both (hst xs t).l = (m1.1 + m2.1, m1.2.xs ++ m2.2.xs) by unfold both; rw [← HO1.out, ← HO2.out]; rfl)
            have hT := ho.lens
            have HTL := Lib.hid hT
            obtain ⟨T, hTT⟩ : ∃ T, T = m1.2.n + m2.2.n := ⟨_, rfl⟩
            have hT16 : T ≤ 16 := by omega
            rw [← hTT] at TX ho hT HTL
            obtain ⟨zs, hzs⟩ : ∃ zs, zs = m1.2.xs ++ m2.2.xs := ⟨_, rfl⟩
            obtain ⟨v, hv⟩ : ∃ v, v = m1.1 + m2.1 := ⟨_, rfl⟩
            have hvb : 1 ≤ v ∧ v ≤ 16000 := by omega
            have hmem := (HI.out.step (by have := HI.out.len; rw [HL.out] at this; omega)).mem (both (hst xs t).l) (by simp [hstep])
            rw [HBOTH.out] at hmem
            have HBO := HBOTH
            rw [← hzs, ← hv] at HBO
            rw [← hzs] at ho hT HTL hmem
            rw [← hzs, ← hv] at TX
            have HMEM := Lib.hid hmem
            clear hmem hTT HBq hODq hMq hbq T1q T2q p10 p11 p20 p21 RA RC HT HFL HBOTH hzs hv WR
            have hkt : (k : Int) * (t : Int) ≤ 64 := by
              have h : k * t ≤ 8 * 8 := Nat.mul_le_mul hn (by omega)
              rw [← Int.natCast_mul]; omega
            have hkt0 : (0 : Int) ≤ (k : Int) * (t : Int) := by rw [← Int.natCast_mul]; omega
            have HDB := Lib.hid (fun j => bumpN_range (d := (hst xs t).d) (ms := zs) (B := (k : Int) * (t : Int)) (fun v hv => by have := HI.out.db v hv; rw [HL.out] at this; exact this) hkt0 j)
            have HDL := Lib.hid (show (hst xs t).d.length = k by rw [HI.out.dl, HL.out])
            have hc16 : 0 ≤ (hst xs t).c ∧ (hst xs t).c ≤ 64000 := by
              have h1 := HI.out.c0
              have h2 := HI.out.c1
              have h3 : isum xs * (t : Int) ≤ 8000 * 8 := Int.mul_le_mul hS.2 (by omega) (by omega) (by omega)
              exact ⟨h1, by omega⟩
            clear hkt hkt0
            have x1 := TX.c1
            simp only at x1
            go_wp2_with fail
            go_loopw [57] (fun i wr => ∃ j : Nat, j ≤ T ∧ i = .int .i64 (j : Int) ∧ Keeps [D] wn wr ∧ Ow wr 3 [D] (some ⟨D, 0, none⟩) k k (ints (bumpN (hst xs t).d zs j))) (fun i _ => T - natT i)
            case atStart => exact ⟨0, by omega, rfl, Keeps.refl _ _, hODn⟩
            case round =>
              clear hODn x1
              obtain ⟨j, hj, rfl, kD, how⟩ := hrel
              by_cases hjT : j < T
              · have hm := HMEM.out (nth zs j) (by rw [nth_eq (by rw [HTL.out]; exact hjT)]; exact List.getElem_mem _)
                obtain ⟨i, hi⟩ : ∃ i : Nat, nth zs j = (i : Int) := ⟨(nth zs j).toNat, by omega⟩
                rw [HL.out] at hm
                have hik : i < k := by omega
                obtain ⟨bm, om, hoa, hbm, hcm⟩ := (ho.keep kD hMD).rd.int (by omega)
                have c1 := hcm j hjT
                rw [hi] at c1
                have hoa' : oa = some ⟨bm, om, none⟩ := hoa
                subst hoa'
                obtain ⟨D', eD, _, _, hcd, hfd⟩ := how.int (by omega)
                have eD' := List.head_eq_of_cons_eq eD
                subst eD'
                have c2 := hcd i hik
                have c3 := hfd i
                have hbd := HDB.out j (nth (bumpN (hst xs t).d zs j) i) (by rw [nth_eq (by rw [bumpN_len, HDL.out]; exact hik)]; exact List.getElem_mem _)
                have hkt : (k : Int) * (t : Int) ≤ 64 := by
                  have h : k * t ≤ 8 * 8 := Nat.mul_le_mul hn (by omega)
                  rw [← Int.natCast_mul]; omega
                have hbv : 0 ≤ nth (bumpN (hst xs t).d zs j) i ∧ nth (bumpN (hst xs t).d zs j) i ≤ 100 := by omega
                have HBS := Lib.hid (show bumpN (hst xs t).d zs (j + 1) = (bumpN (hst xs t).d zs j).set i (nth (bumpN (hst xs t).d zs j) i + 1) by rw [bumpN, hi, Int.toNat_natCast])
                have how2 := how.set i (.int .i64 (nth (bumpN (hst xs t).d zs j) i + 1))
                rw [ints_set, ← HBS.out] at how2
                clear hbd hkt hcd hfd hcm eD hi hm
                go_wp2_with fail
                go_roundw
                case rel => exact ⟨j + 1, by omega, by rw [Int.natCast_add]; rfl, kD.trans (Keeps.setCell _ _ _ _) (Step.refl _ _), how2⟩
                case measure => simp [natT]; omega
              · obtain rfl : j = T := by omega
                have HBr := HBn.keep kD (by simpa using hbD) (fun i hi hj => by simp at hj; subst hj; exact hDL hi)
                have hMr := hMn.keep kD (fun i hi => .inl (by simp at hi; simp [hi]))
                have hor := ho.keep kD hMD
                have TXr := TX.keep kD (by simpa using hXD)
                have hDnew : New w.heap.size [D] := fun i hi => by simp at hi; omega
                have hbr := kD.below hbn hDnew hbn.size
                have x0 := TXr.c0
                have x1 := TXr.c1
                simp only at x0 x1
                have hbc2 := HBr.cell
                have hbxr := HBr.old
                have hbx1 : bx < wr.heap.size + 1 := by omega
                have hbx2 : bx ≠ wr.heap.size := by omega
                have hmx := HBr.row.max
                have hlnT : ln - 1 - 1 ≤ 8 := by omega
                have HNX := Lib.hid (show hst xs (t + 1) = ⟨(ms2 ++ [((v, ⟨M, oa, j, oc, zs⟩) : RC)]).map rnOf, bumpN (hst xs t).d zs j, (hst xs t).c + v⟩ by
                  show hstep (hst xs t) = _
                  unfold hstep
                  rw [HBO.out, List.map_append, HMS2.out, HTL.out]; rfl)
                go_wp2_with ((with_reducible show wpList _ _ _ (⟨some 75, _, _, _, _, _⟩ :: _) _ _); refine wpList_app2 _ rfl _ _ 60 rfl 62 Try.underlying60 infoRun rfl rfl rfl (HBr.row.alloc _) (Rd2.one' _ _ _ _ _ rfl) (by intro u hu; simp at hu; rcases hu with rfl | rfl <;> rfl) (by omega) (by unfold maxLen; omega) ?_; intro a1 cap1 L1 w3 ow1 kp1 st1 hc1; clear hc1; have ow1' : Ow2 w3 62 L1 a1 (ln - 1 - 1 + 1) cap1 (runs ((ms2 ++ [((v, ⟨M, oa, j, oc, zs⟩) : RC)]).map rvOf)) := by { rw [List.map_append, runs_app]; exact ow1 }; obtain ⟨y1, y2, HB', KB⟩ := HBr.app ((Below.refl _ _).alloc (Nat.le_refl _) _) ow1' kp1 st1)
                have hst1 : ∀ i ∈ L1, i ∈ L ∨ wr.heap.size < i := fun i hi => by
                  rcases st1 i hi with h | h
                  · exact .inl h
                  · right; simp at h; omega
                have hDr := how.old D (by simp)
                have hD2 : D ∉ L1 := fun h => by
                  rcases hst1 _ h with h2 | h2
                  · exact hDL h2
                  · omega
                have how2 := how.keep KB (fun i hi hj => by simp at hi; subst hi; exact hbxD hj)
                have hor2 := hor.keep KB (fun i hi hj => by
                  have h1 := hnM i hi
                  rcases List.mem_cons.1 hj with h | h
                  · omega
                  · have := hLq i h; omega)
                have hM2 := ((hMr.sub hsub2).go KB (fun i hi => .inl (by
                  rcases List.mem_cons.1 hi with h | h
                  · simp [h]
                  · simp [h])) (B' := bx :: D :: L1) (fun i hi => by
                  rcases List.mem_cons.1 hi with h | h
                  · exact .inl (by simp [h])
                  · rcases List.mem_cons.1 h with h | h
                    · exact .inl (by simp [h])
                    · rcases hst1 i h with h2 | h2
                      · exact .inl (by simp [h2])
                      · exact .inr (by omega))).snoc (m := (v, ⟨M, oa, j, oc, zs⟩)) hor2 (fun i hi hj => by
                  have h1 := hnM i hi
                  have h3 := hor.old i hi
                  rcases List.mem_cons.1 hj with h | h
                  · omega
                  · rcases List.mem_cons.1 h with h | h
                    · omega
                    · rcases hst1 i h with h2 | h2
                      · have := hLq i h2; omega
                      · omega)
                have hn2 : New w.heap.size L1 := fun i hi => by
                  rcases hst1 i hi with h | h
                  · exact hnL i h
                  · have := hbr.size; omega
                have hbF := KB.below hbr hnB hbr.size
                clear how hor hMr HBr KB TXr ow1 ow1' kp1 st1 hbr
                go_roundw
                case rel => exact ⟨t + 1, ln - 1 - 1 + 1, L1, a1, cap1, _, by rw [HNX.out], by omega, .inl (by omega), HB', hn2, hD2, by rw [HNX.out]; exact how2, hM2, by rw [HNX.out], hbF⟩
                case measure => rw [lenAt_bx HB', HLEN.out]; omega
        · have ht1 : t = k - 1 := by omega
          subst ht1
          have HC := Lib.hid (show hufC xs = (hst xs (k - 1)).c by unfold hufC; rw [HL.out])
          have HDD := Lib.hid (show hufD xs = (hst xs (k - 1)).d by unfold hufD; rw [HL.out])
          have h3 : ¬ (1 : Int) < (ln : Int) := by omega
          go_wp2_with fail
          go_ret2
          exact ⟨some ⟨D, 0, none⟩, k, by rw [HC.out]; rfl, ⟨[D], by rw [HDD.out]; exact hOD, fun i hi => by simp at hi; omega⟩, hb⟩

end Go.Proofs.Ytaffokicnabkiaa

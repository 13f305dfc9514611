/- Memory, slices of slices of ints: when such a value reads as a list of lists, when the call owns it, rows and all. No condition. -/
import Derived.Test.YtaffokicnabkiaaMem
namespace Go.Proofs.Ytaffokicnabkiaa
open Go.RowKit

/-- A row of a slice of slices: its blocks, its slice value, what it reads as. -/
structure Cell where
  L : List Nat
  a : Option Addr
  n : Nat
  cap : Nat
  xs : List Int
def Cell.val (c : Cell) : Value := .slice c.a c.n c.cap
/-- All blocks of it. -/
def fp (L : List Nat) (cs : List Cell) : List Nat := L ++ cs.flatMap (·.L)
theorem mem_fp {L : List Nat} {cs : List Cell} {k : Nat} : k ∈ fp L cs ↔ k ∈ L ∨ ∃ c, c ∈ cs ∧ k ∈ c.L := by simp [fp, List.mem_flatMap]

/-- The call owns a slice of slices: T the type of its elements, Ti that of theirs. -/
structure OwG (w : World) (T Ti : TypeId) (L : List Nat) (a : Option Addr) (n cap : Nat) (cs : List Cell) : Prop where
  row : Ow w T L a n cap (cs.map Cell.val)
  cells : ∀ c ∈ cs, Ow w Ti c.L c.a c.n c.cap (ints c.xs)
  apart : ∀ c ∈ cs, Apart L c.L
  pair : cs.Pairwise fun c d => Apart c.L d.L

section
variable {w w' : World} {T Ti : TypeId} {L : List Nat} {a : Option Addr} {n cap : Nat} {cs : List Cell}

theorem OwG.len (h : OwG w T Ti L a n cap cs) : cs.length = n := by simpa using h.row.len
theorem OwG.old (h : OwG w T Ti L a n cap cs) : Old w (fp L cs) := fun k hk => by
  rcases mem_fp.1 hk with h1 | ⟨c, hc, h1⟩
  · exact h.row.old k h1
  · exact (h.cells c hc).old k h1
theorem OwG.keep {M : List Nat} (h : OwG w T Ti L a n cap cs) (k : Keeps M w w') (hn : Apart (fp L cs) M) : OwG w' T Ti L a n cap cs :=
  ⟨h.row.keep k (fun i hi => hn i (mem_fp.2 (.inl hi))), fun c hc => (h.cells c hc).keep k (fun i hi => hn i (mem_fp.2 (.inr ⟨c, hc, hi⟩))), h.apart, h.pair⟩
theorem OwG.below (h : OwG w T Ti L a n cap cs) (k : Below w.heap.size w w') : OwG w' T Ti L a n cap cs := h.keep (Keeps.of_below k []) (fun _ _ h => by cases h)
theorem OwG.alloc (h : OwG w T Ti L a n cap cs) (o : Obj) : OwG (w.alloc o) T Ti L a n cap cs := h.keep (Keeps.alloc [] w o) (fun _ _ h => by cases h)
theorem OwG.bare (w : World) (T Ti : TypeId) (a : Option Addr) : OwG w T Ti [] a 0 0 [] := ⟨Ow.bare _ _ _, fun _ h => (by cases h), fun _ h => (by cases h), List.Pairwise.nil⟩

/-- One row more: behind the append to the outer row. -/
theorem OwG.push (h : OwG w T Ti L a n cap cs) {c : Cell} (hc : Ow w Ti c.L c.a c.n c.cap (ints c.xs)) (hx : Apart (fp L cs) c.L) {a' : Option Addr} {cap' : Nat} {L' : List Nat}
    (h1 : Ow w' T L' a' (n + 1) cap' (cs.map Cell.val ++ [c.val])) (k : Keeps L w w') (s : Step w L L') : OwG w' T Ti L' a' (n + 1) cap' (cs ++ [c]) := by
  refine ⟨by simpa using h1, fun d hd => ?_, fun d hd => ?_, ?_⟩
  · rcases List.mem_append.1 hd with h2 | h2
    · exact (h.cells d h2).keep k (h.apart d h2).symm
    · simp at h2; subst h2
      exact hc.keep k (fun i hi hm => hx i (mem_fp.2 (.inl hm)) hi)
  · rcases List.mem_append.1 hd with h2 | h2
    · exact (h.apart d h2).step s (h.cells d h2).old
    · simp at h2; subst h2
      exact Apart.step (fun i hi => hx i (mem_fp.2 (.inl hi))) s hc.old
  · refine List.pairwise_append.2 ⟨h.pair, by simp, fun d hd e he => ?_⟩
    simp at he; subst he
    exact fun i hi => hx i (mem_fp.2 (.inr ⟨d, hd, hi⟩))

theorem Step.push (L L' : List Nat) (cs : List Cell) (c : Cell) (s : Step w L L') (hc : New w.heap.size c.L) : Step w (fp L cs) (fp L' (cs ++ [c])) := fun k hk => by
  rcases mem_fp.1 hk with h1 | ⟨d, hd, h1⟩
  · rcases s k h1 with h2 | h2
    · exact .inl (mem_fp.2 (.inl h2))
    · exact .inr h2
  · rcases List.mem_append.1 hd with h2 | h2
    · exact .inl (mem_fp.2 (.inr ⟨d, h2, h1⟩))
    · simp at h2; subst h2
      exact .inr (hc k h1)

/-- A row changed in place, or anew, and stored again. -/
theorem OwG.upd {g : Nat} (h : OwG w T Ti [g] (some ⟨g, 0, none⟩) n cap cs) {j : Nat} {c : Cell} (hj : cs[j]? = some c) {w1 : World} {c' : Cell} (hc : Ow w1 Ti c'.L c'.a c'.n c'.cap (ints c'.xs)) (k : Keeps c.L w w1) (s : Step w c.L c'.L) :
    OwG (w1.setCell ⟨g, j, none⟩ c'.val) T Ti [g] (some ⟨g, 0, none⟩) n cap (cs.set j c') := by
  have hcm : c ∈ cs := List.mem_of_getElem? hj
  have hjl : j < cs.length := (List.getElem?_eq_some_iff.1 hj).1
  have hag := h.apart c hcm
  have hr1 := h.row.keep k hag
  have hag' : Apart [g] c'.L := (Apart.step hag.symm s h.row.old).symm
  have other : ∀ i d, cs[i]? = some d → i ≠ j → Apart c.L d.L := fun i d hi hne => by
    have hil : i < cs.length := (List.getElem?_eq_some_iff.1 hi).1
    have hp := List.pairwise_iff_getElem.1 h.pair
    have e1 : cs[i] = d := by simpa [List.getElem?_eq_getElem hil] using hi
    have e2 : cs[j] = c := by simpa [List.getElem?_eq_getElem hjl] using hj
    rcases Nat.lt_or_ge i j with h1 | h1
    · have := hp i j hil hjl h1; rw [e1, e2] at this; exact this.symm
    · have := hp j i hjl hil (by omega); rw [e1, e2] at this; exact this
  have mem_set : ∀ d, d ∈ cs.set j c' → d = c' ∨ ∃ i, cs[i]? = some d ∧ i ≠ j := fun d hd => by
    obtain ⟨i, hi⟩ := List.mem_iff_getElem?.1 hd
    rw [List.getElem?_set] at hi
    by_cases e : j = i
    · rw [if_pos e] at hi
      split at hi
      · exact .inl (by simpa using hi.symm)
      · omega
    · rw [if_neg e] at hi
      exact .inr ⟨i, hi, fun h => e h.symm⟩
  refine ⟨?_, fun d hd => ?_, fun d hd => ?_, ?_⟩
  · have := hr1.set j c'.val
    rw [List.map_set]
    exact this
  · rcases mem_set d hd with rfl | ⟨i, hi, hne⟩
    · exact hc.keep (Keeps.setCell _ _ _ _) hag'.symm
    · have hdm : d ∈ cs := List.mem_of_getElem? hi
      exact ((h.cells d hdm).keep k (other i d hi hne).symm).keep (Keeps.setCell _ _ _ _) (h.apart d hdm).symm
  · rcases mem_set d hd with rfl | ⟨i, hi, hne⟩
    · exact hag'
    · exact h.apart d (List.mem_of_getElem? hi)
  · rw [List.pairwise_iff_getElem]
    intro i1 i2 h1 h2 hlt
    rw [List.length_set] at h1 h2
    have hp := List.pairwise_iff_getElem.1 h.pair i1 i2 h1 h2 hlt
    rw [List.getElem_set, List.getElem_set]
    by_cases e1 : j = i1
    · subst e1
      rw [if_pos rfl, if_neg (by omega)]
      exact Apart.step (other i2 _ (List.getElem?_eq_getElem h2) (by omega)) s (h.cells _ (List.getElem_mem h2)).old
    · rw [if_neg e1]
      by_cases e2 : j = i2
      · subst e2
        rw [if_pos rfl]
        exact (Apart.step (other i1 _ (List.getElem?_eq_getElem h1) (by omega)) s (h.cells _ (List.getElem_mem h1)).old).symm
      · rw [if_neg e2]
        exact hp

theorem OwG.updKeeps {g : Nat} {j : Nat} {c : Cell} (hj : cs[j]? = some c) {w1 : World} {c' : Cell} (k : Keeps c.L w w1) : Keeps (fp [g] cs) w (w1.setCell ⟨g, j, none⟩ c'.val) := by
  have hcm : c ∈ cs := List.mem_of_getElem? hj
  exact (k.mono (L' := fp [g] cs) (fun i hi => .inl (mem_fp.2 (.inr ⟨c, hcm, hi⟩)))).trans (Keeps.setCell _ _ _ _) (fun i hi => .inl (mem_fp.2 (.inl hi)))

theorem OwG.updStep {g : Nat} {j : Nat} {c : Cell} (hj : cs[j]? = some c) {c' : Cell} (s : Step w c.L c'.L) : Step w (fp [g] cs) (fp [g] (cs.set j c')) := fun i hi => by
  have hcm : c ∈ cs := List.mem_of_getElem? hj
  rcases mem_fp.1 hi with h1 | ⟨d, hd, h1⟩
  · exact .inl (mem_fp.2 (.inl h1))
  · rcases List.mem_or_eq_of_mem_set hd with h2 | h2
    · exact .inl (mem_fp.2 (.inr ⟨d, h2, h1⟩))
    · subst h2
      rcases s i h1 with h3 | h3
      · exact .inl (mem_fp.2 (.inr ⟨c, hcm, h3⟩))
      · exact .inr h3
end

/-- A slice of slices reads as a list of lists. -/
def RdG (w : World) (a : Option Addr) (n cap : Nat) (xss : List (List Int)) : Prop :=
  ∃ cs : List Cell, Rd w a n cap (cs.map Cell.val) ∧ (∀ c ∈ cs, RdI w c.a c.n c.cap c.xs) ∧ cs.map (·.xs) = xss
theorem OwG.rd {w : World} {T Ti : TypeId} {L : List Nat} {a : Option Addr} {n cap : Nat} {cs : List Cell} (h : OwG w T Ti L a n cap cs) : RdG w a n cap (cs.map (·.xs)) :=
  ⟨cs, h.row.rd, fun c hc => (h.cells c hc).rd, rfl⟩
theorem RdG.below {w w' : World} {a : Option Addr} {n cap : Nat} {xss : List (List Int)} (h : RdG w a n cap xss) (k : Below w.heap.size w w') : RdG w' a n cap xss := by
  obtain ⟨cs, h1, h2, h3⟩ := h
  exact ⟨cs, h1.below k, fun c hc => (h2 c hc).below k, h3⟩
theorem RdG.len {w : World} {a : Option Addr} {n cap : Nat} {xss : List (List Int)} (h : RdG w a n cap xss) : xss.length = n := by
  obtain ⟨cs, h1, _, rfl⟩ := h
  simpa using h1.len
/-- Its row j. -/
theorem RdG.at' {w : World} {a : Option Addr} {n cap : Nat} {xss : List (List Int)} (h : RdG w a n cap xss) {j : Nat} (hj : j < n) :
    ∃ b off a' n' cap', a = some ⟨b, off, none⟩ ∧ b < w.heap.size ∧ w.cell? ⟨b, off + j, none⟩ = some (.slice a' n' cap') ∧ RdI w a' n' cap' (xss.getD j []) := by
  obtain ⟨cs, h1, h2, rfl⟩ := h
  obtain ⟨b, off, rfl, hb, hc⟩ := h1.at' (by omega)
  have hl : j < cs.length := by have := h1.len; simp at this; omega
  refine ⟨b, off, cs[j].a, cs[j].n, cs[j].cap, rfl, hb, ?_, ?_⟩
  · rw [hc j hj, List.getElem?_map, List.getElem?_eq_getElem hl]; rfl
  · have := h2 cs[j] (List.getElem_mem hl)
    simpa [List.getD, hl] using this
theorem RdG.nil (w : World) (a : Option Addr) (cap : Nat) (h : cap ≤ maxLen) : RdG w a 0 cap [] := ⟨[], Rd.nil w a cap h, fun _ h => (by cases h), rfl⟩

/-- The call owns, from block B on, a slice of slices that reads as xss. -/
def Gr (w : World) (T Ti : TypeId) (B : Nat) (a : Option Addr) (n cap : Nat) (xss : List (List Int)) : Prop :=
  ∃ L cs, OwG w T Ti L a n cap cs ∧ cs.map (·.xs) = xss ∧ New B (fp L cs)
theorem Gr.mono {w : World} {T Ti : TypeId} {B B' : Nat} {a : Option Addr} {n cap : Nat} {xss : List (List Int)} (h : Gr w T Ti B a n cap xss) (hb : B' ≤ B) : Gr w T Ti B' a n cap xss := by
  obtain ⟨L, cs, h1, h2, h3⟩ := h
  exact ⟨L, cs, h1, h2, h3.mono hb⟩

section
variable {w : World} {T Ti : TypeId} {L : List Nat} {a : Option Addr} {n cap : Nat} {cs : List Cell}
/-- Where its row of slices lies. -/
theorem OwG.addr (h : OwG w T Ti L a n cap cs) (hp : 0 < n) : ∃ g, L = [g] ∧ a = some ⟨g, 0, none⟩ ∧ g < w.heap.size ∧ (∀ j c, cs[j]? = some c → w.cell? ⟨g, j, none⟩ = some (.slice c.a c.n c.cap)) ∧ ∀ j, w.frozen? ⟨g, j, none⟩ = false := by
  obtain ⟨g, h1, h2, h3, h4, h5⟩ := h.row.at' (by have := h.row.le; omega)
  refine ⟨g, h1, h2, h3, fun j c hc => ?_, h5⟩
  have hj : j < cs.length := (List.getElem?_eq_some_iff.1 hc).1
  rw [h4 j (by have := h.len; omega), List.getElem?_map, hc]
  rfl
/-- Behind 'append(out, []int{})': one new empty row at the end. -/
theorem OwG.pushNew {W : World} {B : Nat} (h : OwG w T Ti L a n cap cs) (hn : New B (fp L cs)) (hb : Below B W w) (hB : B ≤ w.heap.size) {o1 o2 : Obj} {c : Cell} (hc : Ow ((w.alloc o1).alloc o2) Ti c.L c.a c.n c.cap (ints c.xs)) (hcn : New w.heap.size c.L)
    {w1 : World} {a1 : Option Addr} {cap1 : Nat} {L1 : List Nat} (ow : Ow w1 T L1 a1 (n + 1) cap1 (cs.map Cell.val ++ [c.val])) (kp : Keeps L ((w.alloc o1).alloc o2) w1) (st : Step ((w.alloc o1).alloc o2) L L1) :
    ∃ g, L1 = [g] ∧ a1 = some ⟨g, 0, none⟩ ∧ OwG w1 T Ti [g] (some ⟨g, 0, none⟩) (n + 1) cap1 (cs ++ [c]) ∧ New B (fp [g] (cs ++ [c])) ∧ Below B W w1 ∧ w1.cell? ⟨g, n, none⟩ = some (.slice c.a c.n c.cap) ∧ (∀ j, w1.frozen? ⟨g, j, none⟩ = false) ∧ g < w1.heap.size := by
  have h2 := (h.alloc o1).alloc o2
  have og := h2.push hc (fun i hi hm => by have := h.old i hi; have := hcn i hm; omega) ow kp st
  obtain ⟨g, rfl, rfl, h3, h4, h5⟩ := og.addr (by omega)
  refine ⟨g, rfl, rfl, og, fun i hi => ?_, kp.below ((hb.alloc hB _).alloc (by simp; omega) _) (fun i hi => hn i (mem_fp.2 (.inl hi))) (by simp; omega), ?_, h5, h3⟩
  · rcases mem_fp.1 hi with h6 | ⟨d, hd, h6⟩
    · rcases st i h6 with h7 | h7
      · exact hn i (mem_fp.2 (.inl h7))
      · simp at h7; omega
    · rcases List.mem_append.1 hd with h8 | h8
      · exact hn i (mem_fp.2 (.inr ⟨d, h8, h6⟩))
      · simp at h8; subst h8; have := hcn i h6; omega
  · exact h4 n c (by rw [List.getElem?_append_right (by rw [h.len]; exact Nat.le_refl _), h.len, Nat.sub_self]; rfl)
/-- Behind 'append(out[j], x)', ahead of the store: what the store meets, and what stands behind it. -/
theorem OwG.appAt {W : World} {B g : Nat} (h : OwG w T Ti [g] (some ⟨g, 0, none⟩) n cap cs) (hn : New B (fp [g] cs)) (hb : Below B W w) (hB : B ≤ w.heap.size) {j : Nat} {c : Cell} (hj : cs[j]? = some c) {o : Obj} {x : Int}
    {w2 : World} {a2 : Option Addr} {cap2 : Nat} {L2 : List Nat} (ow : Ow w2 Ti L2 a2 (c.n + 1) cap2 (ints c.xs ++ [.int .i64 x])) (kp : Keeps c.L (w.alloc o) w2) (st : Step (w.alloc o) c.L L2) :
    w2.cell? ⟨g, j, none⟩ = some (.slice c.a c.n c.cap) ∧ w2.frozen? ⟨g, j, none⟩ = false ∧
    OwG (w2.setCell ⟨g, j, none⟩ (.slice a2 (c.n + 1) cap2)) T Ti [g] (some ⟨g, 0, none⟩) n cap (cs.set j ⟨L2, a2, c.n + 1, cap2, c.xs ++ [x]⟩) ∧ New B (fp [g] (cs.set j ⟨L2, a2, c.n + 1, cap2, c.xs ++ [x]⟩)) ∧ Below B W (w2.setCell ⟨g, j, none⟩ (.slice a2 (c.n + 1) cap2)) := by
  have h2 := h.alloc o
  have hcm : c ∈ cs := List.mem_of_getElem? hj
  have hjl : j < cs.length := (List.getElem?_eq_some_iff.1 hj).1
  have hr := h2.row.keep kp (h.apart c hcm)
  obtain ⟨g', e1, e2, h3, h4, h5⟩ := hr.at' (by have := h.row.le; have := h.len; omega)
  simp at e1; subst e1
  have up := h2.upd hj (c' := ⟨L2, a2, c.n + 1, cap2, c.xs ++ [x]⟩) (by rw [ints_snoc] at ow; exact ow) kp st
  refine ⟨?_, h5 j, up, ?_, ?_⟩
  · rw [h4 j (by have := h.len; omega), List.getElem?_map, hj]; rfl
  · exact Step.new (OwG.updStep hj st) hn (by simp; omega)
  · exact (OwG.updKeeps (c' := ⟨L2, a2, c.n + 1, cap2, c.xs ++ [x]⟩) hj kp).below (hb.alloc hB _) hn (by simp; omega)
end

end Go.Proofs.Ytaffokicnabkiaa

/- Late records: the state of impl.emit in memory. -/
import Derived.Test.YtaffokicnabkiaaStc
import Derived.Test.YtaffokicnabkiaaMrk
namespace Go.Proofs.Ytaffokicnabkiaa
open Go.RowKit
set_option linter.unusedVariables false
set_option linter.unusedSimpArgs false

/-- Blocks that the call has made, all apart. -/
structure Blk (W w : World) (Ls : List (List Nat)) : Prop where
  pw : Ls.Pairwise Apart
  old : ∀ L ∈ Ls, Old w L
  new : ∀ L ∈ Ls, New W.heap.size L
  b : Below W.heap.size W w
section
variable {W w w' : World} {Ls : List (List Nat)}
theorem Blk.ap (h : Blk W w Ls) (i j : Nat) (hi : i < Ls.length) (hj : j < Ls.length) (hne : i ≠ j) : Apart Ls[i] Ls[j] := by
  have hp := List.pairwise_iff_getElem.1 h.pw
  rcases Nat.lt_or_ge i j with h1 | h1
  · exact hp i j hi hj h1
  · exact (hp j i hj hi (by omega)).symm
theorem Blk.sz (h : Blk W w Ls) : W.heap.size ≤ w.heap.size := h.b.size
theorem Blk.upd (h : Blk W w Ls) (i : Nat) (hi : i < Ls.length) (k : Keeps Ls[i] w w') {L' : List Nat} (s : Step w Ls[i] L') (o : Old w' L') : Blk W w' (Ls.set i L') := by
  have hk : ∀ L ∈ Ls, Old w' L := fun L hL x hx => Nat.lt_of_lt_of_le (h.old L hL x hx) k.size
  have hn : New W.heap.size L' := s.new (h.new _ (List.getElem_mem hi)) h.sz
  refine ⟨?_, fun L hL => ?_, fun L hL => ?_, k.below h.b (h.new _ (List.getElem_mem hi)) h.sz⟩
  · rw [List.pairwise_iff_getElem]
    intro a b ha hb hab
    rw [List.length_set] at ha hb
    rw [List.getElem_set, List.getElem_set]
    by_cases e1 : i = a
    · subst e1
      rw [if_pos rfl, if_neg (by omega)]
      exact Apart.step (h.ap i b hi hb (by omega)) s (h.old _ (List.getElem_mem hb))
    · rw [if_neg e1]
      by_cases e2 : i = b
      · subst e2
        rw [if_pos rfl]
        exact (Apart.step (h.ap i a hi ha (by omega)) s (h.old _ (List.getElem_mem ha))).symm
      · rw [if_neg e2]; exact h.ap a b ha hb (by omega)
  · rcases List.mem_or_eq_of_mem_set hL with h1 | h1
    · exact hk L h1
    · subst h1; exact o
  · rcases List.mem_or_eq_of_mem_set hL with h1 | h1
    · exact h.new L h1
    · subst h1; exact hn
theorem Blk.keep (h : Blk W w Ls) {M : List Nat} (k : Keeps M w w') (hM : New W.heap.size M) : Blk W w' Ls :=
  ⟨h.pw, fun L hL x hx => Nat.lt_of_lt_of_le (h.old L hL x hx) k.size, h.new, k.below h.b hM h.sz⟩
theorem Blk.push (h : Blk W w Ls) {L : List Nat} (hn : ∀ i ∈ L, w.heap.size ≤ i) (k : Keeps [] w w') (o : Old w' L) : Blk W w' (Ls ++ [L]) := by
  have h2 := h.keep k (fun _ h => by cases h)
  refine ⟨List.pairwise_append.2 ⟨h.pw, by simp, fun A hA B hB => ?_⟩, fun A hA => ?_, fun A hA => ?_, h2.b⟩
  · simp at hB; subst hB
    intro x hx hy; have := h.old A hA x hx; have := hn x hy; omega
  · rcases List.mem_append.1 hA with h1 | h1
    · exact h2.old A h1
    · simp at h1; subst h1; exact o
  · rcases List.mem_append.1 hA with h1 | h1
    · exact h.new A h1
    · simp at h1; subst h1; exact fun i hi => Nat.le_trans h.sz (hn i hi)
theorem Blk.sub (h : Blk W w Ls) {Ms : List (List Nat)} (hs : Ms.Sublist Ls) : Blk W w Ms := ⟨h.pw.sublist hs, fun L hL => h.old L (hs.subset hL), fun L hL => h.new L (hs.subset hL), h.b⟩
theorem Blk.swap (h : Blk W w Ls) {Ms : List (List Nat)} (hs : Ms.Perm Ls) : Blk W w Ms := ⟨(hs.symm.pairwise_iff (fun h => Apart.symm h)).1 h.pw, fun L hL => h.old L (hs.mem_iff.1 hL), fun L hL => h.new L (hs.mem_iff.1 hL), h.b⟩
end

/-- What impl.emit has in memory: the waiting ones' box wb and row g, the struct eb, the times' box tb, the delays' row db; order, late, marks. -/
structure Emi (W w : World) (wb eb tb db N : Nat) (ta : Option Addr) (tc : Nat) (ts : List Int) (g wn wcap : Nat) (Lo : List Nat) (oa : Option Addr) (on oc : Nat) (Ll : List Nat) (la : Option Addr) (ln lc : Nat) (Lk : List Nat) (ka : Option Addr) (kn kc : Nat) (ms : List Int) (X : List (List Nat)) : Prop where
  blk : Blk W w ([[wb], [eb], [tb], [g], [db], Lo, Ll, Lk] ++ X)
  box : w.heap[wb]? = some (.cells #[.slice (some ⟨g, 0, none⟩) wn wcap] 22 (0, 0))
  tbx : w.heap[tb]? = some (.cells #[.slice ta N tc] 22 (0, 0))
  st : ∃ mo : Int, 0 ≤ mo ∧ mo ≤ 1000 ∧ w.heap[eb]? = some (.cells #[.slice oa on oc, .slice la ln lc, .slice ka kn kc, .slice (some ⟨db, 0, none⟩) N N, .int .i64 mo] 41 (0, 0))
  row : ∃ ws, Ow w 3 [g] (some ⟨g, 0, none⟩) wn wcap (ints ws) ∧ InR N ws
  ord : ∃ os, Ow w 3 Lo oa on oc (ints os)
  lat : ∃ ls, Ow w 3 Ll la ln lc (ints ls)
  mar : Ow w 3 Lk ka kn kc (ints ms)
  del : ∃ ds, Ow w 3 [db] (some ⟨db, 0, none⟩) N N (ints ds)
  tms : RdI w ta N tc ts
  tlo : ∀ ad, ta = some ad → ad.block < W.heap.size
section
variable {W w w' : World} {wb eb tb db N : Nat} {ta : Option Addr} {tc : Nat} {ts : List Int} {g wn wcap : Nat} {Lo : List Nat} {oa : Option Addr} {on oc : Nat} {Ll : List Nat} {la : Option Addr} {ln lc : Nat} {Lk : List Nat} {ka : Option Addr} {kn kc : Nat} {ms : List Int} {X : List (List Nat)} {M : List Nat}
theorem Emi.ap (E : Emi W w wb eb tb db N ta tc ts g wn wcap Lo oa on oc Ll la ln lc Lk ka kn kc ms X) (i j : Nat) (hi : i < 8) (hj : j < 8) (hne : i ≠ j) : Apart ([[wb], [eb], [tb], [g], [db], Lo, Ll, Lk].getD i []) ([[wb], [eb], [tb], [g], [db], Lo, Ll, Lk].getD j []) := by
  have h := E.blk.ap i j (by simp; omega) (by simp; omega) hne
  rw [List.getElem_append_left (by simpa using hi), List.getElem_append_left (by simpa using hj)] at h
  rw [List.getD, List.getD, List.getElem?_eq_getElem (by simpa using hi), List.getElem?_eq_getElem (by simpa using hj)]
  exact h
theorem Emi.newA (E : Emi W w wb eb tb db N ta tc ts g wn wcap Lo oa on oc Ll la ln lc Lk ka kn kc ms X) (i : Nat) (hi : i < 8) : New W.heap.size ([[wb], [eb], [tb], [g], [db], Lo, Ll, Lk].getD i []) := by
  rw [List.getD, List.getElem?_eq_getElem (by simpa using hi)]
  exact E.blk.new _ (List.mem_append.2 (.inl (List.getElem_mem _)))
/-- A step that touches no part of it. -/
theorem Emi.keep (E : Emi W w wb eb tb db N ta tc ts g wn wcap Lo oa on oc Ll la ln lc Lk ka kn kc ms X) (k : Keeps M w w') (hM : New W.heap.size M) (hA : ∀ i, i < 8 → Apart ([[wb], [eb], [tb], [g], [db], Lo, Ll, Lk].getD i []) M) :
    Emi W w' wb eb tb db N ta tc ts g wn wcap Lo oa on oc Ll la ln lc Lk ka kn kc ms X := by
  have n0 : wb ∉ M := fun h => hA 0 (by omega) wb (by simp [List.getD]) h
  have n1 : eb ∉ M := fun h => hA 1 (by omega) eb (by simp [List.getD]) h
  have n2 : tb ∉ M := fun h => hA 2 (by omega) tb (by simp [List.getD]) h
  have lt : ∀ {p : Nat} {o : Obj}, w.heap[p]? = some o → p < w.heap.size := fun h => (Array.getElem?_eq_some_iff.1 h).1
  obtain ⟨mo, m1, m2, m3⟩ := E.st
  obtain ⟨ws, r1, r2⟩ := E.row
  obtain ⟨os, o1⟩ := E.ord
  obtain ⟨ls, l1⟩ := E.lat
  obtain ⟨ds, d1⟩ := E.del
  exact ⟨E.blk.keep k hM, (k.block wb (lt E.box) n0).trans E.box, (k.block tb (lt E.tbx) n2).trans E.tbx, ⟨mo, m1, m2, (k.block eb (lt m3) n1).trans m3⟩, ⟨ws, r1.keep k (hA 3 (by omega)), r2⟩, ⟨os, o1.keep k (hA 5 (by omega))⟩, ⟨ls, l1.keep k (hA 6 (by omega))⟩, E.mar.keep k (hA 7 (by omega)), ⟨ds, d1.keep k (hA 4 (by omega))⟩, E.tms.keep k (fun ad had h => by have := hM _ h; have := E.tlo ad had; omega), E.tlo⟩
theorem Emi.quiet (E : Emi W w wb eb tb db N ta tc ts g wn wcap Lo oa on oc Ll la ln lc Lk ka kn kc ms X) (k : Keeps [] w w') : Emi W w' wb eb tb db N ta tc ts g wn wcap Lo oa on oc Ll la ln lc Lk ka kn kc ms X := E.keep k (fun _ h => by cases h) (fun _ _ _ _ h => by cases h)
theorem Emi.wt (E : Emi W w wb eb tb db N ta tc ts g wn wcap Lo oa on oc Ll la ln lc Lk ka kn kc ms X) : ∃ ws, Wt w g wn wcap N tb ta tc ts ws := by
  obtain ⟨ws, r1, r2⟩ := E.row
  refine ⟨ws, r1, r2, (Array.getElem?_eq_some_iff.1 E.tbx).1, by rw [cell_of_row w tb 0 _ _ _ E.tbx]; rfl, E.tms, fun e => ?_, fun ad had e => ?_⟩
  · have h := E.ap 2 3 (by omega) (by omega) (by omega) tb (by simp [List.getD])
    exact h (by simp [List.getD, e])
  · have h1 := E.newA 3 (by omega) g (by simp [List.getD])
    have h2 := E.tlo ad had; omega
/-- The waiting ones sorted (weakly). -/
theorem Emi.sorted (E : Emi W w wb eb tb db N ta tc ts g wn wcap Lo oa on oc Ll la ln lc Lk ka kn kc ms X) (k : Keeps [g] w w') {ws : List Int} (h : Wt w' g wn wcap N tb ta tc ts ws) :
    Emi W w' wb eb tb db N ta tc ts g wn wcap Lo oa on oc Ll la ln lc Lk ka kn kc ms X := by
  have nA : ∀ i, i < 8 → i ≠ 3 → Apart ([[wb], [eb], [tb], [g], [db], Lo, Ll, Lk].getD i []) [g] := fun i hi hne => E.ap i 3 hi (by omega) hne
  have n0 : wb ∉ [g] := nA 0 (by omega) (by omega) wb (by simp [List.getD])
  have n1 : eb ∉ [g] := nA 1 (by omega) (by omega) eb (by simp [List.getD])
  have n2 : tb ∉ [g] := nA 2 (by omega) (by omega) tb (by simp [List.getD])
  have lt : ∀ {p : Nat} {o : Obj}, w.heap[p]? = some o → p < w.heap.size := fun h => (Array.getElem?_eq_some_iff.1 h).1
  obtain ⟨mo, m1, m2, m3⟩ := E.st
  obtain ⟨os, o1⟩ := E.ord
  obtain ⟨ls, l1⟩ := E.lat
  obtain ⟨ds, d1⟩ := E.del
  exact ⟨E.blk.keep k (E.newA 3 (by omega)), (k.block wb (lt E.box) n0).trans E.box, (k.block tb (lt E.tbx) n2).trans E.tbx, ⟨mo, m1, m2, (k.block eb (lt m3) n1).trans m3⟩, ⟨ws, h.row, h.inr⟩, ⟨os, o1.keep k (nA 5 (by omega) (by omega))⟩, ⟨ls, l1.keep k (nA 6 (by omega) (by omega))⟩, E.mar.keep k (nA 7 (by omega) (by omega)), ⟨ds, d1.keep k (nA 4 (by omega) (by omega))⟩, h.tms, E.tlo⟩
end
end Go.Proofs.Ytaffokicnabkiaa

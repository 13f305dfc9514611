/- Late records: what stores and appends do to impl.emit's state (printed by emi2.py). -/
import Derived.Test.YtaffokicnabkiaaEmi
namespace Go.Proofs.Ytaffokicnabkiaa
open Go.RowKit
set_option linter.unusedVariables false
set_option linter.unusedSimpArgs false

section
variable {W w w' : World} {wb eb tb db N : Nat} {ta : Option Addr} {tc : Nat} {ts : List Int} {g wn wcap : Nat} {Lo : List Nat} {oa : Option Addr} {on oc : Nat} {Ll : List Nat} {la : Option Addr} {ln lc : Nat} {Lk : List Nat} {ka : Option Addr} {kn kc : Nat} {ms : List Int} {X : List (List Nat)} {M : List Nat}
theorem hlt {w : World} {p : Nat} {o : Obj} (h : w.heap[p]? = some o) : p < w.heap.size := (Array.getElem?_eq_some_iff.1 h).1
theorem Step.pre' {w : World} {o : Obj} {L L' : List Nat} (h : Step (w.alloc o) L L') : Step w L L' := fun i hi => by
  rcases h i hi with h1 | h1
  · exact .inl h1
  · right; simp at h1; omega

theorem Emi.pushO (E : Emi W w wb eb tb db N ta tc ts g wn wcap Lo oa on oc Ll la ln lc Lk ka kn kc ms X) {x : Int} {ys : List Int} {w5 : World} {o : Obj} {a5 : Option Addr} {cap5 : Nat} {L5 : List Nat} (ow : Ow w5 3 L5 a5 (on + 1) cap5 (ints (ys ++ [x]))) (kp : Keeps Lo (w.alloc o) w5) (st : Step (w.alloc o) Lo L5) :
    w5.cell? ⟨eb, 0, none⟩ = some (.slice oa on oc) ∧ (∀ j, w5.frozen? ⟨eb, j, none⟩ = false) ∧ Emi W (w5.setCell ⟨eb, 0, none⟩ (.slice a5 (on + 1) cap5)) wb eb tb db N ta tc ts g wn wcap L5 a5 (on + 1) cap5 Ll la ln lc Lk ka kn kc ms X := by
  have k1 : Keeps Lo w w5 := (Keeps.alloc Lo w o).trans kp (Step.refl _ _)
  have s1 : Step w Lo L5 := Step.pre' st
  obtain ⟨mo, m1, m2, m3⟩ := E.st
  obtain ⟨ws, r1, r2⟩ := E.row
  obtain ⟨os, o1⟩ := E.ord
  obtain ⟨ls, l1⟩ := E.lat
  obtain ⟨ds, d1⟩ := E.del
  have n0 : wb ∉ Lo := E.ap 0 5 (by omega) (by omega) (by omega) wb (by simp [List.getD])
  have n1 : eb ∉ Lo := E.ap 1 5 (by omega) (by omega) (by omega) eb (by simp [List.getD])
  have n2 : tb ∉ Lo := E.ap 2 5 (by omega) (by omega) (by omega) tb (by simp [List.getD])
  have q0 : wb ∉ [eb] := E.ap 0 1 (by omega) (by omega) (by omega) wb (by simp [List.getD])
  have q2 : tb ∉ [eb] := E.ap 2 1 (by omega) (by omega) (by omega) tb (by simp [List.getD])
  have h5 := (k1.block eb (hlt m3) n1).trans m3
  have k2 := Keeps.setCell w5 eb 0 (.slice a5 (on + 1) cap5)
  have hL1 : Apart L5 [eb] := Apart.step (E.ap 5 1 (by omega) (by omega) (by omega)) s1 (fun i hi => by simp at hi; subst hi; exact hlt m3)
  have hf := heap_setCell_same w5 eb 0 _ _ (.slice a5 (on + 1) cap5) h5
  have e1 := (k1.block wb (hlt E.box) n0).trans E.box
  have e2 := (k1.block tb (hlt E.tbx) n2).trans E.tbx
  have b1 := E.blk.upd 5 (by simp; try omega) k1 s1 ow.old
  have b2 := b1.keep k2 (E.newA 1 (by omega))
  refine ⟨by rw [cell_of_row w5 eb 0 _ _ _ h5]; rfl, fun j => frozen_of_row w5 eb j _ _ h5, b2, (k2.block wb (hlt e1) q0).trans e1, (k2.block tb (hlt e2) q2).trans e2, ⟨mo, m1, m2, hf⟩, ⟨ws, (r1.keep k1 (E.ap 3 5 (by omega) (by omega) (by omega))).keep k2 (E.ap 3 1 (by omega) (by omega) (by omega)), r2⟩, ⟨_, ow.keep k2 hL1⟩, ⟨ls, (l1.keep k1 (E.ap 6 5 (by omega) (by omega) (by omega))).keep k2 (E.ap 6 1 (by omega) (by omega) (by omega))⟩, (E.mar.keep k1 (E.ap 7 5 (by omega) (by omega) (by omega))).keep k2 (E.ap 7 1 (by omega) (by omega) (by omega)), ⟨ds, (d1.keep k1 (E.ap 4 5 (by omega) (by omega) (by omega))).keep k2 (E.ap 4 1 (by omega) (by omega) (by omega))⟩, (E.tms.keep k1 (fun ad had h => by have := E.newA 5 (by omega) _ h; have := E.tlo ad had; omega)).keep k2 (fun ad had h => by have := E.newA 1 (by omega) _ h; have := E.tlo ad had; omega), E.tlo⟩

theorem Emi.pushL (E : Emi W w wb eb tb db N ta tc ts g wn wcap Lo oa on oc Ll la ln lc Lk ka kn kc ms X) {x : Int} {ys : List Int} {w5 : World} {o : Obj} {a5 : Option Addr} {cap5 : Nat} {L5 : List Nat} (ow : Ow w5 3 L5 a5 (ln + 1) cap5 (ints (ys ++ [x]))) (kp : Keeps Ll (w.alloc o) w5) (st : Step (w.alloc o) Ll L5) :
    w5.cell? ⟨eb, 1, none⟩ = some (.slice la ln lc) ∧ (∀ j, w5.frozen? ⟨eb, j, none⟩ = false) ∧ Emi W (w5.setCell ⟨eb, 1, none⟩ (.slice a5 (ln + 1) cap5)) wb eb tb db N ta tc ts g wn wcap Lo oa on oc L5 a5 (ln + 1) cap5 Lk ka kn kc ms X := by
  have k1 : Keeps Ll w w5 := (Keeps.alloc Ll w o).trans kp (Step.refl _ _)
  have s1 : Step w Ll L5 := Step.pre' st
  obtain ⟨mo, m1, m2, m3⟩ := E.st
  obtain ⟨ws, r1, r2⟩ := E.row
  obtain ⟨os, o1⟩ := E.ord
  obtain ⟨ls, l1⟩ := E.lat
  obtain ⟨ds, d1⟩ := E.del
  have n0 : wb ∉ Ll := E.ap 0 6 (by omega) (by omega) (by omega) wb (by simp [List.getD])
  have n1 : eb ∉ Ll := E.ap 1 6 (by omega) (by omega) (by omega) eb (by simp [List.getD])
  have n2 : tb ∉ Ll := E.ap 2 6 (by omega) (by omega) (by omega) tb (by simp [List.getD])
  have q0 : wb ∉ [eb] := E.ap 0 1 (by omega) (by omega) (by omega) wb (by simp [List.getD])
  have q2 : tb ∉ [eb] := E.ap 2 1 (by omega) (by omega) (by omega) tb (by simp [List.getD])
  have h5 := (k1.block eb (hlt m3) n1).trans m3
  have k2 := Keeps.setCell w5 eb 1 (.slice a5 (ln + 1) cap5)
  have hL1 : Apart L5 [eb] := Apart.step (E.ap 6 1 (by omega) (by omega) (by omega)) s1 (fun i hi => by simp at hi; subst hi; exact hlt m3)
  have hf := heap_setCell_same w5 eb 1 _ _ (.slice a5 (ln + 1) cap5) h5
  have e1 := (k1.block wb (hlt E.box) n0).trans E.box
  have e2 := (k1.block tb (hlt E.tbx) n2).trans E.tbx
  have b1 := E.blk.upd 6 (by simp; try omega) k1 s1 ow.old
  have b2 := b1.keep k2 (E.newA 1 (by omega))
  refine ⟨by rw [cell_of_row w5 eb 1 _ _ _ h5]; rfl, fun j => frozen_of_row w5 eb j _ _ h5, b2, (k2.block wb (hlt e1) q0).trans e1, (k2.block tb (hlt e2) q2).trans e2, ⟨mo, m1, m2, hf⟩, ⟨ws, (r1.keep k1 (E.ap 3 6 (by omega) (by omega) (by omega))).keep k2 (E.ap 3 1 (by omega) (by omega) (by omega)), r2⟩, ⟨os, (o1.keep k1 (E.ap 5 6 (by omega) (by omega) (by omega))).keep k2 (E.ap 5 1 (by omega) (by omega) (by omega))⟩, ⟨_, ow.keep k2 hL1⟩, (E.mar.keep k1 (E.ap 7 6 (by omega) (by omega) (by omega))).keep k2 (E.ap 7 1 (by omega) (by omega) (by omega)), ⟨ds, (d1.keep k1 (E.ap 4 6 (by omega) (by omega) (by omega))).keep k2 (E.ap 4 1 (by omega) (by omega) (by omega))⟩, (E.tms.keep k1 (fun ad had h => by have := E.newA 6 (by omega) _ h; have := E.tlo ad had; omega)).keep k2 (fun ad had h => by have := E.newA 1 (by omega) _ h; have := E.tlo ad had; omega), E.tlo⟩

theorem Emi.pushK (E : Emi W w wb eb tb db N ta tc ts g wn wcap Lo oa on oc Ll la ln lc Lk ka kn kc ms X) {x : Int} {w5 : World} {o : Obj} {a5 : Option Addr} {cap5 : Nat} {L5 : List Nat} (ow : Ow w5 3 L5 a5 (kn + 1) cap5 (ints (ms ++ [x]))) (kp : Keeps Lk (w.alloc o) w5) (st : Step (w.alloc o) Lk L5) :
    w5.cell? ⟨eb, 2, none⟩ = some (.slice ka kn kc) ∧ (∀ j, w5.frozen? ⟨eb, j, none⟩ = false) ∧ Emi W (w5.setCell ⟨eb, 2, none⟩ (.slice a5 (kn + 1) cap5)) wb eb tb db N ta tc ts g wn wcap Lo oa on oc Ll la ln lc L5 a5 (kn + 1) cap5 (ms ++ [x]) X := by
  have k1 : Keeps Lk w w5 := (Keeps.alloc Lk w o).trans kp (Step.refl _ _)
  have s1 : Step w Lk L5 := Step.pre' st
  obtain ⟨mo, m1, m2, m3⟩ := E.st
  obtain ⟨ws, r1, r2⟩ := E.row
  obtain ⟨os, o1⟩ := E.ord
  obtain ⟨ls, l1⟩ := E.lat
  obtain ⟨ds, d1⟩ := E.del
  have n0 : wb ∉ Lk := E.ap 0 7 (by omega) (by omega) (by omega) wb (by simp [List.getD])
  have n1 : eb ∉ Lk := E.ap 1 7 (by omega) (by omega) (by omega) eb (by simp [List.getD])
  have n2 : tb ∉ Lk := E.ap 2 7 (by omega) (by omega) (by omega) tb (by simp [List.getD])
  have q0 : wb ∉ [eb] := E.ap 0 1 (by omega) (by omega) (by omega) wb (by simp [List.getD])
  have q2 : tb ∉ [eb] := E.ap 2 1 (by omega) (by omega) (by omega) tb (by simp [List.getD])
  have h5 := (k1.block eb (hlt m3) n1).trans m3
  have k2 := Keeps.setCell w5 eb 2 (.slice a5 (kn + 1) cap5)
  have hL1 : Apart L5 [eb] := Apart.step (E.ap 7 1 (by omega) (by omega) (by omega)) s1 (fun i hi => by simp at hi; subst hi; exact hlt m3)
  have hf := heap_setCell_same w5 eb 2 _ _ (.slice a5 (kn + 1) cap5) h5
  have e1 := (k1.block wb (hlt E.box) n0).trans E.box
  have e2 := (k1.block tb (hlt E.tbx) n2).trans E.tbx
  have b1 := E.blk.upd 7 (by simp; try omega) k1 s1 ow.old
  have b2 := b1.keep k2 (E.newA 1 (by omega))
  refine ⟨by rw [cell_of_row w5 eb 2 _ _ _ h5]; rfl, fun j => frozen_of_row w5 eb j _ _ h5, b2, (k2.block wb (hlt e1) q0).trans e1, (k2.block tb (hlt e2) q2).trans e2, ⟨mo, m1, m2, hf⟩, ⟨ws, (r1.keep k1 (E.ap 3 7 (by omega) (by omega) (by omega))).keep k2 (E.ap 3 1 (by omega) (by omega) (by omega)), r2⟩, ⟨os, (o1.keep k1 (E.ap 5 7 (by omega) (by omega) (by omega))).keep k2 (E.ap 5 1 (by omega) (by omega) (by omega))⟩, ⟨ls, (l1.keep k1 (E.ap 6 7 (by omega) (by omega) (by omega))).keep k2 (E.ap 6 1 (by omega) (by omega) (by omega))⟩, ow.keep k2 hL1, ⟨ds, (d1.keep k1 (E.ap 4 7 (by omega) (by omega) (by omega))).keep k2 (E.ap 4 1 (by omega) (by omega) (by omega))⟩, (E.tms.keep k1 (fun ad had h => by have := E.newA 7 (by omega) _ h; have := E.tlo ad had; omega)).keep k2 (fun ad had h => by have := E.newA 1 (by omega) _ h; have := E.tlo ad had; omega), E.tlo⟩

theorem Emi.setD (E : Emi W w wb eb tb db N ta tc ts g wn wcap Lo oa on oc Ll la ln lc Lk ka kn kc ms X) (i : Nat) (v : Int) : Emi W (w.setCell ⟨db, i, none⟩ (.int .i64 v)) wb eb tb db N ta tc ts g wn wcap Lo oa on oc Ll la ln lc Lk ka kn kc ms X := by
  have k2 := Keeps.setCell w db i (.int .i64 v)
  obtain ⟨mo, m1, m2, m3⟩ := E.st
  obtain ⟨ws, r1, r2⟩ := E.row
  obtain ⟨os, o1⟩ := E.ord
  obtain ⟨ls, l1⟩ := E.lat
  obtain ⟨ds, d1⟩ := E.del
  have q0 : wb ∉ [db] := E.ap 0 4 (by omega) (by omega) (by omega) wb (by simp [List.getD])
  have q1 : eb ∉ [db] := E.ap 1 4 (by omega) (by omega) (by omega) eb (by simp [List.getD])
  have q2 : tb ∉ [db] := E.ap 2 4 (by omega) (by omega) (by omega) tb (by simp [List.getD])
  have d2 := d1.set i (.int .i64 v)
  rw [ints_set] at d2
  exact ⟨E.blk.keep k2 (E.newA 4 (by omega)), (k2.block wb (hlt E.box) q0).trans E.box, (k2.block tb (hlt E.tbx) q2).trans E.tbx, ⟨mo, m1, m2, (k2.block eb (hlt m3) q1).trans m3⟩, ⟨ws, r1.keep k2 (E.ap 3 4 (by omega) (by omega) (by omega)), r2⟩, ⟨os, o1.keep k2 (E.ap 5 4 (by omega) (by omega) (by omega))⟩, ⟨ls, l1.keep k2 (E.ap 6 4 (by omega) (by omega) (by omega))⟩, E.mar.keep k2 (E.ap 7 4 (by omega) (by omega) (by omega)), ⟨_, d2⟩, E.tms.keep k2 (fun ad had h => by have := E.newA 4 (by omega) _ h; have := E.tlo ad had; omega), E.tlo⟩
theorem Emi.setM (E : Emi W w wb eb tb db N ta tc ts g wn wcap Lo oa on oc Ll la ln lc Lk ka kn kc ms X) (v : Int) (hv : 0 ≤ v ∧ v ≤ 1000) : Emi W (w.setCell ⟨eb, 4, none⟩ (.int .i64 v)) wb eb tb db N ta tc ts g wn wcap Lo oa on oc Ll la ln lc Lk ka kn kc ms X := by
  have k2 := Keeps.setCell w eb 4 (.int .i64 v)
  obtain ⟨mo, m1, m2, m3⟩ := E.st
  obtain ⟨ws, r1, r2⟩ := E.row
  obtain ⟨os, o1⟩ := E.ord
  obtain ⟨ls, l1⟩ := E.lat
  obtain ⟨ds, d1⟩ := E.del
  have q0 : wb ∉ [eb] := E.ap 0 1 (by omega) (by omega) (by omega) wb (by simp [List.getD])
  have q2 : tb ∉ [eb] := E.ap 2 1 (by omega) (by omega) (by omega) tb (by simp [List.getD])
  have hf := heap_setCell_same w eb 4 _ _ (.int .i64 v) m3
  exact ⟨E.blk.keep k2 (E.newA 1 (by omega)), (k2.block wb (hlt E.box) q0).trans E.box, (k2.block tb (hlt E.tbx) q2).trans E.tbx, ⟨v, hv.1, hv.2, hf⟩, ⟨ws, r1.keep k2 (E.ap 3 1 (by omega) (by omega) (by omega)), r2⟩, ⟨os, o1.keep k2 (E.ap 5 1 (by omega) (by omega) (by omega))⟩, ⟨ls, l1.keep k2 (E.ap 6 1 (by omega) (by omega) (by omega))⟩, E.mar.keep k2 (E.ap 7 1 (by omega) (by omega) (by omega)), ⟨ds, d1.keep k2 (E.ap 4 1 (by omega) (by omega) (by omega))⟩, E.tms.keep k2 (fun ad had h => by have := E.newA 1 (by omega) _ h; have := E.tlo ad had; omega), E.tlo⟩
/-- A record more waits. -/
theorem Emi.pushW (E : Emi W w wb eb tb db N ta tc ts g wn wcap Lo oa on oc Ll la ln lc Lk ka kn kc ms X) {x : Int} {ys : List Int} {w5 : World} {o : Obj} {a5 : Option Addr} {cap5 : Nat} {L5 : List Nat} (hy : InR N (ys ++ [x])) (ow : Ow w5 3 L5 a5 (wn + 1) cap5 (ints (ys ++ [x]))) (kp : Keeps [g] (w.alloc o) w5) (st : Step (w.alloc o) [g] L5) :
    w5.cell? ⟨wb, 0, none⟩ = some (.slice (some ⟨g, 0, none⟩) wn wcap) ∧ (∀ j, w5.frozen? ⟨wb, j, none⟩ = false) ∧ ∃ g', Emi W (w5.setCell ⟨wb, 0, none⟩ (.slice a5 (wn + 1) cap5)) wb eb tb db N ta tc ts g' (wn + 1) cap5 Lo oa on oc Ll la ln lc Lk ka kn kc ms X := by
  have k1 : Keeps [g] w w5 := (Keeps.alloc [g] w o).trans kp (Step.refl _ _)
  obtain ⟨g', rfl, rfl, hg5, _, _⟩ := ow.int (by have := ow.le; omega)
  have s1 : Step w [g] [g'] := Step.pre' st
  obtain ⟨mo, m1, m2, m3⟩ := E.st
  obtain ⟨os, o1⟩ := E.ord
  obtain ⟨ls, l1⟩ := E.lat
  obtain ⟨ds, d1⟩ := E.del
  have n0 : wb ∉ [g] := E.ap 0 3 (by omega) (by omega) (by omega) wb (by simp [List.getD])
  have n1 : eb ∉ [g] := E.ap 1 3 (by omega) (by omega) (by omega) eb (by simp [List.getD])
  have n2 : tb ∉ [g] := E.ap 2 3 (by omega) (by omega) (by omega) tb (by simp [List.getD])
  have q1 : eb ∉ [wb] := E.ap 1 0 (by omega) (by omega) (by omega) eb (by simp [List.getD])
  have q2 : tb ∉ [wb] := E.ap 2 0 (by omega) (by omega) (by omega) tb (by simp [List.getD])
  have h5 := (k1.block wb (hlt E.box) n0).trans E.box
  have k2 := Keeps.setCell w5 wb 0 (.slice (some ⟨g', 0, none⟩) (wn + 1) cap5)
  have hL1 : Apart [g'] [wb] := Apart.step (E.ap 3 0 (by omega) (by omega) (by omega)) s1 (fun i hi => by simp at hi; subst hi; exact hlt E.box)
  have hf := heap_setCell_same w5 wb 0 _ _ (.slice (some ⟨g', 0, none⟩) (wn + 1) cap5) h5
  have e1 := (k1.block eb (hlt m3) n1).trans m3
  have e2 := (k1.block tb (hlt E.tbx) n2).trans E.tbx
  have b1 := E.blk.upd 3 (by simp) k1 s1 ow.old
  have b2 := b1.keep k2 (E.newA 0 (by omega))
  exact ⟨by rw [cell_of_row w5 wb 0 _ _ _ h5]; rfl, fun j => frozen_of_row w5 wb j _ _ h5, g', b2, hf, (k2.block tb (hlt e2) q2).trans e2, ⟨mo, m1, m2, (k2.block eb (hlt e1) q1).trans e1⟩, ⟨_, ow.keep k2 hL1, hy⟩, ⟨os, (o1.keep k1 (E.ap 5 3 (by omega) (by omega) (by omega))).keep k2 (E.ap 5 0 (by omega) (by omega) (by omega))⟩, ⟨ls, (l1.keep k1 (E.ap 6 3 (by omega) (by omega) (by omega))).keep k2 (E.ap 6 0 (by omega) (by omega) (by omega))⟩, (E.mar.keep k1 (E.ap 7 3 (by omega) (by omega) (by omega))).keep k2 (E.ap 7 0 (by omega) (by omega) (by omega)), ⟨ds, (d1.keep k1 (E.ap 4 3 (by omega) (by omega) (by omega))).keep k2 (E.ap 4 0 (by omega) (by omega) (by omega))⟩, (E.tms.keep k1 (fun ad had h => by have := E.newA 3 (by omega) _ h; have := E.tlo ad had; omega)).keep k2 (fun ad had h => by have := E.newA 0 (by omega) _ h; have := E.tlo ad had; omega), E.tlo⟩
/-- A row of one's own beside it. -/
theorem Emi.withRest (E : Emi W w wb eb tb db N ta tc ts g wn wcap Lo oa on oc Ll la ln lc Lk ka kn kc ms X) {r : Nat} (hr : w.heap.size ≤ r) (k : Keeps [] w w') (o : r < w'.heap.size) : Emi W w' wb eb tb db N ta tc ts g wn wcap Lo oa on oc Ll la ln lc Lk ka kn kc ms (X ++ [[r]]) := by
  have E2 := E.quiet k
  have b := E.blk.push (L := [r]) (fun i hi => by simp at hi; omega) k (fun i hi => by simp at hi; omega)
  rw [List.append_assoc] at b
  exact ⟨b, E2.box, E2.tbx, E2.st, E2.row, E2.ord, E2.lat, E2.mar, E2.del, E2.tms, E2.tlo⟩
theorem Emi.rest {r : Nat} (E : Emi W w wb eb tb db N ta tc ts g wn wcap Lo oa on oc Ll la ln lc Lk ka kn kc ms (X ++ [[r]])) {r' : Nat} (k : Keeps [r] w w') (s : Step w [r] [r']) (o : r' < w'.heap.size) : Emi W w' wb eb tb db N ta tc ts g wn wcap Lo oa on oc Ll la ln lc Lk ka kn kc ms (X ++ [[r']]) := by
  have hlen : ([[wb], [eb], [tb], [g], [db], Lo, Ll, Lk] ++ (X ++ [[r]])).length = 8 + X.length + 1 := by simp; omega
  have hat : ([[wb], [eb], [tb], [g], [db], Lo, Ll, Lk] ++ (X ++ [[r]]))[8 + X.length]'(by omega) = [r] := by
    rw [List.getElem_append_right (by simp)]
    simp
  have b := E.blk.upd (8 + X.length) (by omega) (by rw [hat]; exact k) (by rw [hat]; exact s) (L' := [r']) (fun i hi => by simp at hi; omega)
  have e : ([[wb], [eb], [tb], [g], [db], Lo, Ll, Lk] ++ (X ++ [[r]])).set (8 + X.length) [r'] = [[wb], [eb], [tb], [g], [db], Lo, Ll, Lk] ++ (X ++ [[r']]) := by
    rw [List.set_append_right _ _ (by simp), List.set_append_right _ _ (by simp)]
    simp
  rw [e] at b
  have hA : ∀ i, i < 8 → Apart ([[wb], [eb], [tb], [g], [db], Lo, Ll, Lk].getD i []) [r] := fun i hi => by
    have h := E.blk.ap i (8 + X.length) (by omega) (by omega) (by omega)
    rw [hat, List.getElem_append_left (by simpa using hi)] at h
    rw [List.getD, List.getElem?_eq_getElem (by simpa using hi)]
    exact h
  have E2 := E.keep k (E.blk.new _ (by simp)) hA
  exact ⟨b, E2.box, E2.tbx, E2.st, E2.row, E2.ord, E2.lat, E2.mar, E2.del, E2.tms, E2.tlo⟩
/-- What stays waits on. -/
theorem Emi.swapW {r : Nat} (E : Emi W w wb eb tb db N ta tc ts g wn wcap Lo oa on oc Ll la ln lc Lk ka kn kc ms (X ++ [[r]])) {rn rc : Nat} {rs : List Int} (o : Ow w 3 [r] (some ⟨r, 0, none⟩) rn rc (ints rs)) (hr : InR N rs) : Emi W (w.setCell ⟨wb, 0, none⟩ (.slice (some ⟨r, 0, none⟩) rn rc)) wb eb tb db N ta tc ts r rn rc Lo oa on oc Ll la ln lc Lk ka kn kc ms X := by
  have k2 := Keeps.setCell w wb 0 (.slice (some ⟨r, 0, none⟩) rn rc)
  obtain ⟨mo, m1, m2, m3⟩ := E.st
  obtain ⟨os, o1⟩ := E.ord
  obtain ⟨ls, l1⟩ := E.lat
  obtain ⟨ds, d1⟩ := E.del
  have q1 : eb ∉ [wb] := E.ap 1 0 (by omega) (by omega) (by omega) eb (by simp [List.getD])
  have q2 : tb ∉ [wb] := E.ap 2 0 (by omega) (by omega) (by omega) tb (by simp [List.getD])
  have hf := heap_setCell_same w wb 0 _ _ (.slice (some ⟨r, 0, none⟩) rn rc) E.box
  have hrw : Apart [r] [wb] := by
    have hp := List.pairwise_append.1 E.blk.pw
    exact (hp.2.2 [wb] (by simp) [r] (by simp)).symm
  have b1 : Blk W w ([[wb], [eb], [tb], [r], [db], Lo, Ll, Lk] ++ X) := by
    have s1 : ([[wb], [eb], [tb]] ++ ([[db], Lo, Ll, Lk] ++ (X ++ [[r]]))).Sublist ([[wb], [eb], [tb], [g], [db], Lo, Ll, Lk] ++ (X ++ [[r]])) := by
      show ([[wb], [eb], [tb]] ++ ([[db], Lo, Ll, Lk] ++ (X ++ [[r]]))).Sublist ([[wb], [eb], [tb]] ++ ([g] :: ([[db], Lo, Ll, Lk] ++ (X ++ [[r]]))))
      exact (List.Sublist.refl _).append (List.sublist_cons_self _ _)
    refine (E.blk.sub s1).swap ?_
    show ([[wb], [eb], [tb]] ++ ([r] :: ([[db], Lo, Ll, Lk] ++ X))).Perm _
    refine List.Perm.append_left _ ?_
    have h := List.perm_append_comm (l₁ := [[r]]) (l₂ := [[db], Lo, Ll, Lk] ++ X)
    rw [List.append_assoc] at h
    exact h
  exact ⟨b1.keep k2 (E.newA 0 (by omega)), hf, (k2.block tb (hlt E.tbx) q2).trans E.tbx, ⟨mo, m1, m2, (k2.block eb (hlt m3) q1).trans m3⟩, ⟨rs, o.keep k2 hrw, hr⟩, ⟨os, o1.keep k2 (E.ap 5 0 (by omega) (by omega) (by omega))⟩, ⟨ls, l1.keep k2 (E.ap 6 0 (by omega) (by omega) (by omega))⟩, E.mar.keep k2 (E.ap 7 0 (by omega) (by omega) (by omega)), ⟨ds, d1.keep k2 (E.ap 4 0 (by omega) (by omega) (by omega))⟩, E.tms.keep k2 (fun ad had h => by have := E.newA 0 (by omega) _ h; have := E.tlo ad had; omega), E.tlo⟩
end
end Go.Proofs.Ytaffokicnabkiaa

/- Late records: impl.emit's closure that lets waiting records go (printed by emo.py). -/
import Derived.Test.YtaffokicnabkiaaEmj
namespace Go.Proofs.Ytaffokicnabkiaa
open Go.RowKit
set_option linter.unusedVariables false
set_option linter.unusedSimpArgs false

theorem Emi.off {W w : World} {wb eb tb db N : Nat} {ta : Option Addr} {tc : Nat} {ts : List Int} {g wn wcap : Nat} {Lo : List Nat} {oa : Option Addr} {on oc : Nat} {Ll : List Nat} {la : Option Addr} {ln lc : Nat} {Lk : List Nat} {ka : Option Addr} {kn kc : Nat} {ms : List Int} {X : List (List Nat)} (E : Emi W w wb eb tb db N ta tc ts g wn wcap Lo oa on oc Ll la ln lc Lk ka kn kc ms X) {mk : Nat} (hX : [mk] ∈ X) (i : Nat) (hi : i < 8) : mk ∉ [[wb], [eb], [tb], [g], [db], Lo, Ll, Lk].getD i [] := fun h => by
  have hp := (List.pairwise_append.1 E.blk.pw).2.2
  rw [List.getD, List.getElem?_eq_getElem (by simpa using hi)] at h
  exact hp _ (List.getElem_mem _) _ hX mk h (by simp)
def XK (w w' : World) (X : List (List Nat)) : Prop := ∀ L ∈ X, ∀ j ∈ L, w'.heap[j]? = w.heap[j]?
theorem XK.refl (w : World) (X : List (List Nat)) : XK w w X := fun _ _ _ _ => rfl
theorem XK.step {w w1 w2 : World} {X : List (List Nat)} {M : List Nat} (h : XK w w1 X) (k : Keeps M w1 w2) (ho : ∀ L ∈ X, Old w1 L) (hd : ∀ L ∈ X, ∀ j ∈ L, j ∉ M) : XK w w2 X := fun L hL j hj => (k.block j (ho L hL j hj) (hd L hL j hj)).trans (h L hL j hj)
theorem Emi.offL {W w : World} {wb eb tb db N : Nat} {ta : Option Addr} {tc : Nat} {ts : List Int} {g wn wcap : Nat} {Lo : List Nat} {oa : Option Addr} {on oc : Nat} {Ll : List Nat} {la : Option Addr} {ln lc : Nat} {Lk : List Nat} {ka : Option Addr} {kn kc : Nat} {ms : List Int} {X : List (List Nat)} (E : Emi W w wb eb tb db N ta tc ts g wn wcap Lo oa on oc Ll la ln lc Lk ka kn kc ms X) {L : List Nat} (hX : L ∈ X) {j : Nat} (hj : j ∈ L) (i : Nat) (hi : i < 8) : j ∉ [[wb], [eb], [tb], [g], [db], Lo, Ll, Lk].getD i [] := fun h => by
  have hp := (List.pairwise_append.1 E.blk.pw).2.2
  rw [List.getD, List.getElem?_eq_getElem (by simpa using hi)] at h
  exact hp _ (List.getElem_mem _) _ hX j h hj
theorem Emi.oldX {W w : World} {wb eb tb db N : Nat} {ta : Option Addr} {tc : Nat} {ts : List Int} {g wn wcap : Nat} {Lo : List Nat} {oa : Option Addr} {on oc : Nat} {Ll : List Nat} {la : Option Addr} {ln lc : Nat} {Lk : List Nat} {ka : Option Addr} {kn kc : Nat} {ms : List Int} {X : List (List Nat)} (E : Emi W w wb eb tb db N ta tc ts g wn wcap Lo oa on oc Ll la ln lc Lk ka kn kc ms X) {L : List Nat} (hX : L ∈ X) : Old w L := E.blk.old L (List.mem_append.2 (.inr hX))

theorem c_is2 (x m : Int) (mk : Nat) (w : World) (hc : w.cell? ⟨mk, 0, none⟩ = some (.int .i64 m)) : Calls Try.prog 56 #[.int .i64 x, .pointer (some ⟨mk, 0, none⟩)] w fun e w' => e = .returned (.bool (decide (x ≤ m))) ∧ w = w' := by
  go_enter Try.func56, Try.ntmps56
  go_wp2
  go_ret
  exact ⟨rfl, rfl⟩
theorem c_is3 (x : Int) (w : World) : Calls Try.prog 57 #[.int .i64 x] w fun e w' => e = .returned (.bool true) ∧ w = w' := by
  go_enter Try.func57, Try.ntmps57
  go_wp2
  go_ret
  exact ⟨rfl, rfl⟩


set_option maxRecDepth 100000 in
set_option maxHeartbeats 4000000 in
theorem c_out2 {W w : World} {wb eb tb db N : Nat} {ta : Option Addr} {tc : Nat} {ts : List Int} {g wn wcap : Nat} {Lo : List Nat} {oa : Option Addr} {on oc : Nat} {Ll : List Nat} {la : Option Addr} {ln lc : Nat} {Lk : List Nat} {ka : Option Addr} {kn kc : Nat} {ms : List Int} {X : List (List Nat)} (mk : Nat) (mv : Int) (hmk : w.cell? ⟨mk, 0, none⟩ = some (.int .i64 mv)) (E : Emi W w wb eb tb db N ta tc ts g wn wcap Lo oa on oc Ll la ln lc Lk ka kn kc ms (X ++ [[mk]])) (hN : N ≤ 100) (hc : on + wn ≤ 100) (at' : Int) (hat : -1000 ≤ at' ∧ at' ≤ 1000) :
    Calls Try.prog 52 #[.int .i64 at', .func (.func 56) #[] #[.pointer (some ⟨mk, 0, none⟩)], .pointer (some ⟨wb, 0, none⟩), .pointer (some ⟨tb, 0, none⟩), .pointer (some ⟨eb, 0, none⟩)] w fun e w' => e = .returned (.tuple #[]) ∧ ∃ g' wn' wcap' Lo' oa' on' oc', Emi W w' wb eb tb db N ta tc ts g' wn' wcap' Lo' oa' on' oc' Ll la ln lc Lk ka kn kc ms (X ++ [[mk]]) ∧ on' + wn' = on + wn ∧ XK w w' (X ++ [[mk]]) := by
  have hmf : ∀ (fn : Fn) (first cp : Array Value) (w : World), (Instr.makeFunc fn first cp).run Try.prog w = .ok (.func fn first cp) w := fun _ _ _ _ => rfl
  obtain ⟨ws, WT⟩ := E.wt
  have b0 : w.cell? ⟨wb, 0, none⟩ = some (.slice (some ⟨g, 0, none⟩) wn wcap) := by rw [cell_of_row w wb 0 _ _ _ E.box]; rfl
  go_enter Try.func52, Try.ntmps52
  go_upto_region 1 with (go_at_call 53; refine (c_Stable g wn wcap N tb ta tc ts ws _ WT (by omega)).mono ?_; rintro e w2 ⟨rfl, ⟨ws2, WT2⟩, k2⟩)
  have E2 := E.sorted k2 WT2
  have hX : [mk] ∈ X ++ [[mk]] := by simp
  have m2 := (World.cell?_of_block (a := ⟨mk, 0, none⟩) (k2.block mk (E.blk.old [mk] (by simp) mk (by simp)) (E.off hX 3 (by omega)))).trans hmk
  have x2 := (XK.refl w (X ++ [[mk]])).step k2 (fun L hL => E.oldX hL) (fun L hL j hj => E.offL hL hj 3 (by omega))
  clear E WT WT2 b0
  go_upto_region 2 with fail
  obtain ⟨r, hr⟩ : ∃ r, r = w2.heap.size := ⟨_, rfl⟩
  obtain ⟨w3, hw3⟩ : ∃ w3, w3 = w2.alloc (.cells #[] 3) := ⟨_, rfl⟩
  have k3 : Keeps [] w2 w3 := by rw [hw3]; exact Keeps.alloc [] _ _
  have hs3 : r < w3.heap.size := by rw [hw3, hr]; simp
  have E3 := E2.withRest (r := r) (by omega) k3 hs3
  have R3 : Ow w3 3 [r] (some ⟨r, 0, none⟩) 0 0 (ints []) := by rw [hw3, hr]; exact Ow.new' _ _ #[] 0 _ rfl rfl (by unfold maxLen; omega)
  have m3 := (World.cell?_of_block (a := ⟨mk, 0, none⟩) (k3.block mk (E2.blk.old [mk] (by simp) mk (by simp)) (fun h => by cases h))).trans m2
  have x3 := x2.step k3 (fun L hL => E2.oldX hL) (fun _ _ _ _ h => by cases h)
  have b3 : w3.cell? ⟨wb, 0, none⟩ = some (.slice (some ⟨g, 0, none⟩) wn wcap) := by rw [cell_of_row w3 wb 0 _ _ _ E3.box]; rfl
  rw [← hw3, ← hr]
  clear hw3 hr k3 E2 hs3 k2
  go_wp2_with fail
  go_loopw [7, 16] (fun o i wr => ∃ k r rn rc : Nat, ∃ rs Lo oa on' oc, k ≤ wn ∧ o = .slice (some ⟨r, 0, none⟩) rn rc ∧ i = .int .i64 (k : Int) ∧ Emi W wr wb eb tb db N ta tc ts g wn wcap Lo oa on' oc Ll la ln lc Lk ka kn kc ms ((X ++ [[mk]]) ++ [[r]]) ∧ Ow wr 3 [r] (some ⟨r, 0, none⟩) rn rc (ints rs) ∧ InR N rs ∧ on' + rn = on + k ∧ XK w wr (X ++ [[mk]]) ∧ wr.cell? ⟨mk, 0, none⟩ = some (.int .i64 mv)) (fun _ i _ => wn - (intOf i).toNat)
  case atStart => exact ⟨0, r, 0, 0, [], Lo, oa, on, oc, by omega, rfl, rfl, E3, R3, (fun _ h => by cases h), by omega, x3, m3⟩
  case round =>
    clear E3 R3 b3 x2 x3 m2 m3
    obtain ⟨k, r, rn, rc, rs, Lo, oa, on', oc, hk, rfl, rfl, E, R, hR, hsum, hxk, hm⟩ := hrel
    by_cases hkw : k < wn
    · have b0 : wr.cell? ⟨tb, 0, none⟩ = some (.slice ta N tc) := by rw [cell_of_row wr tb 0 _ _ _ E.tbx]; rfl
      obtain ⟨ws, rw1, rw2⟩ := E.row
      have hwl := rw1.lens
      obtain ⟨gx, ex, _, _, hgc, _⟩ := rw1.int (by have := rw1.le; omega)
      have ex' := List.head_eq_of_cons_eq ex
      subst ex'
      have c1 := hgc k hkw
      have rng := rw2.nth (j := k) (by omega)
      obtain ⟨i, hi⟩ : ∃ i : Nat, nth ws k = (i : Int) := ⟨(nth ws k).toNat, by omega⟩
      rw [hi] at c1 rng
      have iN : i < N := by omega
      obtain ⟨bt, ot, hta, hbt, htc⟩ := E.tms.int (by omega)
      subst hta
      have c2 := htc i iN
      have hrX : [r] ∈ ((X ++ [[mk]]) ++ [[r]]) := by simp
      obtain ⟨mo, m1, m2, m3⟩ := E.st
      have s0 : wr.cell? ⟨eb, 0, none⟩ = some (.slice oa on' oc) := by rw [cell_of_row wr eb 0 _ _ _ m3]; rfl
      clear hgc htc ex rw1 rw2 hwl hi m1 m2 hbt
      obtain ⟨wx, rfl⟩ : ∃ wx : World, wx = wr := ⟨_, rfl⟩
      by_cases hbv : nth ts i ≤ mv
      · have CB := Lib.hid (show Calls Try.prog 56 #[.int .i64 (nth ts i), .pointer (some ⟨mk, 0, none⟩)] wx (fun e w' => e = .returned (.bool true) ∧ wx = w') from by have h := c_is2 (nth ts i) mv mk wx hm; rw [decide_eq_true hbv] at h; exact h)
        clear hbv
        obtain ⟨os, o1⟩ := E.ord
        go_upto_region 7 with (first | (go_at_call 56; refine (CB.out).mono ?_; rintro e wz ⟨rfl, rfl⟩) | ((with_reducible show wpList _ _ _ (⟨some 30, _, _, _, _, _⟩ :: _) _ _); refine wpList_app _ rfl _ _ 22 rfl 3 Try.underlying22 infoInt rfl rfl rfl (o1.alloc _) (Rd.one _ _ _) (one_int (i : Int)) (by omega) (by unfold maxLen; omega) ?_; intro a5 cap5 L5 w5 ow5 kp5 st5; rw [ints_snoc] at ow5; obtain ⟨f1, f2, E5⟩ := E.pushO ow5 kp5 st5))
        have kk : Keeps Lo wx w5 := (Keeps.alloc Lo wx _).trans kp5 (Step.refl _ _)
        have R5 := (R.keep kk (fun x hx hy => by simp at hx; subst hx; exact E.off hrX 5 (by omega) hy)).keep (Keeps.setCell w5 eb 0 (.slice a5 (on' + 1) cap5)) (fun x hx hy => by simp at hx; subst hx; exact E.off hrX 1 (by omega) hy)
        have hm5 := (World.cell?_of_block (a := ⟨mk, 0, none⟩) ((Keeps.setCell w5 eb 0 (.slice a5 (on' + 1) cap5)).block mk (Nat.lt_of_lt_of_le (E.blk.old [mk] (by simp) mk (by simp)) kk.size) (E.off (by simp) 1 (by omega)))).trans ((World.cell?_of_block (a := ⟨mk, 0, none⟩) (kk.block mk (E.blk.old [mk] (by simp) mk (by simp)) (E.off (by simp) 5 (by omega)))).trans hm)
        have x6 := (hxk.step kk (fun L hL => E.oldX (List.mem_append.2 (.inl hL))) (fun L hL j hj => E.offL (List.mem_append.2 (.inl hL)) hj 5 (by omega))).step (Keeps.setCell w5 eb 0 (.slice a5 (on' + 1) cap5)) (fun L hL j hj => Nat.lt_of_lt_of_le (E.oldX (List.mem_append.2 (.inl hL)) j hj) kk.size) (fun L hL j hj => E.offL (List.mem_append.2 (.inl hL)) hj 1 (by omega))
        obtain ⟨w6, hw6⟩ : ∃ w6, w6 = w5.setCell ⟨eb, 0, none⟩ (.slice a5 (on' + 1) cap5) := ⟨_, rfl⟩
        rw [← hw6] at E5 R5 x6 hm5 ⊢
        clear hw6 kk kp5 st5 ow5 f1 f2 o1 E R hxk s0 m3 c1 c2 b0 hm
        obtain ⟨mo6, _, _, n3⟩ := E5.st
        have s3 : w6.cell? ⟨eb, 3, none⟩ = some (.slice (some ⟨db, 0, none⟩) N N) := by rw [cell_of_row w6 eb 3 _ _ _ n3]; rfl
        obtain ⟨ds, d1⟩ := E5.del
        obtain ⟨dx, ed, _, _, hdc, hdf⟩ := d1.int (by omega)
        have ed' := List.head_eq_of_cons_eq ed
        subst ed'
        have c3 := hdc i iN
        have c4 := hdf i
        have E7 := E5.setD i (at' - (i : Int))
        have x7 := x6.step (Keeps.setCell w6 db i (.int .i64 (at' - (i : Int)))) (fun L hL => E5.oldX (List.mem_append.2 (.inl hL))) (fun L hL j hj => E5.offL (List.mem_append.2 (.inl hL)) hj 4 (by omega))
        have R7 := R5.keep (Keeps.setCell w6 db i (.int .i64 (at' - (i : Int)))) (fun x hx hy => by simp at hx; subst hx; exact E5.off hrX 4 (by omega) hy)
        have hm7 := (World.cell?_of_block (a := ⟨mk, 0, none⟩) ((Keeps.setCell w6 db i (.int .i64 (at' - (i : Int)))).block mk (E5.blk.old [mk] (by simp) mk (by simp)) (E5.off (by simp) 4 (by omega)))).trans hm5
        clear hdc hdf ed n3
        go_wp2_with fail
        go_roundw
        case rel => exact ⟨k + 1, r, rn, rc, rs, _, _, _, _, by omega, rfl, by rw [Int.natCast_add]; rfl, E7, R7, hR, by omega, x7, hm7⟩
        case measure => simp [intOf, Act.put] <;> omega
      · have CB := Lib.hid (show Calls Try.prog 56 #[.int .i64 (nth ts i), .pointer (some ⟨mk, 0, none⟩)] wx (fun e w' => e = .returned (.bool false) ∧ wx = w') from by have h := c_is2 (nth ts i) mv mk wx hm; rw [decide_eq_false hbv] at h; exact h)
        clear hbv
        go_wp2_with (first | (go_at_call 56; refine (CB.out).mono ?_; rintro e wz ⟨rfl, rfl⟩) | ((with_reducible show wpList _ _ _ (⟨some 42, _, _, _, _, _⟩ :: _) _ _); refine wpList_app _ rfl _ _ 22 rfl 3 Try.underlying22 infoInt rfl rfl rfl (R.alloc _) (Rd.one _ _ _) (one_int (i : Int)) (by omega) (by unfold maxLen; omega) ?_; intro a5 cap5 L5 w5 ow5 kp5 st5; rw [ints_snoc] at ow5))
        obtain ⟨r2, rfl, rfl, hr2, _, _⟩ := ow5.int (by have := ow5.le; omega)
        have kk : Keeps [r] wx w5 := (Keeps.alloc [r] wx _).trans kp5 (Step.refl _ _)
        have E5 := E.rest kk (Step.pre' st5) hr2
        have x5 := hxk.step kk (fun L hL => E.oldX (List.mem_append.2 (.inl hL))) (fun L hL j hj h => (List.pairwise_append.1 (List.pairwise_append.1 E.blk.pw).2.1).2.2 L hL [r] (by simp) j hj h)
        have hmr : mk ≠ r := fun e => by
          have hp := (List.pairwise_append.1 (List.pairwise_append.1 E.blk.pw).2.1).2.2 [mk] (by simp) [r] (by simp)
          exact hp mk (by simp) (by simp [e])
        have hm5 := (World.cell?_of_block (a := ⟨mk, 0, none⟩) (kk.block mk (E.blk.old [mk] (by simp) mk (by simp)) (by simpa using hmr))).trans hm
        have hR5 : InR N (rs ++ [(i : Int)]) := fun y hy => by
          rcases List.mem_append.1 hy with h | h
          · exact hR y h
          · simp at h; subst h; exact rng
        clear kk kp5 st5
        go_roundw
        case rel => exact ⟨k + 1, r2, rn + 1, cap5, _, Lo, oa, on', oc, by omega, rfl, by rw [Int.natCast_add]; rfl, E5, ow5, hR5, by omega, x5, hm5⟩
        case measure => simp [intOf] <;> omega
    · obtain rfl : k = wn := by omega
      have c1 : wr.cell? ⟨wb, 0, none⟩ = some (.slice (some ⟨g, 0, none⟩) k wcap) := by rw [cell_of_row wr wb 0 _ _ _ E.box]; rfl
      have f1 : wr.frozen? ⟨wb, 0, none⟩ = false := frozen_of_row wr wb 0 _ _ E.box
      have E4 := E.swapW R hR
      have x8 := hxk.step (Keeps.setCell wr wb 0 (.slice (some ⟨r, 0, none⟩) rn rc)) (fun L hL => E.oldX (List.mem_append.2 (.inl hL))) (fun L hL j hj => E.offL (List.mem_append.2 (.inl hL)) hj 0 (by omega))
      go_wp2_with fail
      go_end0
      exact ⟨rfl, r, rn, rc, Lo, oa, on', oc, E4, hsum, x8⟩


set_option maxRecDepth 100000 in
set_option maxHeartbeats 4000000 in
theorem c_out3 {W w : World} {wb eb tb db N : Nat} {ta : Option Addr} {tc : Nat} {ts : List Int} {g wn wcap : Nat} {Lo : List Nat} {oa : Option Addr} {on oc : Nat} {Ll : List Nat} {la : Option Addr} {ln lc : Nat} {Lk : List Nat} {ka : Option Addr} {kn kc : Nat} {ms : List Int} {X : List (List Nat)} (E : Emi W w wb eb tb db N ta tc ts g wn wcap Lo oa on oc Ll la ln lc Lk ka kn kc ms X) (hN : N ≤ 100) (hc : on + wn ≤ 100) (at' : Int) (hat : -1000 ≤ at' ∧ at' ≤ 1000) :
    Calls Try.prog 52 #[.int .i64 at', .func (.func 57) #[] #[], .pointer (some ⟨wb, 0, none⟩), .pointer (some ⟨tb, 0, none⟩), .pointer (some ⟨eb, 0, none⟩)] w fun e w' => e = .returned (.tuple #[]) ∧ ∃ g' wn' wcap' Lo' oa' on' oc', Emi W w' wb eb tb db N ta tc ts g' wn' wcap' Lo' oa' on' oc' Ll la ln lc Lk ka kn kc ms X ∧ on' + wn' = on + wn ∧ XK w w' X := by
  have hmf : ∀ (fn : Fn) (first cp : Array Value) (w : World), (Instr.makeFunc fn first cp).run Try.prog w = .ok (.func fn first cp) w := fun _ _ _ _ => rfl
  obtain ⟨ws, WT⟩ := E.wt
  have b0 : w.cell? ⟨wb, 0, none⟩ = some (.slice (some ⟨g, 0, none⟩) wn wcap) := by rw [cell_of_row w wb 0 _ _ _ E.box]; rfl
  go_enter Try.func52, Try.ntmps52
  go_upto_region 1 with (go_at_call 53; refine (c_Stable g wn wcap N tb ta tc ts ws _ WT (by omega)).mono ?_; rintro e w2 ⟨rfl, ⟨ws2, WT2⟩, k2⟩)
  have E2 := E.sorted k2 WT2
  have x2 := (XK.refl w X).step k2 (fun L hL => E.oldX hL) (fun L hL j hj => E.offL hL hj 3 (by omega))
  clear E WT WT2 b0
  go_upto_region 2 with fail
  obtain ⟨r, hr⟩ : ∃ r, r = w2.heap.size := ⟨_, rfl⟩
  obtain ⟨w3, hw3⟩ : ∃ w3, w3 = w2.alloc (.cells #[] 3) := ⟨_, rfl⟩
  have k3 : Keeps [] w2 w3 := by rw [hw3]; exact Keeps.alloc [] _ _
  have hs3 : r < w3.heap.size := by rw [hw3, hr]; simp
  have E3 := E2.withRest (r := r) (by omega) k3 hs3
  have R3 : Ow w3 3 [r] (some ⟨r, 0, none⟩) 0 0 (ints []) := by rw [hw3, hr]; exact Ow.new' _ _ #[] 0 _ rfl rfl (by unfold maxLen; omega)
  have x3 := x2.step k3 (fun L hL => E2.oldX hL) (fun _ _ _ _ h => by cases h)
  have b3 : w3.cell? ⟨wb, 0, none⟩ = some (.slice (some ⟨g, 0, none⟩) wn wcap) := by rw [cell_of_row w3 wb 0 _ _ _ E3.box]; rfl
  rw [← hw3, ← hr]
  clear hw3 hr k3 E2 hs3 k2
  go_wp2_with fail
  go_loopw [7, 16] (fun o i wr => ∃ k r rn rc : Nat, ∃ rs Lo oa on' oc, k ≤ wn ∧ o = .slice (some ⟨r, 0, none⟩) rn rc ∧ i = .int .i64 (k : Int) ∧ Emi W wr wb eb tb db N ta tc ts g wn wcap Lo oa on' oc Ll la ln lc Lk ka kn kc ms (X ++ [[r]]) ∧ Ow wr 3 [r] (some ⟨r, 0, none⟩) rn rc (ints rs) ∧ InR N rs ∧ on' + rn = on + k ∧ XK w wr X) (fun _ i _ => wn - (intOf i).toNat)
  case atStart => exact ⟨0, r, 0, 0, [], Lo, oa, on, oc, by omega, rfl, rfl, E3, R3, (fun _ h => by cases h), by omega, x3⟩
  case round =>
    clear E3 R3 b3 x2 x3
    obtain ⟨k, r, rn, rc, rs, Lo, oa, on', oc, hk, rfl, rfl, E, R, hR, hsum, hxk⟩ := hrel
    by_cases hkw : k < wn
    · have b0 : wr.cell? ⟨tb, 0, none⟩ = some (.slice ta N tc) := by rw [cell_of_row wr tb 0 _ _ _ E.tbx]; rfl
      obtain ⟨ws, rw1, rw2⟩ := E.row
      have hwl := rw1.lens
      obtain ⟨gx, ex, _, _, hgc, _⟩ := rw1.int (by have := rw1.le; omega)
      have ex' := List.head_eq_of_cons_eq ex
      subst ex'
      have c1 := hgc k hkw
      have rng := rw2.nth (j := k) (by omega)
      obtain ⟨i, hi⟩ : ∃ i : Nat, nth ws k = (i : Int) := ⟨(nth ws k).toNat, by omega⟩
      rw [hi] at c1 rng
      have iN : i < N := by omega
      obtain ⟨bt, ot, hta, hbt, htc⟩ := E.tms.int (by omega)
      subst hta
      have c2 := htc i iN
      have hrX : [r] ∈ (X ++ [[r]]) := by simp
      obtain ⟨mo, m1, m2, m3⟩ := E.st
      have s0 : wr.cell? ⟨eb, 0, none⟩ = some (.slice oa on' oc) := by rw [cell_of_row wr eb 0 _ _ _ m3]; rfl
      clear hgc htc ex rw1 rw2 hwl hi m1 m2 hbt
      obtain ⟨wx, rfl⟩ : ∃ wx : World, wx = wr := ⟨_, rfl⟩
      have CB := Lib.hid (c_is3 (nth ts i) wx)
      obtain ⟨os, o1⟩ := E.ord
      go_upto_region 7 with (first | (go_at_call 57; refine (CB.out).mono ?_; rintro e wz ⟨rfl, rfl⟩) | ((with_reducible show wpList _ _ _ (⟨some 30, _, _, _, _, _⟩ :: _) _ _); refine wpList_app _ rfl _ _ 22 rfl 3 Try.underlying22 infoInt rfl rfl rfl (o1.alloc _) (Rd.one _ _ _) (one_int (i : Int)) (by omega) (by unfold maxLen; omega) ?_; intro a5 cap5 L5 w5 ow5 kp5 st5; rw [ints_snoc] at ow5; obtain ⟨f1, f2, E5⟩ := E.pushO ow5 kp5 st5))
      have kk : Keeps Lo wx w5 := (Keeps.alloc Lo wx _).trans kp5 (Step.refl _ _)
      have R5 := (R.keep kk (fun x hx hy => by simp at hx; subst hx; exact E.off hrX 5 (by omega) hy)).keep (Keeps.setCell w5 eb 0 (.slice a5 (on' + 1) cap5)) (fun x hx hy => by simp at hx; subst hx; exact E.off hrX 1 (by omega) hy)
      have x6 := (hxk.step kk (fun L hL => E.oldX (List.mem_append.2 (.inl hL))) (fun L hL j hj => E.offL (List.mem_append.2 (.inl hL)) hj 5 (by omega))).step (Keeps.setCell w5 eb 0 (.slice a5 (on' + 1) cap5)) (fun L hL j hj => Nat.lt_of_lt_of_le (E.oldX (List.mem_append.2 (.inl hL)) j hj) kk.size) (fun L hL j hj => E.offL (List.mem_append.2 (.inl hL)) hj 1 (by omega))
      obtain ⟨w6, hw6⟩ : ∃ w6, w6 = w5.setCell ⟨eb, 0, none⟩ (.slice a5 (on' + 1) cap5) := ⟨_, rfl⟩
      rw [← hw6] at E5 R5 x6 ⊢
      clear hw6 kk kp5 st5 ow5 f1 f2 o1 E R hxk s0 m3 c1 c2 b0
      obtain ⟨mo6, _, _, n3⟩ := E5.st
      have s3 : w6.cell? ⟨eb, 3, none⟩ = some (.slice (some ⟨db, 0, none⟩) N N) := by rw [cell_of_row w6 eb 3 _ _ _ n3]; rfl
      obtain ⟨ds, d1⟩ := E5.del
      obtain ⟨dx, ed, _, _, hdc, hdf⟩ := d1.int (by omega)
      have ed' := List.head_eq_of_cons_eq ed
      subst ed'
      have c3 := hdc i iN
      have c4 := hdf i
      have E7 := E5.setD i (at' - (i : Int))
      have x7 := x6.step (Keeps.setCell w6 db i (.int .i64 (at' - (i : Int)))) (fun L hL => E5.oldX (List.mem_append.2 (.inl hL))) (fun L hL j hj => E5.offL (List.mem_append.2 (.inl hL)) hj 4 (by omega))
      have R7 := R5.keep (Keeps.setCell w6 db i (.int .i64 (at' - (i : Int)))) (fun x hx hy => by simp at hx; subst hx; exact E5.off hrX 4 (by omega) hy)
      clear hdc hdf ed n3
      go_wp2_with fail
      go_roundw
      case rel => exact ⟨k + 1, r, rn, rc, rs, _, _, _, _, by omega, rfl, by rw [Int.natCast_add]; rfl, E7, R7, hR, by omega, x7⟩
      case measure => simp [intOf, Act.put] <;> omega
    · obtain rfl : k = wn := by omega
      have c1 : wr.cell? ⟨wb, 0, none⟩ = some (.slice (some ⟨g, 0, none⟩) k wcap) := by rw [cell_of_row wr wb 0 _ _ _ E.box]; rfl
      have f1 : wr.frozen? ⟨wb, 0, none⟩ = false := frozen_of_row wr wb 0 _ _ E.box
      have E4 := E.swapW R hR
      have x8 := hxk.step (Keeps.setCell wr wb 0 (.slice (some ⟨r, 0, none⟩) rn rc)) (fun L hL => E.oldX (List.mem_append.2 (.inl hL))) (fun L hL j hj => E.offL (List.mem_append.2 (.inl hL)) hj 0 (by omega))
      go_wp2_with fail
      go_end0
      exact ⟨rfl, r, rn, rc, Lo, oa, on', oc, E4, hsum, x8⟩

end Go.Proofs.Ytaffokicnabkiaa

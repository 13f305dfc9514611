/- The library's slices.Delete of one element at a slice that the call owns; slices.IndexFunc with a captured cell. No condition but lengths. -/
import Derived.Test.YtaffokicnabkiaaRepL
import Derived.Test.YtaffokicnabkiaaSortW
import Derived.Sort.OwnSortedInts
namespace Go.Proofs.Ytaffokicnabkiaa
open Go.RowKit
set_option linter.unusedVariables false


theorem c_Delete1 (a : Option Addr) (n cap i : Nat) (L : List Nat) (xs : List Int) (w : World) (h : Ow w 3 L a n cap (ints xs)) (hi : i < n) (hn : n ≤ 1000) :
    Calls Try.prog 47 #[.slice a n cap, .int .i64 i, .int .i64 ((i : Int) + 1)] w fun e w' => e = .returned (.slice a (n - 1) cap) ∧ Ow w' 3 L a (n - 1) cap (ints (rmAt xs i)) ∧ Keeps L w w' := by
  obtain rfl := h.lens
  have hle := h.le
  have hmax := h.max
  rcases h.2.2.2 with ⟨rfl, h0⟩ | ⟨g, cur, rfl, rfl, hg, hs, ht⟩
  · omega
  · have hh : Go.Sort.Holds (Value.int .i64) w g 0 xs.toArray := holds_of_blockI hg ht
    have hc := Try.slices_Delete_int g 0 cap i (i + 1) xs w hh hle (by unfold maxLen at hmax; omega) (by omega) (by omega)
    have e1 : ((i + 1 : Nat) : Int) = (i : Int) + 1 := by omega
    rw [e1] at hc
    refine hc.mono ?_
    rintro e w' ⟨rfl, q, rfl⟩
    obtain ⟨ts, hts⟩ : ∃ ts : List Int, ts = xs.take i ++ xs.drop (i + 1) ++ List.replicate (i + 1 - i) 0 := ⟨_, rfl⟩
    have htl : ts.length = xs.length := by rw [hts]; simp; omega
    rw [← hts]
    have hw : Go.Sort.putRow (Value.int .i64) (Go.Sort.ahead w q) g 0 ts.toArray = Go.Sort.grow (Go.Sort.putRow (Value.int .i64) (Go.Sort.ahead w q) g 0 ts.toArray) #[] := by rw [Go.Sort.grow_empty]
    have e2 : xs.length - (i + 1 - i) = xs.length - 1 := by omega
    rw [hw, e2]
    refine ⟨rfl, ⟨by rw [List.length_map, rmAt_len hi], by omega, hmax, .inr ⟨g, _, rfl, rfl, heap_sortedI _ hg, by simp [Go.Sort.putCells, hs], ?_⟩⟩, ⟨rfl, rfl, rfl, by simp [Go.Sort.putRow, Go.Sort.mapBlock, Go.Sort.ahead], fun j hj hn => ?_⟩⟩
    · have h1 := take_putCellsI cur ts (by omega)
      have h2 : (Go.Sort.putCells (Value.int .i64) 0 ts.toArray cur).toList.take (xs.length - 1) = ((Go.Sort.putCells (Value.int .i64) 0 ts.toArray cur).toList.take ts.length).take (xs.length - 1) := by
        rw [List.take_take, htl, Nat.min_eq_left (by omega)]
      rw [h2, h1, ← List.map_take]
      congr 1
      rw [hts, List.take_append_of_le_length (by rw [List.length_append, List.length_take, List.length_drop]; omega)]
      exact List.take_of_length_le (by rw [List.length_append, List.length_take, List.length_drop]; omega)
    · rw [Go.Sort.heap_grow_old _ _ (by simpa [Go.Sort.putRow, Go.Sort.mapBlock, Go.Sort.ahead] using hj)]
      have h2 : g ≠ j := fun e => hn (by simp [e])
      simp [Go.Sort.putRow, Go.Sort.mapBlock, Go.Sort.ahead, Array.getElem?_modify, h2]
theorem c_DeleteA (a : Option Addr) (n cap i : Nat) (x y : Int) (L : List Nat) (xs : List Int) (w : World) (h : Ow w 3 L a n cap (ints xs)) (hi : i < n) (hn : n ≤ 1000) (hx : x = i) (hy : y = (i : Int) + 1) :
    Calls Try.prog 47 #[.slice a n cap, .int .i64 x, .int .i64 y] w fun e w' => e = .returned (.slice a (n - 1) cap) ∧ Ow w' 3 L a (n - 1) cap (ints (rmAt xs i)) ∧ Keeps L w w' := by
  subst hx; subst hy; exact c_Delete1 a n cap i L xs w h hi hn


def pkI (l : Int) (S : List Int) (m : Nat) : Int := match pk l S m with | some j => (j : Int) | none => -1
theorem pkI_some {l : Int} {S : List Int} {m j : Nat} (h : pk l S m = some j) : pkI l S m = (j : Int) := by unfold pkI; rw [h]
theorem pkI_none {l : Int} {S : List Int} {m : Nat} (h : pk l S m = none) : pkI l S m = -1 := by unfold pkI; rw [h]


theorem c_Rep1 (x l : Int) (v : Nat) (w : World) (hc : w.cell? ⟨v, 0, none⟩ = some (.int .i64 l)) : Calls Try.prog 46 #[.int .i64 x, .pointer (some ⟨v, 0, none⟩)] w fun e w' => e = .returned (.bool (decide (l ≤ x))) ∧ w = w' := by
  go_enter Try.func46, Try.ntmps46
  go_wp2
  go_ret
  exact ⟨rfl, rfl⟩

theorem c_IdxGe (a : Option Addr) (n cap v : Nat) (l : Int) (xs : List Int) (w : World) (hr : RdI w a n cap xs) (hcell : w.cell? ⟨v, 0, none⟩ = some (.int .i64 l)) (hn : n ≤ 1000) :
    Calls Try.prog 45 #[.slice a n cap, .func (.func 46) #[] #[.pointer (some ⟨v, 0, none⟩)]] w fun e w' => e = .returned (.int .i64 (pkI l xs n)) ∧ w = w' := by
  have HL := Lib.hid hr.lens
  have HF := Lib.hid (fun x => c_Rep1 x l v w hcell)
  have HR := Lib.hid hr
  clear hcell hr
  go_enter Try.func45, Try.ntmps45
  go_wp2
  go_loopw [8] (fun i wr => ∃ k : Nat, k ≤ n ∧ i = .int .i64 k ∧ (∀ j, j < k → nth xs j < l) ∧ wr = w) (fun i _ => n - (intOf i).toNat)
  case atStart => exact ⟨0, by omega, rfl, fun j h => by omega, rfl⟩
  case round =>
    obtain ⟨k, hk, rfl, hall, rfl⟩ := hrel
    have HA := Lib.hid hall
    clear hall
    by_cases hlt : k < n
    · obtain ⟨b, off, rfl, hbl, hc⟩ := HR.out.int (by omega)
      have c1 := hc k hlt
      clear hc
      go_wp2_with fail
      refine (HF.out _).mono ?_
      by_cases hp : l ≤ nth xs k
      · have HV := Lib.hid (pkI_some (pk_is hlt hp HA.out))
        rw [decide_eq_true hp]
        rintro e w' ⟨rfl, rfl⟩
        clear hp
        go_wp2_with fail
        go_ret
        exact ⟨by rw [HV.out]; rfl, rfl⟩
      · rw [decide_eq_false hp]
        have HP := Lib.hid hp
        rintro e w' ⟨rfl, rfl⟩
        clear hp
        go_wp2_with fail
        go_roundw
        case rel => exact ⟨k + 1, by omega, by go_num, fun j h => by
          rcases Nat.lt_or_ge j k with h1 | h1
          · exact HA.out j h1
          · obtain rfl : j = k := by omega
            have := HP.out; omega, by first | rfl | trivial⟩
        case measure => simp [intOf]; omega
    · obtain rfl : k = n := by omega
      have HV := Lib.hid (pkI_none (pk_isNone HA.out))
      go_wp2_with fail
      go_ret
      exact ⟨by rw [HV.out]; rfl, rfl⟩


end Go.Proofs.Ytaffokicnabkiaa

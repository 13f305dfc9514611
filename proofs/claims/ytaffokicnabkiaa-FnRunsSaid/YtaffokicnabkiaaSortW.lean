/- The library's sort, at a slice that the call owns: the same numbers, in order. No condition but lengths. -/
import Derived.Test.YtaffokicnabkiaaSrtL
import Derived.Test.YtaffokicnabkiaaMem
import Derived.Test.YtaffokicnabkiaaShelf
import Derived.Sort.OwnSortedInts
namespace Go.Proofs.Ytaffokicnabkiaa
open Go.RowKit
set_option linter.unusedVariables false

/-- The numbers in order. -/
def srt (xs : List Int) : List Int := xs.mergeSort fun x y => decide (x ≤ y)
theorem srt_len (xs : List Int) : (srt xs).length = xs.length := by unfold srt; exact List.length_mergeSort _
theorem srt_perm (xs : List Int) : (srt xs).Perm xs := by unfold srt; exact List.mergeSort_perm _ _
theorem srt_srt (xs : List Int) : Srt (srt xs) := by
  have h : (srt xs).Pairwise fun x y => decide (x ≤ y) = true := List.pairwise_mergeSort (le := fun (x y : Int) => decide (x ≤ y)) (by intro a b c h1 h2; simp at *; omega) (by intro a b; simp; omega) xs
  intro i j hij hj
  rw [nth_eq hj, nth_eq (by omega)]
  have := List.pairwise_iff_getElem.1 h i j (by omega) hj hij
  simpa using this
theorem srt_eq (xs : List Int) : sortTo ltD xs xs.length = srt xs := by
  refine (srt_sortTo xs _).eq (srt_srt xs) ?_
  have h := sortTo_perm ltD xs xs.length (Nat.le_refl _)
  rw [List.take_length] at h
  exact h.trans (srt_perm xs).symm
theorem srt_of {xs ys : List Int} (h : Srt ys) (p : ys.Perm xs) : ys = srt xs := h.eq (srt_srt xs) (p.trans (srt_perm xs).symm)


theorem c_Sort (a : Option Addr) (n cap : Nat) (L : List Nat) (xs : List Int) (w : World) (h : Ow w 3 L a n cap (ints xs)) (ha : ∃ g off, a = some ⟨g, off, none⟩ ∧ g < w.heap.size) (hn : n ≤ 1000) :
    Calls Try.prog 40 #[.slice a n cap] w fun e w' => e = .returned (.tuple #[]) ∧ Ow w' 3 L a n cap (ints (srt xs)) ∧ Keeps L w w' := by
  obtain rfl := h.lens
  obtain ⟨b, off, rfl, hb⟩ := ha
  have hle := h.le
  have hmax := h.max
  rcases h.2.2.2 with ⟨rfl, h0⟩ | ⟨g, cur, rfl, e1, hg, hs, ht⟩
  · obtain rfl : xs = [] := List.eq_nil_of_length_eq_zero (by omega)
    have hh : Go.Sort.Holds (Value.int .i64) w b off ([] : List Int).toArray := fun j hj => by simp at hj
    refine (Try.slices_Sort_int b off cap [] w hh hb (by simp)).mono ?_
    rintro e w' ⟨rfl, k, os, rfl⟩
    have e2 : Go.Sort.putRow (Value.int .i64) (Go.Sort.ahead w k) b off ([] : List Int).toArray = Go.Sort.ahead w k := by
      unfold Go.Sort.putRow
      refine Go.Sort.mapBlock_id _ _ _ fun c _ _ _ => ?_
      apply Array.ext_getElem?
      intro j
      have hno : ¬ (off ≤ j ∧ j < off) := by omega
      simp [Go.Sort.putCells, hno]
    have e3 : ([] : List Int).mergeSort (fun x y => decide (x ≤ y)) = [] := by simp
    rw [e3, e2]
    refine ⟨rfl, ?_, ⟨rfl, rfl, rfl, by simp, fun j hj _ => by rw [Go.Sort.heap_grow_old _ _ (by simpa using hj)]; rfl⟩⟩
    exact ⟨by simp [srt], h.2.1, hmax, .inl ⟨rfl, h0⟩⟩
  · simp only [Option.some.injEq, Addr.mk.injEq, and_true] at e1
    obtain ⟨rfl, rfl⟩ := e1
    have hh : Go.Sort.Holds (Value.int .i64) w b 0 xs.toArray := holds_of_blockI hg ht
    refine (Try.slices_Sort_int b 0 cap xs w hh hb (by omega)).mono ?_
    rintro e w' ⟨rfl, k, os, rfl⟩
    refine ⟨rfl, ⟨by simp [srt_len], hle, hmax, .inr ⟨b, _, rfl, rfl, heap_sortedI _ hg, by simp [Go.Sort.putCells, hs], ?_⟩⟩, ⟨rfl, rfl, rfl, by simp [Go.Sort.putRow, Go.Sort.mapBlock, Go.Sort.ahead], fun j hj hn => ?_⟩⟩
    · have h1 := srt_len xs
      rw [← h1]
      exact take_putCellsI cur (srt xs) (by omega)
    · rw [Go.Sort.heap_grow_old _ _ (by simpa [Go.Sort.putRow, Go.Sort.mapBlock, Go.Sort.ahead] using hj)]
      have h2 : b ≠ j := fun e => hn (by simp [e])
      simp [Go.Sort.putRow, Go.Sort.mapBlock, Go.Sort.ahead, Array.getElem?_modify, h2]


end Go.Proofs.Ytaffokicnabkiaa

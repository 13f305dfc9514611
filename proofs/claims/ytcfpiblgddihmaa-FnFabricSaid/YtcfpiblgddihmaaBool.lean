/- Slices of bools. -/
import Derived.Test.YtcfpiblgddihmaaHelp
namespace Go.Proofs.Ytcfpiblgddihmaa
open Go.RowKit

theorem infoBool : (Try.prog.info? 4).map (fun i => (i.zero, i.size, i.bytes)) = some (some (.bool false), 1, 1) := by kernel_rfl

def getB (bs : List Bool) (j : Nat) : Bool := bs.getD j false
abbrev bools (bs : List Bool) : List Value := bs.map Value.bool
theorem bools_set (bs : List Bool) (k : Nat) (x : Bool) : (bools bs).set k (.bool x) = bools (bs.set k x) := by simp [bools, List.map_set]
theorem Ow.bool {w : World} {T : TypeId} {L : List Nat} {a : Option Addr} {n cap : Nat} {bs : List Bool} (h : Ow w T L a n cap (bools bs)) (hp : 0 < cap) :
    ∃ g, L = [g] ∧ a = some ⟨g, 0, none⟩ ∧ g < w.heap.size ∧ (∀ j, j < n → w.cell? ⟨g, j, none⟩ = some (.bool (getB bs j))) ∧ ∀ j, w.frozen? ⟨g, j, none⟩ = false := by
  obtain ⟨g, h1, h2, h3, h4, h5⟩ := h.at' hp
  refine ⟨g, h1, h2, h3, fun j hj => ?_, h5⟩
  have hl : bs.length = n := by simpa using h.len
  rw [h4 j hj, List.getElem?_map, List.getElem?_eq_getElem (by omega)]
  simp [getB, List.getD, show j < bs.length by omega]

def cntF (bs : List Bool) : Nat := (bs.filter fun b => !b).length
theorem cntF_le (bs : List Bool) : cntF bs ≤ bs.length := List.length_filter_le _ _
theorem cntF_set (bs : List Bool) (q : Nat) (h : q < bs.length) (hg : getB bs q = false) : cntF (bs.set q true) + 1 = cntF bs := by
  induction bs generalizing q with
  | nil => simp at h
  | cons b bs ih =>
    cases q with
    | zero =>
      simp [getB] at hg
      subst hg
      simp [cntF]
    | succ q =>
      have := ih q (by simpa using h) (by simpa [getB] using hg)
      cases b <;> simp [cntF] at this ⊢ <;> omega

end Go.Proofs.Ytcfpiblgddihmaa

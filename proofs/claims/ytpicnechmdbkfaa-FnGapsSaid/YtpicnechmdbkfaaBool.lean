/- Slices of bools. -/
import Derived.Test.YtpicnechmdbkfaaHelp
namespace Go.Proofs.Ytpicnechmdbkfaa
open Go.RowKit

theorem infoBool : (Try.prog.info? 4).map (fun i => (i.zero, i.size, i.bytes)) = some (some (.bool false), 1, 1) := by kernel_rfl

def getB (bs : List Bool) (j : Nat) : Bool := bs.getD j false
abbrev bools (bs : List Bool) : List Value := bs.map Value.bool
theorem bools_set (bs : List Bool) (k : Nat) (x : Bool) : (bools bs).set k (.bool x) = bools (bs.set k x) := by simp [bools, List.map_set]
theorem Ow.bool {w : World} {T : TypeId} {L : List Nat} {a : Option Addr} {n cap : Nat} {bs : List Bool} (h : Ow w T L a n cap (bools bs)) (hp : 0 < cap) :
    ∃ g, L = [g] ∧ a = some ⟨g, 0, none⟩ ∧ g < w.heap.size ∧ (∀ j, j < n → w.cell? ⟨g, j, none⟩ = some (.bool (getB bs j))) ∧ ∀ j, w.frozen? ⟨g, j, none⟩ = false := by
  obtain ⟨g, h1, h2, h3, h4, h5⟩ := h.at' hp
  refine ⟨g, h1, h2, h3, fun j hj => ?_, h5⟩
  have hl : bs.length = n := by simpa using h.len
  rw [h4 j hj, List.getElem?_map, List.getElem?_eq_getElem (by omega)]
  simp [getB, List.getD, show j < bs.length by omega]

end Go.Proofs.Ytpicnechmdbkfaa

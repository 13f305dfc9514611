/- A world that has drawn. -/
import Derived.Test.YtaffokicnabkiaaHelp
namespace Go.Proofs.Ytaffokicnabkiaa
open Go.RowKit

def Dr (w w' : World) : Prop := ∃ m, w' = World.drewN w m
theorem Dr.refl (w : World) : Dr w w := ⟨0, rfl⟩
theorem Dr.step {w w' : World} (h : Dr w w') (k : Nat) : Dr w (w'.drewN k) := by
  obtain ⟨m, rfl⟩ := h
  exact ⟨m + k, by rw [World.drewN_drewN]⟩
theorem Dr.below {w w' : World} (h : Dr w w') : Below w.heap.size w w' := by
  obtain ⟨m, rfl⟩ := h
  exact below_drewN (Below.refl _ _) _

end Go.Proofs.Ytaffokicnabkiaa

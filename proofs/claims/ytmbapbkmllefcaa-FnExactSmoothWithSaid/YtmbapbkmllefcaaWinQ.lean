/- Positions of numbers that are less than all after them, for each window. No condition but lengths. -/
import Derived.Test.YtmbapbkmllefcaaWinM
import Derived.Test.YtmbapbkmllefcaaHelpG
namespace Go.Proofs.Ytmbapbkmllefcaa
open Go.RowKit
set_option linter.unusedVariables false

theorem New.push {B : Nat} {w : World} {L L' : List Nat} {cs : List Cell} {c : Cell} (h : New B (fp L cs)) (hc : New B c.L) (s : Step w L L') (hB : B ≤ w.heap.size) : New B (fp L' (cs ++ [c])) := fun i hi => by
  rcases mem_fp.1 hi with h1 | ⟨d, hd, h1⟩
  · rcases s i h1 with h2 | h2
    · exact h i (mem_fp.2 (.inl h2))
    · omega
  · rcases List.mem_append.1 hd with h2 | h2
    · exact h i (mem_fp.2 (.inr ⟨d, h2, h1⟩))
    · simp at h2; subst h2; exact hc i h1
/-- Number q is less than those behind it up to m. -/
def LessTo (ys : List Int) (q m : Nat) : Prop := ∀ i, q < i → i < m → nth ys q < nth ys i
open Classical in
noncomputable def ltB (ys : List Int) (q m : Nat) : Bool := decide (LessTo ys q m)
open Classical in
theorem ltB_yes {ys : List Int} {q m : Nat} (h : LessTo ys q m) : ltB ys q m = true := decide_eq_true h
open Classical in
theorem ltB_no {ys : List Int} {q m : Nat} (h : ¬ LessTo ys q m) : ltB ys q m = false := decide_eq_false h
open Classical in
noncomputable def lessB (ys : List Int) (q : Nat) : Bool := decide (LessTo ys q ys.length)
open Classical in
theorem lessB_yes {ys : List Int} {q : Nat} (h : LessTo ys q ys.length) : lessB ys q = true := decide_eq_true h
open Classical in
theorem lessB_no {ys : List Int} {q : Nat} (h : ¬ LessTo ys q ys.length) : lessB ys q = false := decide_eq_false h
noncomputable def lqTo (ys : List Int) (at' : Nat) : Nat → List Int
  | 0 => []
  | q + 1 => if lessB ys q = true then lqTo ys at' q ++ [(at' : Int) + q] else lqTo ys at' q
theorem lqTo_yes {ys : List Int} {at' q : Nat} (h : lessB ys q = true) : lqTo ys at' (q + 1) = lqTo ys at' q ++ [(at' : Int) + q] := by rw [lqTo, if_pos h]
theorem lqTo_no {ys : List Int} {at' q : Nat} (h : lessB ys q = false) : lqTo ys at' (q + 1) = lqTo ys at' q := by rw [lqTo, if_neg (by rw [h]; simp)]
theorem lqTo_len (ys : List Int) (at' q : Nat) : (lqTo ys at' q).length ≤ q := by
  induction q with
  | zero => simp [lqTo]
  | succ q ih =>
    rw [lqTo]
    split
    · simp; omega
    · omega
noncomputable def lqG (xs : List Int) (wd m : Nat) : List (List Int) := (List.range m).map fun i => lqTo (winL xs i wd) i wd
theorem lqG_succ (xs : List Int) (wd m : Nat) : lqG xs wd (m + 1) = lqG xs wd m ++ [lqTo (winL xs m wd) m wd] := by unfold lqG; rw [List.range_succ, List.map_append]; rfl
noncomputable def lqV (xs : List Int) (k : Int) : List (List Int) := if okWin xs.length k = true then lqG xs k.toNat (winN xs.length k.toNat) else []
theorem lqG_small (xs : List Int) (wd m : Nat) (h : wd ≤ 24) (hm : m ≤ 1000) : SmallG m (lqG xs wd m) := ⟨hm, fun ys hy => by
  obtain ⟨i, _, rfl⟩ := List.mem_map.1 hy
  have := lqTo_len (winL xs i wd) i wd; omega⟩
theorem lt_minF {zs : List Int} {x : Int} (h : 1 ≤ zs.length) : x < minF zs ↔ ∀ i, i < zs.length → x < nth zs i := by
  constructor
  · intro h1 i hi
    have := minUp_le zs (zs.length - 1) i (by omega)
    unfold minF at h1; omega
  · intro h1
    obtain ⟨i, hi, e⟩ := minUp_mem zs (zs.length - 1)
    unfold minF; rw [e]; exact h1 i (by omega)




































































































































































































































































end Go.Proofs.Ytmbapbkmllefcaa

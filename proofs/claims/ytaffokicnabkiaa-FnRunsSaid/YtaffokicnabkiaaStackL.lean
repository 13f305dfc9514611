/- Sorting with a stack: plain lists. The stack's top stands first. -/
import Derived.Test.YtaffokicnabkiaaFlipL
namespace Go.Proofs.Ytaffokicnabkiaa
open Go.RowKit
set_option linter.unusedVariables false

/-- All that is less than x is taken. -/
def tkS (x : Int) : List Int → List Int → List Int × List Int
  | out, [] => (out, [])
  | out, y :: st => if y < x then tkS x (out ++ [y]) st else (out, y :: st)
theorem tkS_yes {x y : Int} {out st : List Int} (h : y < x) : tkS x out (y :: st) = tkS x (out ++ [y]) st := by rw [tkS, if_pos h]
theorem tkS_no {x y : Int} {out st : List Int} (h : ¬ y < x) : tkS x out (y :: st) = (out, y :: st) := by rw [tkS, if_neg h]
theorem tkS_nil (x : Int) (out : List Int) : tkS x out [] = (out, []) := rfl
theorem tkS_len (x : Int) (st : List Int) : ∀ out, (tkS x out st).1.length + (tkS x out st).2.length = out.length + st.length := by
  induction st with
  | nil => intro out; rfl
  | cons y st ih =>
    intro out
    rw [tkS]
    split
    · rw [ih]; simp; omega
    · rfl
def stS (xs : List Int) : Nat → List Int × List Int
  | 0 => ([], [])
  | k + 1 => ((tkS (nth xs k) (stS xs k).1 (stS xs k).2).1, nth xs k :: (tkS (nth xs k) (stS xs k).1 (stS xs k).2).2)
theorem stS_len (xs : List Int) (k : Nat) : (stS xs k).1.length + (stS xs k).2.length = k := by
  induction k with
  | zero => rfl
  | succ k ih =>
    have := tkS_len (nth xs k) (stS xs k).2 (stS xs k).1
    simp only [stS, List.length_cons]; omega
def stF (xs : List Int) (n : Nat) : List Int := (stS xs n).1 ++ (stS xs n).2
theorem nth_top (y : Int) (st : List Int) : nth (y :: st).reverse st.length = y := by
  rw [List.reverse_cons, nth_appR (by simp), List.length_reverse, Nat.sub_self]; rfl
theorem rev_pop (y : Int) (st : List Int) : ((y :: st).reverse).take st.length = st.reverse := by
  rw [List.reverse_cons, List.take_append_of_le_length (by simp), List.take_of_length_le (by simp)]

/-- What is done: the word grows by a 't' for each number that is taken. -/
def tkW (x : Int) : List Int → ByteArray → ByteArray
  | [], s => s
  | y :: st, s => if y < x then tkW x st (s ++ ⟨#[116]⟩) else s
theorem tkW_yes {x y : Int} {st : List Int} {s : ByteArray} (h : y < x) : tkW x (y :: st) s = tkW x st (s ++ ⟨#[116]⟩) := by rw [tkW, if_pos h]
theorem tkW_no {x y : Int} {st : List Int} {s : ByteArray} (h : ¬ y < x) : tkW x (y :: st) s = s := by rw [tkW, if_neg h]
def stW (xs : List Int) : Nat → ByteArray
  | 0 => ⟨#[]⟩
  | k + 1 => tkW (nth xs k) (stS xs k).2 (stW xs k) ++ ⟨#[112]⟩
/-- All that is left is taken. -/
def drW : List Int → ByteArray → ByteArray
  | [], s => s
  | _ :: st, s => drW st (s ++ ⟨#[116]⟩)
theorem ba_size (s : ByteArray) (u : UInt8) : (s ++ (⟨#[u]⟩ : ByteArray)).size = s.size + 1 := by rw [ByteArray.size_append]; rfl
theorem tkW_size (x : Int) (st : List Int) : ∀ (s : ByteArray) (out : List Int), (tkW x st s).size + out.length = s.size + (tkS x out st).1.length := by
  induction st with
  | nil => intro s out; simp [tkW, tkS]
  | cons y st ih =>
    intro s out
    rw [tkW, tkS]
    split
    · have := ih (s ++ ⟨#[116]⟩) (out ++ [y])
      rw [ba_size, List.length_append, List.length_singleton] at this
      omega
    · rfl
theorem stW_size (xs : List Int) (k : Nat) : (stW xs k).size = k + (stS xs k).1.length := by
  induction k with
  | zero => rfl
  | succ k ih =>
    rw [stW, ba_size, stS]
    have := tkW_size (nth xs k) (stS xs k).2 (stW xs k) (stS xs k).1
    dsimp only
    omega
theorem drW_size (st : List Int) : ∀ s, (drW st s).size = s.size + st.length := by
  induction st with
  | nil => intro s; rfl
  | cons y st ih => intro s; rw [drW, ih, ba_size, List.length_cons]; omega

end Go.Proofs.Ytaffokicnabkiaa

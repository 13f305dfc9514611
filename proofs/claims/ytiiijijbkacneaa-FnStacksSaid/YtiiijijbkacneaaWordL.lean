/- Putting and taking as a word says: plain lists. -/
import Derived.Test.YtiiijijbkacneaaPermL
import Derived.Test.YtiiijijbkacneaaFlipL
import Derived.Test.YtiiijijbkacneaaStackL
namespace Go.Proofs.Ytiiijijbkacneaa
open Go.RowKit
set_option linter.unusedVariables false

/-- The byte at a place of a string. -/
def bt (s : ByteArray) (k : Nat) : Int := ((s[k]?).getD 0).toNat
theorem run_bt {P : Program} (t : TypeId) (h : P.underlying t = some .string) (s : ByteArray) (k : Nat) (hk : k < s.size) (w : World) : (Instr.index t (.string s) (.int .i64 (k : Int))).run P w = .ok (.int .u8 (bt s k)) w := by
  have hi : 0 ≤ (k : Int) ∧ (k : Int) < (s.size : Int) := by omega
  rw [run_index_string w t s .i64 (k : Int) h, dif_pos hi]
  simp only [bt, ByteArray.getElem?_lt' _ _ hk, Option.getD_some, Int.toNat_natCast]

structure WS where
  out : List Int
  st : List Int
  next : Nat
def rwO (xs : List Int) (c : Int) (s : WS) : Option WS :=
  if c = 112 ∧ s.next < xs.length then some ⟨s.out, nth xs s.next :: s.st, s.next + 1⟩
  else if c = 116 then (match s.st with | [] => none | y :: st => some ⟨s.out ++ [y], st, s.next⟩) else none
def rwS (xs : List Int) (ws : ByteArray) : Nat → Option WS
  | 0 => some ⟨[], [], 0⟩
  | k + 1 => (rwS xs ws k).bind (rwO xs (bt ws k))
theorem rwS_none {xs : List Int} {ws : ByteArray} {k m : Nat} (h : rwS xs ws k = none) (hm : k ≤ m) : rwS xs ws m = none := by
  induction m with
  | zero => obtain rfl : k = 0 := by omega
            exact h
  | succ m ih =>
    rcases Nat.lt_or_ge k (m + 1) with h1 | h1
    · rw [rwS, ih (by omega)]; rfl
    · obtain rfl : k = m + 1 := by omega
      exact h
theorem rwS_len {xs : List Int} {ws : ByteArray} {k : Nat} : ∀ {s : WS}, rwS xs ws k = some s → s.out.length + s.st.length = s.next ∧ s.next ≤ xs.length ∧ k = s.next + s.out.length := by
  induction k with
  | zero => intro s h; simp only [rwS, Option.some.injEq] at h; subst h; simp
  | succ k ih =>
    intro s h
    rw [rwS] at h
    cases e : rwS xs ws k with
    | none => rw [e] at h; cases h
    | some t =>
      have ih := ih e
      rw [e] at h
      simp only [Option.bind_some, rwO] at h
      split at h
      · simp only [Option.some.injEq] at h; subst h
        simp only [List.length_cons]; omega
      · split at h
        · cases e2 : t.st with
          | nil => rw [e2] at h; cases h
          | cons y st =>
            rw [e2] at h ih
            simp only [Option.some.injEq] at h; subst h
            simp only [List.length_cons, List.length_append, List.length_nil] at ih ⊢; omega
        · cases h
theorem rwS_put {xs : List Int} {ws : ByteArray} {k : Nat} {s : WS} (h : rwS xs ws k = some s) (h1 : bt ws k = 112) (h2 : s.next < xs.length) : rwS xs ws (k + 1) = some ⟨s.out, nth xs s.next :: s.st, s.next + 1⟩ := by
  rw [rwS, h, Option.bind_some, rwO, if_pos ⟨h1, h2⟩]
theorem rwS_take {xs : List Int} {ws : ByteArray} {k : Nat} {out st : List Int} {y : Int} {j : Nat} (h : rwS xs ws k = some ⟨out, y :: st, j⟩) (h1 : bt ws k = 116) : rwS xs ws (k + 1) = some ⟨out ++ [y], st, j⟩ := by
  rw [rwS, h, Option.bind_some, rwO, if_neg (by omega), if_pos h1]
theorem rwS_bad {xs : List Int} {ws : ByteArray} {k : Nat} {s : WS} (h : rwS xs ws k = some s) (h1 : ¬ (bt ws k = 112 ∧ s.next < xs.length)) (h2 : ¬ (bt ws k = 116 ∧ s.st ≠ [])) : rwS xs ws (k + 1) = none := by
  rw [rwS, h, Option.bind_some, rwO, if_neg h1]
  split
  · rename_i h3
    cases e : s.st with
    | nil => rfl
    | cons y st => exact absurd ⟨h3, by rw [e]; simp⟩ h2
  · rfl

/-- What comes out at last. -/
def rwE (xs : List Int) (ws : ByteArray) : Option (List Int) := if isPerm xs = true ∧ ws.size = 2 * xs.length then (rwS xs ws ws.size).map (·.out) else none
def rwV (xs : List Int) (ws : ByteArray) : List Int := (rwE xs ws).getD []
def rwB (xs : List Int) (ws : ByteArray) : Bool := (rwE xs ws).isSome
theorem rwE_none {xs : List Int} {ws : ByteArray} (h : rwE xs ws = none) : rwV xs ws = [] ∧ rwB xs ws = false := by unfold rwV rwB; rw [h]; exact ⟨rfl, rfl⟩
theorem rwE_some {xs : List Int} {ws : ByteArray} {l : List Int} (h : rwE xs ws = some l) : rwV xs ws = l ∧ rwB xs ws = true := by unfold rwV rwB; rw [h]; exact ⟨rfl, rfl⟩
theorem rwE_perm {xs : List Int} {ws : ByteArray} (h : isPerm xs = false) : rwE xs ws = none := by unfold rwE; rw [if_neg (by rw [h]; simp)]
theorem rwE_size {xs : List Int} {ws : ByteArray} (h : ws.size ≠ 2 * xs.length) : rwE xs ws = none := by unfold rwE; rw [if_neg (fun e => h e.2)]
theorem rwE_bad {xs : List Int} {ws : ByteArray} {k : Nat} (hk : k ≤ ws.size) (h : rwS xs ws k = none) : rwE xs ws = none := by
  unfold rwE
  rw [rwS_none h hk]
  split <;> rfl
theorem rwE_end {xs : List Int} {ws : ByteArray} {s : WS} (hp : isPerm xs = true) (h : rwS xs ws ws.size = some s) (hs : ws.size = 2 * xs.length) : rwE xs ws = some s.out := by
  unfold rwE
  rw [if_pos ⟨hp, hs⟩, h]; rfl

end Go.Proofs.Ytiiijijbkacneaa

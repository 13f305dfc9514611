/- What the law of stacks asks: plain lists; small orders are gone through one by one. -/
import Derived.Test.YtiiijijbkacneaaRoundsL
import Derived.Test.YtiiijijbkacneaaCountL
namespace Go.Proofs.Ytiiijijbkacneaa
open Go.RowKit
set_option linter.unusedVariables false

def riseC : List Int → Bool
  | x :: y :: l => decide (x ≤ y) && riseC (y :: l)
  | _ => true
theorem riseC_iff : ∀ xs : List Int, riseC xs = true ↔ Rise xs
  | [] => ⟨fun _ i hi => by simp at hi, fun _ => rfl⟩
  | [x] => ⟨fun _ i hi => by simp at hi, fun _ => rfl⟩
  | x :: y :: l => by
    rw [riseC, Bool.and_eq_true, riseC_iff (y :: l)]
    constructor
    · rintro ⟨h1, h2⟩ i hi
      cases i with
      | zero => simpa [nth] using h1
      | succ i => exact h2 i (by simpa using hi)
    · intro h
      exact ⟨by simpa [nth] using h 0 (by simp), fun i hi => h (i + 1) (by simpa using hi)⟩
theorem riseC_B (xs : List Int) : riseB xs = riseC xs := by
  cases h : riseC xs
  · exact riseB_no (fun hr => by rw [(riseC_iff xs).2 hr] at h; cases h)
  · exact riseB_yes ((riseC_iff xs).1 h)
def canP : List Nat → List Nat → Bool
  | _, [] => true
  | pre, c :: r => !bad1 c pre && canP (pre ++ [c]) r
theorem CanS_nil : CanS (toI []) := fun i j k h1 h2 h3 => by simp at h3
theorem CanS_pre (pre rest : List Nat) (h : CanS (toI (pre ++ rest))) : CanS (toI pre) := fun i j k h1 h2 h3 hb => by
  have hk : k < pre.length := by simpa using h3
  refine h i j k h1 h2 (by simp; omega) ?_
  have e : ∀ t, t < pre.length → nth (toI (pre ++ rest)) t = nth (toI pre) t := fun t ht => by
    rw [nth_toI (by simp; omega), nth_toI ht, List.getElem_append_left ht]
  unfold Bad3 at *
  rw [e k hk, e i (by omega), e j (by omega)]; exact hb
theorem canP_iff : ∀ (rest pre : List Nat), CanS (toI pre) → (canP pre rest = true ↔ CanS (toI (pre ++ rest)))
  | [], pre, h => by simp [canP]; simpa using h
  | c :: r, pre, h => by
    rw [canP, Bool.and_eq_true]
    have e : pre ++ c :: r = (pre ++ [c]) ++ r := by simp
    constructor
    · rintro ⟨h1, h2⟩
      have h3 := (CanS_snoc pre c).2 ⟨h, by simpa using h1⟩
      rw [e]; exact (canP_iff r (pre ++ [c]) h3).1 h2
    · intro h1
      rw [e] at h1
      have h3 := CanS_pre _ _ h1
      exact ⟨by have := ((CanS_snoc pre c).1 h3).2; simp [this], (canP_iff r (pre ++ [c]) h3).2 h1⟩
theorem canP_B (l : List Nat) : canB (toI l) = canP [] l := by
  have h := canP_iff l [] CanS_nil
  cases hb : canP [] l
  · exact canB_no (fun hc => by rw [h.2 (by simpa using hc)] at hb; cases hb)
  · exact canB_yes (by simpa using h.1 hb)
def rndC : Nat → List Int → Option Nat
  | 0, xs => if riseC xs = true then some 0 else none
  | f + 1, xs => if riseC xs = true then some 0 else (rndC f (stF xs xs.length)).map (· + 1)
theorem rndC_spec : ∀ (f : Nat) (xs : List Int) (r : Nat), rndC f xs = some r → Rounds xs r ∧ r ≤ f := by
  intro f
  induction f with
  | zero =>
    intro xs r h
    rw [rndC] at h
    split at h
    · rename_i h1
      obtain rfl : 0 = r := by simpa using h
      exact ⟨⟨(riseC_iff xs).1 h1, fun k hk => by omega⟩, Nat.le_refl _⟩
    · cases h
  | succ f ih =>
    intro xs r h
    rw [rndC] at h
    split at h
    · rename_i h1
      obtain rfl : 0 = r := by simpa using h
      exact ⟨⟨(riseC_iff xs).1 h1, fun k hk => by omega⟩, Nat.zero_le _⟩
    · rename_i h1
      cases hs : rndC f (stF xs xs.length) with
      | none => rw [hs] at h; cases h
      | some s =>
        rw [hs] at h
        obtain rfl : s + 1 = r := by simpa using h
        obtain ⟨⟨h2, h3⟩, h4⟩ := ih _ _ hs
        refine ⟨⟨by rw [itS_front]; exact h2, fun k hk => ?_⟩, by omega⟩
        cases k with
        | zero => exact fun hr => h1 ((riseC_iff xs).2 hr)
        | succ k => rw [itS_front]; exact h3 k (by omega)

/-- All orders of n numbers, each put together out of the one without its greatest. -/
def allN : Nat → List (List Nat)
  | 0 => [[]]
  | n + 1 => (allN n).flatMap fun l => (List.range (n + 1)).map fun k => l.take k ++ n :: l.drop k
/- The same on natural numbers, for the reckoning. -/
def tkN (x : Nat) : List Nat → List Nat → List Nat × List Nat
  | out, [] => (out, [])
  | out, y :: st => match Nat.blt y x with
    | true => tkN x (out ++ [y]) st
    | false => (out, y :: st)
def stN : List Nat → List Nat → List Nat → List Nat
  | [], out, st => out ++ st
  | x :: r, out, st => match tkN x out st with
    | (o, s) => stN r o (x :: s)
def riseN : List Nat → Bool
  | x :: y :: l => match Nat.ble x y with
    | true => riseN (y :: l)
    | false => false
  | _ => true
def rndN : Nat → List Nat → Option Nat
  | 0, l => match riseN l with
    | true => some 0
    | false => none
  | f + 1, l => match riseN l with
    | true => some 0
    | false => match rndN f (stN l [] []) with
      | some r => some (r + 1)
      | none => none
theorem tkN_tkS (x : Nat) : ∀ (st out : List Nat), tkS (x : Int) (toI out) (toI st) = (toI (tkN x out st).1, toI (tkN x out st).2)
  | [], out => rfl
  | y :: st, out => by
    have hc : toI (y :: st) = (y : Int) :: toI st := rfl
    rw [hc, tkS, tkN]
    by_cases h : y < x
    · have hb : Nat.blt y x = true := by rw [Nat.blt_eq]; exact h
      rw [if_pos (by omega), hb]
      have := tkN_tkS x st (out ++ [y])
      rw [← this]; simp
    · have hb : Nat.blt y x = false := by
        cases h2 : Nat.blt y x
        · rfl
        · rw [Nat.blt_eq] at h2; exact absurd h2 h
      rw [if_neg (by omega), hb]; rfl
theorem stN_from (l : List Nat) : ∀ (r pre : List Nat) (o s : List Nat), l = pre ++ r → stS (toI l) pre.length = (toI o, toI s) → stF (toI l) l.length = toI (stN r o s)
  | [], pre, o, s, e, h => by
    rw [List.append_nil] at e
    subst e
    unfold stF; rw [h, stN]; simp
  | x :: r, pre, o, s, e, h => by
    have hx : nth (toI l) pre.length = (x : Int) := by
      rw [nth_toI (by rw [e]; simp)]
      simp [e]
    have h2 : stS (toI l) (pre ++ [x]).length = (toI (tkN x o s).1, toI (x :: (tkN x o s).2)) := by
      rw [List.length_append, List.length_singleton, stS, h, hx, tkN_tkS]; rfl
    rw [stN]
    exact stN_from l r (pre ++ [x]) _ _ (by rw [e]; simp) h2
theorem stN_stF (l : List Nat) : stF (toI l) l.length = toI (stN l [] []) := stN_from l l [] [] [] rfl rfl
theorem riseN_C : ∀ l : List Nat, riseC (toI l) = riseN l
  | [] => rfl
  | [x] => rfl
  | x :: y :: l => by
    have ih := riseN_C (y :: l)
    have e : riseC (toI (x :: y :: l)) = (decide ((x : Int) ≤ y) && riseC (toI (y :: l))) := rfl
    rw [e, ih, riseN]
    by_cases h : x ≤ y
    · have hb : Nat.ble x y = true := Nat.ble_eq_true_of_le h
      rw [decide_eq_true (by omega), hb]; rfl
    · have hb : Nat.ble x y = false := by
        cases h2 : Nat.ble x y
        · rfl
        · exact absurd (Nat.le_of_ble_eq_true h2) h
      rw [decide_eq_false (by omega), hb]; rfl
theorem rndN_C : ∀ (f : Nat) (l : List Nat), rndC f (toI l) = rndN f l
  | 0, l => by rw [rndC, rndN, riseN_C]; cases riseN l <;> rfl
  | f + 1, l => by
    rw [rndC, rndN, riseN_C]
    cases riseN l
    · have hl : (toI l).length = l.length := by simp
      rw [hl, stN_stF, rndN_C f]
      cases rndN f (stN l [] []) <;> rfl
    · rfl
def eqB : Bool → Bool → Bool
  | true, b => b
  | false, true => false
  | false, false => true
theorem eqB_eq {a b : Bool} (h : eqB a b = true) : a = b := by cases a <;> cases b <;> simp_all [eqB]
def lastN : List Nat → Nat
  | [] => 0
  | [x] => x
  | _ :: y :: l => lastN (y :: l)
def chkS (n : Nat) (l : List Nat) : Bool :=
  match stN l [] [] with
  | s => match canP [] l with
    | c => match eqB c (riseN s) with
      | false => false
      | true => match Nat.beq (lastN s) (n - 1) with
        | false => false
        | true => match rndN (n - 1) l with
          | some r => match eqB c (Nat.ble r 1) with
            | false => false
            | true => eqB (Nat.beq r 0) (riseN l)
          | none => false
def insN (l : List Nat) (k n : Nat) : List Nat := l.take k ++ n :: l.drop k
set_option maxRecDepth 1000000 in
theorem chkS_6 : (allN 6).all (chkS 6) = true := by decide +kernel

end Go.Proofs.Ytiiijijbkacneaa

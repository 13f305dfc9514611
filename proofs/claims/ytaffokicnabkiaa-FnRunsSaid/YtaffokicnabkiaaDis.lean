/- Measures of disorder: what the functions of the program and of the reference answer. No condition but lengths. -/
import Derived.Test.YtaffokicnabkiaaHelp
import Derived.Test.YtaffokicnabkiaaLong
namespace Go.Proofs.Ytaffokicnabkiaa
open Go.RowKit


theorem c_isTwelve (b : Bool) (a : Option Addr) (n cap : Nat) (w : World) (hb : decide (n ≤ 12) = b) : Calls Try.prog 43 #[.slice a n cap] w fun e w' => e = .returned (.bool b) ∧ w = w' := by
  have e : (decide ((n : Int) ≤ 12)) = b := by rw [← hb]; congr 1; simp; omega
  have E := Lib.hid e
  clear e hb
  go_enter Try.func43, Try.ntmps43
  go_wp2
  go_ret
  exact ⟨by rw [← E.out]; rfl, rfl⟩

def longV (f : Int → Int → Bool) (xs : List Int) : Int := if xs.length ≤ 12 then bestM f xs xs.length else -1






























































































def remV (xs : List Int) : Int := if xs.length ≤ 12 then (xs.length : Int) - bestM leB xs xs.length else -1































end Go.Proofs.Ytaffokicnabkiaa

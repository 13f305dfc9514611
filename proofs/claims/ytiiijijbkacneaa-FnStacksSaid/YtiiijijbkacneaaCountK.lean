/- How many orders a stack can sort: the numbers, by the kernel's own reckoning. -/
import Derived.Test.YtiiijijbkacneaaMem
namespace Go.Proofs.Ytiiijijbkacneaa

def bad1 (c : Nat) : List Nat → Bool
  | [] => false
  | a :: r => (Nat.blt c a && r.any (Nat.blt a)) || bad1 c r
def memB (c : Nat) : List Nat → Bool
  | [] => false
  | a :: r => Nat.beq a c || memB c r
def sumTo (g : Nat → Nat) : Nat → Nat
  | 0 => 0
  | k + 1 => sumTo g k + g k
def cntT (n : Nat) : Nat → List Nat → Nat
  | 0, _ => 1
  | f + 1, l => sumTo (fun c => if memB c l || bad1 c l then 0 else cntT n f (l ++ [c])) n
theorem cntT_0 : cntT 0 0 [] = 1 := by decide +kernel
theorem cntT_1 : cntT 1 1 [] = 1 := by decide +kernel
theorem cntT_2 : cntT 2 2 [] = 2 := by decide +kernel
theorem cntT_3 : cntT 3 3 [] = 5 := by decide +kernel
theorem cntT_4 : cntT 4 4 [] = 14 := by decide +kernel
theorem cntT_5 : cntT 5 5 [] = 42 := by decide +kernel
theorem cntT_6 : cntT 6 6 [] = 132 := by decide +kernel
theorem cntT_7 : cntT 7 7 [] = 429 := by decide +kernel
theorem cntT_8 : cntT 8 8 [] = 1430 := by decide +kernel

end Go.Proofs.Ytiiijijbkacneaa

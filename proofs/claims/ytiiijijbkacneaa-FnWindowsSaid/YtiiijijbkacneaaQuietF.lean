/- A region that draws its order: its first operations taken one after another, the rest walked quietly. No condition. -/
import Derived.Deep.Quiet
import Derived.BigQuiet
import Derived.Deep.RegionLaw
namespace Go.Proofs.Ytiiijijbkacneaa
open Go

theorem wpAny_quiet_from {P : Program} {md : Region.Mode} {L l : List Oper} (k : Nat) {C : World → Prop} {Q : Exit → Act → World → Prop} {fuel : Nat} {listed : Array Bool} {a : Act} {w : World}
    (hd : L.drop k = l) (hf : fuel = l.length) (hs : Region.noSelect L.toArray = true) (hB : Region.lexFrom md L.toArray l.length k listed = true) (hC : C w)
    (h : wpQuiet P L.toArray C (fun a' => ∀ w', C w' → Q .normal a' w') l a) : wpAny P md L.toArray Q fuel listed a w := by
  subst hf
  refine wpAny_of_quiet (Q := fun a' => ∀ w', C w' → Q .normal a' w') (fun _ w' hw' h => h w' hw') _ _ _ _ hC (wpAnyQ_lex hs l k listed a ?_ hB h)
  intro j
  subst hd
  simp

end Go.Proofs.Ytiiijijbkacneaa

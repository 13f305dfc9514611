/- The marks of records: the program. No condition but lengths. -/
import Derived.Test.YtaffokicnabkiaaEms
namespace Go.Proofs.Ytaffokicnabkiaa
open Go.RowKit
set_option linter.unusedVariables false

theorem Ow.halo {w : World} {T : TypeId} {g : Nat} {a : Option Addr} {n cap : Nat} {vs : List Value} (h : Ow w T [g] a n cap vs) : ∀ ad, a = some ad → ad.block < w.heap.size := fun ad had => by
  rcases h.2.2.2 with ⟨h1, _⟩ | ⟨g', cur, e, e', hg, _⟩
  · cases h1
  · rw [e'] at had
    simp only [Option.some.injEq] at had
    subst had
    exact (Array.getElem?_eq_some_iff.1 hg).1

set_option maxRecDepth 100000 in
set_option maxHeartbeats 1000000 in
theorem ci_MarksOf (a : Option Addr) (n cap : Nat) (xs : List Int) (s : Int) (w : World) (hr : RdI w a n cap xs) (halo : ∀ ad, a = some ad → ad.block < w.heap.size) :
    Calls Try.prog 7 #[.slice a n cap, .int .i64 s] w fun e w' => ∃ sa sn sc, e = .returned (.slice sa sn sc) ∧ OwI w' 3 w.heap.size sa sn sc (mkV xs s) ∧ sn ≤ 1048576 ∧ Below w.heap.size w w' := by
  have HL := Lib.hid hr.lens
  have hfl : ∀ (o l m d e : Value) (w : World), (Instr.field 41 (.agg #[o, l, m, d, e]) 2).run Try.prog w = .ok m w := fun _ _ _ _ _ _ => rfl
  cases hok : okL xs s
  · have HK := Lib.hid hok
    have HV := Lib.hid (okL_no hok)
    clear hok
    go_enter Try.func7, Try.ntmps7
    go_wp2_with (go_at_call 29; refine (ci_isLate a n cap xs s _ hr).mono ?_; rw [HK.out]; rintro e w1 ⟨rfl, hb⟩)
    go_ret
    exact ⟨none, 0, 0, rfl, by rw [HV.out]; exact ⟨[], Ow.bare _ _ _, fun _ h => by cases h⟩, by omega, hb⟩
  · have HK := Lib.hid hok
    have HV := Lib.hid (okL_yes hok).1
    have HT := Lib.hid (okTimesOk_at (okL_yes hok).2.1)
    have hs := (okL_yes hok).2.2
    clear hok
    have hn30 : n ≤ 30 := by rw [← HL.out]; exact HT.out.1
    go_enter Try.func7, Try.ntmps7
    go_wp2_with (first | (go_at_call 29; refine (ci_isLate a n cap xs s _ hr).mono ?_; rw [HK.out]; rintro e w1 ⟨rfl, hb1⟩) | (go_at_call 30; refine (c_emit a n cap xs s _ (hr.below hb1) hn30 HT.out.2 hs (fun ad had => Nat.lt_of_lt_of_le (halo ad had) hb1.size)).mono ?_; rintro e w2 ⟨o, l, d, mo, ka, kc, rfl, hod, hb2⟩))
    go_ret
    exact ⟨ka, n, kc, rfl, by rw [HV.out, HL.out]; exact hod.mono hb1.size, by omega, Below.nx hb1 hb2⟩

end Go.Proofs.Ytaffokicnabkiaa

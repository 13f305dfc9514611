/- The walks of statements of one shape, by a program of mine (gen.py), out of the contracts. No condition. -/
import Derived.Test.YtaffokicnabkiaaMrk
import Derived.Test.YtaffokicnabkiaaMko
namespace Go.Proofs.Ytaffokicnabkiaa
open Go.RowKit
set_option linter.unusedVariables false

set_option maxHeartbeats 1600000 in
theorem w_MarksOf (a0 : Option Addr) (n0 cap0 : Nat) (xs0 : List Int) (x1 : Int) (w : World) (hr0 : RdI w a0 n0 cap0 xs0) :
    Calls Try.prog 3 #[.slice a0 n0 cap0, .int .i64 x1] w fun e w' => e = .returned (.bool true) ∧ Below w.heap.size w w' := by
  by_cases hn0 : n0 ≤ 1048576
  case neg =>
    go_enter Try.func3, Try.ntmps3
    go_wp2
    go_ret
    exact ⟨rfl, Below.refl _ _⟩
  go_enter Try.func3, Try.ntmps3
  go_wp2_with fail
  refine (c_toIntS a0 n0 cap0 xs0 w (hr0.below (Below.refl _ _)) hn0).mono ?_
  rintro e w1 ⟨p0, rfl, owp0, b1⟩
  have B1 := Below.nx (Below.refl _ _) b1
  go_wp2_with fail
  refine (cs_MarksOf p0 n0 n0 xs0 x1 w1 owp0.rd).mono ?_
  rintro e w2 ⟨sa, ns, caps, rfl, rs, hns, b2⟩
  have B2 := Below.nx B1 b2
  go_wp2_with fail
  refine (c_toIntS a0 n0 cap0 xs0 w2 (hr0.below B2) hn0).mono ?_
  rintro e w3 ⟨x0, rfl, owx0, b3⟩
  have lt0 : w2.heap.size < w3.heap.size := owx0.old _ (by simp)
  have B3 := Below.nx B2 b3
  have C3 := b3
  go_wp2_with fail
  refine (ci_MarksOf x0 n0 n0 xs0 x1 w3 owx0.rd (Ow.halo owx0)).mono ?_
  rintro e w4 ⟨ai, ni, capi, rfl, ⟨Li, oi, nwi⟩, hni, b4⟩
  have B4 := Below.nx B3 b4
  have C4 := Below.nx C3 b4
  have owx0 := owx0.below b4
  go_wp2_with fail
  refine (c_eqIntS ai sa ni capi ns caps _ w4 oi.rd (rs.below C4) hni).mono ?_
  rintro e w5 ⟨rfl, b5⟩
  have B5 := Below.nx B4 b5
  have C5 := Below.nx C4 b5
  have owx0 := owx0.below b5
  have oi := oi.below b5
  go_wp2_with fail
  refine (c_toIntS a0 n0 cap0 xs0 w5 (hr0.below B5) hn0).mono ?_
  rintro e w6 ⟨y0, rfl, owy0, b6⟩
  have B6 := Below.nx B5 b6
  have C6 := Below.nx C5 b6
  have owx0 := owx0.below b6
  have oi := oi.below b6
  go_wp2_with fail
  refine (c_eqIntS x0 y0 n0 n0 n0 n0 xs0 w6 owx0.rd owy0.rd hn0).mono ?_
  rintro e w7 ⟨rfl, b7⟩
  have B7 := Below.nx B6 b7
  have C7 := Below.nx C6 b7
  have owx0 := owx0.below b7
  have oi := oi.below b7
  have o0 := owx0.old
  go_wp2_with fail
  refine (c_markIntS _ x0 n0 n0 xs0 (1) w7 owx0 hn0 (by omega) (by omega)).mono ?_
  rintro e w8 ⟨rfl, _, k8⟩
  have B8 : Below w.heap.size w w8 := k8.below B7 (fun i hi => by simp at hi; have := B2.size; have := Nat.le_refl w2.heap.size; omega) B7.size
  have C8 : Below w2.heap.size w2 w8 := k8.below C7 (fun i hi => by simp at hi; have := Nat.le_refl w2.heap.size; omega) C7.size
  have oi := oi.keep k8 (fun i hi hm => by have h1 := nwi i hi; simp at hm; have h2 := b3.size; have h3 := lt0; omega)
  go_wp2_with fail
  refine (c_eqIntS ai sa ni capi ns caps _ w8 oi.rd (rs.below C8) hni).mono ?_
  rintro e w9 ⟨rfl, b9⟩
  have B9 := Below.nx B8 b9
  have C9 := Below.nx C8 b9
  have oi := oi.below b9
  go_wp2_with fail
  refine (c_markIntS _ ai ni capi _ 1 w9 oi hni (by omega) (by omega)).mono ?_
  rintro e w10 ⟨rfl, om, k10⟩
  have B10 : Below w.heap.size w w10 := k10.below B9 (nwi.mono (by have := B3.size; omega)) B9.size
  have C10 : Below w2.heap.size w2 w10 := k10.below C9 (nwi.mono (by have := C3.size; omega)) C9.size
  go_wp2_with fail
  refine (c_heldIntS ai ni capi 1 w10 om.rd hni (by omega) (by omega)).mono ?_
  rintro e w11 ⟨rfl, b11⟩
  have B11 := Below.nx B10 b11
  have C11 := Below.nx C10 b11
  have om := om.below b11
  go_wp2_with fail
  refine (c_toIntS a0 n0 cap0 xs0 w11 (hr0.below B11) hn0).mono ?_
  rintro e w12 ⟨z0, rfl, owz0, b12⟩
  have B12 := Below.nx B11 b12
  have C12 := Below.nx C11 b12
  have om := om.below b12
  go_wp2_with fail
  refine (ci_MarksOf z0 n0 n0 xs0 x1 w12 owz0.rd (Ow.halo owz0)).mono ?_
  rintro e w13 ⟨ah, nh, caph, rfl, ⟨Lh, oh, nwh⟩, hnh, b13⟩
  have B13 := Below.nx B12 b13
  have C13 := Below.nx C12 b13
  have om := om.below b13
  go_wp2_with fail
  refine (c_eqIntS ah sa nh caph ns caps _ w13 oh.rd (rs.below C13) hnh).mono ?_
  rintro e w14 ⟨rfl, b14⟩
  have B14 := Below.nx B13 b14
  have C14 := Below.nx C13 b14
  have om := om.below b14
  go_wp2_with fail
  refine (c_heldIntS ai ni capi 1 w14 om.rd hni (by omega) (by omega)).mono ?_
  rintro e w15 ⟨rfl, b15⟩
  have B15 := Below.nx B14 b15
  have C15 := Below.nx C14 b15
  go_wp2_with fail
  go_ret
  exact ⟨rfl, B15⟩

end Go.Proofs.Ytaffokicnabkiaa

/- The walks of statements of one shape, by a program of mine (gen.py), out of the contracts. No condition. -/
import Derived.Test.YtbldkmojlmmfoaaShell
namespace Go.Proofs.Ytbldkmojlmmfoaa
open Go.RowKit
set_option linter.unusedVariables false

set_option maxHeartbeats 1600000 in
theorem w_ShellSort (a0 : Option Addr) (n0 cap0 : Nat) (xs0 : List Int) (a1 : Option Addr) (n1 cap1 : Nat) (xs1 : List Int) (w : World) (hr0 : RdI w a0 n0 cap0 xs0) (hr1 : RdI w a1 n1 cap1 xs1) :
    Calls Try.prog 13 #[.slice a0 n0 cap0, .slice a1 n1 cap1] w fun e w' => e = .returned (.bool true) ∧ Below w.heap.size w w' := by
  by_cases hn0 : n0 ≤ 1048576
  case neg =>
    go_enter Try.func13, Try.ntmps13
    go_wp2
    go_ret
    exact ⟨rfl, Below.refl _ _⟩
  by_cases hn1 : n1 ≤ 1048576
  case neg =>
    go_enter Try.func13, Try.ntmps13
    go_wp2
    go_ret
    exact ⟨rfl, Below.refl _ _⟩
  go_enter Try.func13, Try.ntmps13
  go_wp2_with fail
  refine (c_toIntS a0 n0 cap0 xs0 w (hr0.below (Below.refl _ _)) hn0).mono ?_
  rintro e w1 ⟨p0, rfl, owp0, b1⟩
  have B1 := Below.nx (Below.refl _ _) b1
  go_wp2_with fail
  refine (c_toIntS a1 n1 cap1 xs1 w1 (hr1.below B1) hn1).mono ?_
  rintro e w2 ⟨p1, rfl, owp1, b2⟩
  have B2 := Below.nx B1 b2
  have owp0 := owp0.below b2
  go_wp2_with fail
  refine (cs_ShellSort p0 n0 n0 xs0 p1 n1 n1 xs1 w2 owp0.rd owp1.rd).mono ?_
  rintro e w3 ⟨sa, ns, caps, rfl, rs, hns, b3⟩
  have B3 := Below.nx B2 b3
  go_wp2_with fail
  refine (c_toIntS a0 n0 cap0 xs0 w3 (hr0.below B3) hn0).mono ?_
  rintro e w4 ⟨x0, rfl, owx0, b4⟩
  have lt0 : w3.heap.size < w4.heap.size := owx0.old _ (by simp)
  have B4 := Below.nx B3 b4
  have C4 := b4
  go_wp2_with fail
  refine (c_toIntS a1 n1 cap1 xs1 w4 (hr1.below B4) hn1).mono ?_
  rintro e w5 ⟨x1, rfl, owx1, b5⟩
  have lt1 : w4.heap.size < w5.heap.size := owx1.old _ (by simp)
  have B5 := Below.nx B4 b5
  have C5 := Below.nx C4 b5
  have owx0 := owx0.below b5
  go_wp2_with fail
  refine (ci_ShellSort x0 n0 n0 xs0 x1 n1 n1 xs1 w5 owx0.rd owx1.rd hn1).mono ?_
  rintro e w6 ⟨ai, ni, capi, rfl, ⟨Li, oi, nwi⟩, hni, b6⟩
  have B6 := Below.nx B5 b6
  have C6 := Below.nx C5 b6
  have owx0 := owx0.below b6
  have owx1 := owx1.below b6
  go_wp2_with fail
  refine (c_eqIntS ai sa ni capi ns caps _ w6 oi.rd (rs.below C6) hni).mono ?_
  rintro e w7 ⟨rfl, b7⟩
  have B7 := Below.nx B6 b7
  have C7 := Below.nx C6 b7
  have owx0 := owx0.below b7
  have owx1 := owx1.below b7
  have oi := oi.below b7
  go_wp2_with fail
  refine (c_toIntS a0 n0 cap0 xs0 w7 (hr0.below B7) hn0).mono ?_
  rintro e w8 ⟨y0, rfl, owy0, b8⟩
  have B8 := Below.nx B7 b8
  have C8 := Below.nx C7 b8
  have owx0 := owx0.below b8
  have owx1 := owx1.below b8
  have oi := oi.below b8
  go_wp2_with fail
  refine (c_eqIntS x0 y0 n0 n0 n0 n0 xs0 w8 owx0.rd owy0.rd hn0).mono ?_
  rintro e w9 ⟨rfl, b9⟩
  have B9 := Below.nx B8 b9
  have C9 := Below.nx C8 b9
  have owx0 := owx0.below b9
  have owx1 := owx1.below b9
  have oi := oi.below b9
  go_wp2_with fail
  refine (c_toIntS a1 n1 cap1 xs1 w9 (hr1.below B9) hn1).mono ?_
  rintro e w10 ⟨y1, rfl, owy1, b10⟩
  have B10 := Below.nx B9 b10
  have C10 := Below.nx C9 b10
  have owx0 := owx0.below b10
  have owx1 := owx1.below b10
  have oi := oi.below b10
  go_wp2_with fail
  refine (c_eqIntS x1 y1 n1 n1 n1 n1 xs1 w10 owx1.rd owy1.rd hn1).mono ?_
  rintro e w11 ⟨rfl, b11⟩
  have B11 := Below.nx B10 b11
  have C11 := Below.nx C10 b11
  have owx0 := owx0.below b11
  have owx1 := owx1.below b11
  have oi := oi.below b11
  have o0 := owx0.old
  go_wp2_with fail
  refine (c_markIntS _ x0 n0 n0 xs0 (1) w11 owx0 hn0 (by omega) (by omega)).mono ?_
  rintro e w12 ⟨rfl, _, k12⟩
  have B12 : Below w.heap.size w w12 := k12.below B11 (fun i hi => by simp at hi; have := B3.size; have := Nat.le_refl w3.heap.size; omega) B11.size
  have C12 : Below w3.heap.size w3 w12 := k12.below C11 (fun i hi => by simp at hi; have := Nat.le_refl w3.heap.size; omega) C11.size
  have oi := oi.keep k12 (fun i hi hm => by have h1 := nwi i hi; simp at hm; have h2 := b4.size; have h3 := lt0; omega)
  have owx1 := owx1.keep k12 (fun i hi hm => by simp at hi hm; have h3 := lt0; omega)
  have o1 := owx1.old
  go_wp2_with fail
  refine (c_markIntS _ x1 n1 n1 xs1 (1 + n0) w12 owx1 hn1 (by omega) (by omega)).mono ?_
  rintro e w13 ⟨rfl, _, k13⟩
  have B13 : Below w.heap.size w w13 := k13.below B12 (fun i hi => by simp at hi; have := B3.size; have := C4.size; omega) B12.size
  have C13 : Below w3.heap.size w3 w13 := k13.below C12 (fun i hi => by simp at hi; have := C4.size; omega) C12.size
  have oi := oi.keep k13 (fun i hi hm => by have h1 := nwi i hi; simp at hm; have h2 := b5.size; have h3 := lt1; omega)
  go_wp2_with fail
  refine (c_eqIntS ai sa ni capi ns caps _ w13 oi.rd (rs.below C13) hni).mono ?_
  rintro e w14 ⟨rfl, b14⟩
  have B14 := Below.nx B13 b14
  have C14 := Below.nx C13 b14
  have oi := oi.below b14
  go_wp2_with fail
  refine (c_markIntS _ ai ni capi _ 1 w14 oi hni (by omega) (by omega)).mono ?_
  rintro e w15 ⟨rfl, om, k15⟩
  have B15 : Below w.heap.size w w15 := k15.below B14 (nwi.mono (by have := B5.size; omega)) B14.size
  have C15 : Below w3.heap.size w3 w15 := k15.below C14 (nwi.mono (by have := C5.size; omega)) C14.size
  go_wp2_with fail
  refine (c_heldIntS ai ni capi 1 w15 om.rd hni (by omega) (by omega)).mono ?_
  rintro e w16 ⟨rfl, b16⟩
  have B16 := Below.nx B15 b16
  have C16 := Below.nx C15 b16
  have om := om.below b16
  go_wp2_with fail
  refine (c_toIntS a0 n0 cap0 xs0 w16 (hr0.below B16) hn0).mono ?_
  rintro e w17 ⟨z0, rfl, owz0, b17⟩
  have B17 := Below.nx B16 b17
  have C17 := Below.nx C16 b17
  have om := om.below b17
  go_wp2_with fail
  refine (c_toIntS a1 n1 cap1 xs1 w17 (hr1.below B17) hn1).mono ?_
  rintro e w18 ⟨z1, rfl, owz1, b18⟩
  have B18 := Below.nx B17 b18
  have C18 := Below.nx C17 b18
  have owz0 := owz0.below b18
  have om := om.below b18
  go_wp2_with fail
  refine (ci_ShellSort z0 n0 n0 xs0 z1 n1 n1 xs1 w18 owz0.rd owz1.rd hn1).mono ?_
  rintro e w19 ⟨ah, nh, caph, rfl, ⟨Lh, oh, nwh⟩, hnh, b19⟩
  have B19 := Below.nx B18 b19
  have C19 := Below.nx C18 b19
  have om := om.below b19
  go_wp2_with fail
  refine (c_eqIntS ah sa nh caph ns caps _ w19 oh.rd (rs.below C19) hnh).mono ?_
  rintro e w20 ⟨rfl, b20⟩
  have B20 := Below.nx B19 b20
  have C20 := Below.nx C19 b20
  have om := om.below b20
  go_wp2_with fail
  refine (c_heldIntS ai ni capi 1 w20 om.rd hni (by omega) (by omega)).mono ?_
  rintro e w21 ⟨rfl, b21⟩
  have B21 := Below.nx B20 b21
  have C21 := Below.nx C20 b21
  go_wp2_with fail
  go_ret
  exact ⟨rfl, B21⟩

end Go.Proofs.Ytbldkmojlmmfoaa

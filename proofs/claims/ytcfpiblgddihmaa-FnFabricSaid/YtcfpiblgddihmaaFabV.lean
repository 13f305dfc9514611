/- The fabric's public functions. No condition but sizes. -/
import Derived.Test.YtcfpiblgddihmaaFabS
import Derived.Test.YtcfpiblgddihmaaPerm
import Derived.Test.YtcfpiblgddihmaaDis5
import Derived.Test.YtcfpiblgddihmaaRoundsL
import Derived.Test.YtcfpiblgddihmaaInB
namespace Go.Proofs.Ytcfpiblgddihmaa
open Go.RowKit
set_option linter.unusedVariables false
set_option linter.unusedSimpArgs false

def badBit (x : Int) : Bool := decide (x ≠ 0 ∧ x ≠ 1)

theorem c_areBits1 (x : Int) (w : World) : Calls Try.prog 43 #[.int .i64 x] w fun e w' => e = .returned (.bool (badBit x)) ∧ w = w' := by
  by_cases h0 : x = 0
  · subst h0
    go_enter Try.func43, Try.ntmps43
    go_wp2_with fail
    go_ret
    exact ⟨rfl, rfl⟩
  · by_cases h1 : x = 1
    · subst h1
      go_enter Try.func43, Try.ntmps43
      go_wp2_with fail
      go_ret
      exact ⟨rfl, rfl⟩
    · have HB := Lib.hid (show badBit x = true by simp [badBit, h0, h1])
      have z0 : (x == 0) = false := by simpa using h0
      have z1 : (x == 1) = false := by simpa using h1
      have z2 : (x != 0) = true := by simpa using h0
      have z3 : (x != 1) = true := by simpa using h1
      go_enter Try.func43, Try.ntmps43
      go_wp2_with fail
      go_ret
      exact ⟨by rw [HB.out]; simp [*], rfl⟩
theorem c_areBits (a : Option Addr) (m cap : Nat) (s : List Int) (w : World) (hr : RdI w a m cap s) (hb : bitsL s) (hm : m ≤ 100) :
    Calls Try.prog 27 #[.slice a m cap, .int .i64 m] w fun e w' => e = .returned (.bool true) ∧ Below w.heap.size w w' := by
  have HB := Lib.hid hb
  clear hb
  go_enter Try.func27, Try.ntmps27
  go_wp2_with fail
  refine (c_ContainsFunc 43 badBit (fun _ _ => by kernel_rfl) c_areBits1 a m cap s _ hr (by omega)).mono ?_
  rintro e w' ⟨⟨v, hv, rfl⟩, hb⟩
  have : v = false := by
    rw [hv, decide_eq_false_iff_not]
    rintro ⟨j, hj, h1⟩
    rcases HB.out j hj with e | e <;> rw [e] at h1 <;> simp [badBit] at h1
  subst this
  clear hv
  go_wp2_with fail
  go_ret
  exact ⟨rfl, hb⟩



theorem c_SettingsOk (d n m : Nat) (hd : Dep d n m) (a : Option Addr) (cap : Nat) (s : List Int) (w : World) (hr : RdI w a m cap s) (hb : bitsL s) :
    Calls Try.prog 10 #[.int .i64 n, .slice a m cap] w fun e w' => e = .returned (.bool true) ∧ Below w.heap.size w w' := by
  have hp := hd.pow
  have C1 := Lib.hid (fun wx => c_isPower n wx (by have := hd.sw; omega))
  have C2 := Lib.hid (fun wx => c_switchCount n m wx hd.sw)
  have C3 := Lib.hid (fun wx (hx : Below w.heap.size w wx) => c_areBits a m cap s wx (hr.below hx) hb (by omega))
  clear hp hd hb
  go_enter Try.func10, Try.ntmps10
  go_wp2_with fail
  refine (C1.out _).mono ?_
  rintro e w' ⟨rfl, rfl⟩
  go_wp2_with fail
  refine (C2.out _).mono ?_
  rintro e w1 ⟨rfl, b1⟩
  go_wp2_with fail
  refine (C3.out _ b1).mono ?_
  rintro e w2 ⟨rfl, b2⟩
  go_wp2_with fail
  go_ret
  exact ⟨rfl, Below.nx b1 b2⟩



theorem c_SwitchCount (d n m : Nat) (hd : Dep d n m) (w : World) :
    Calls Try.prog 11 #[.int .i64 n] w fun e w' => e = .returned (.int .i64 m) ∧ Below w.heap.size w w' := by
  have C1 := Lib.hid (fun wx => c_isPower n wx (by have := hd.sw; have := hd.pow; omega))
  have C2 := Lib.hid (fun wx => c_switchCount n m wx hd.sw)
  clear hd
  go_enter Try.func11, Try.ntmps11
  go_wp2_with fail
  refine (C1.out _).mono ?_
  rintro e w' ⟨rfl, rfl⟩
  go_wp2_with fail
  refine (C2.out _).mono ?_
  rintro e w1 ⟨rfl, b1⟩
  go_wp2_with fail
  go_ret
  exact ⟨rfl, b1⟩



theorem c_ApplyFabric (d n m : Nat) (hd : Dep d n m) (a la : Option Addr) (cap lc : Nat) (s l : List Int) (w : World) (hr : RdI w a m cap s) (hb : bitsL s) (hl : RdI w la n lc l) :
    Calls Try.prog 8 #[.int .i64 n, .slice a m cap, .slice la n lc] w fun e w' => ∃ oa oc, e = .returned (.tuple #[.slice oa n oc, .bool true]) ∧ OwI w' 3 w.heap.size oa n oc (fabM d s l) ∧ Below w.heap.size w w' := by
  have C1 := Lib.hid (c_SettingsOk d n m hd a cap s w hr hb)
  have C2 := Lib.hid (fun wx (hx : Below w.heap.size w wx) => c_fabD d n m hd a la cap lc s l wx (hr.below hx) hb (hl.below hx))
  have z : ((n : Int) == (n : Int)) = true := by simp
  clear hd hb
  go_enter Try.func8, Try.ntmps8
  go_wp2_with fail
  refine C1.out.mono ?_
  rintro e w1 ⟨rfl, b1⟩
  go_wp2_with fail
  refine (C2.out _ b1).mono ?_
  rintro e w2 ⟨oa, oc, rfl, ow, b2⟩
  go_wp2_with fail
  go_ret2
  exact ⟨oa, oc, rfl, ow.mono b1.size, Below.nx b1 b2⟩



theorem c_OrderOf (d n m : Nat) (hd : Dep d n m) (a : Option Addr) (cap : Nat) (s : List Int) (w : World) (hr : RdI w a m cap s) (hb : bitsL s) :
    Calls Try.prog 6 #[.int .i64 n, .slice a m cap] w fun e w' => ∃ oa oc, e = .returned (.slice oa n oc) ∧ OwI w' 3 w.heap.size oa n oc (fabM d s (rangeI n)) ∧ Below w.heap.size w w' := by
  have C1 := Lib.hid (c_SettingsOk d n m hd a cap s w hr hb)
  have C2 := Lib.hid (fun wx => c_wires n wx (by have := hd.pow; omega))
  have C3 := Lib.hid (fun (la : Option Addr) lc wx (hx : Below w.heap.size w wx) hl => c_fabD d n m hd a la cap lc s (rangeI n) wx (hr.below hx) hb hl)
  clear hd hb
  go_enter Try.func6, Try.ntmps6
  go_wp2_with fail
  refine C1.out.mono ?_
  rintro e w1 ⟨rfl, b1⟩
  go_wp2_with fail
  refine (C2.out _).mono ?_
  rintro e w2 ⟨la, lc, rfl, ⟨Ll, owl, _⟩, b2⟩
  have B2 := Below.nx b1 b2
  go_wp2_with fail
  refine (C3.out la lc _ B2 owl.rd).mono ?_
  rintro e w3 ⟨oa, oc, rfl, ow, b3⟩
  go_wp2_with fail
  go_ret
  exact ⟨oa, oc, rfl, ow.mono B2.size, Below.nx B2 b3⟩


theorem perm_of_order {o : List Int} {n : Nat} (h : Order o n) (h8 : n ≤ 8) : isPerm o = true :=
  isPerm_of (by rw [h.1]; exact h8) (fun j hj => by rw [h.1] at hj ⊢; exact h.2.1 j hj) (fun i j hij hj => by rw [h.1] at hj; exact h.2.2 i j hij hj)
theorem ok_of_order {o : List Int} {n : Nat} (h : Order o n) (h8 : n ≤ 8) : okTo o n n = true := by
  have := perm_of_order h h8
  simp [isPerm, h.1] at this
  exact this.2


theorem c_SettingsFor (d n m : Nat) (hd : Dep d n m) (a : Option Addr) (cap : Nat) (o : List Int) (w : World) (hr : RdI w a n cap o) (ho : Order o n) :
    Calls Try.prog 5 #[.slice a n cap] w fun e w' => ∃ sa sc s, e = .returned (.tuple #[.slice sa m sc, .bool true]) ∧ OwI w' 3 w.heap.size sa m sc s ∧ Good d o s ∧ Below w.heap.size w w' := by
  have hp := hd.pow
  have C1 := Lib.hid (fun wx => c_isPower n wx (by have := hd.sw; omega))
  have C2 := c_isOrder a n cap o w hr (by omega)
  rw [ok_of_order ho (by omega)] at C2
  have C2 := Lib.hid C2
  have C3 := Lib.hid (fun wx (hx : Below w.heap.size w wx) => c_settingsD d n m hd a cap o wx (hr.below hx) ho)
  clear hd hp ho
  go_enter Try.func5, Try.ntmps5
  go_wp2_with fail
  refine (C1.out _).mono ?_
  rintro e w' ⟨rfl, rfl⟩
  go_wp2_with fail
  refine C2.out.mono ?_
  rintro e w1 ⟨rfl, b1⟩
  go_wp2_with fail
  refine (C3.out _ b1).mono ?_
  rintro e w2 ⟨sa, sc, s, rfl, ow, hg, b2⟩
  have HG := Lib.hid hg
  clear hg
  go_wp2_with fail
  go_ret2
  exact ⟨sa, sc, s, rfl, ow.mono b1.size, HG.out, Below.nx b1 b2⟩



theorem c_InverseOrder (a : Option Addr) (n cap : Nat) (o : List Int) (w : World) (hr : RdI w a n cap o) (ho : Order o n) (h8 : n ≤ 8) :
    Calls Try.prog 12 #[.slice a n cap] w fun e w' => ∃ oa oc, e = .returned (.slice oa n oc) ∧ OwI w' 3 w.heap.size oa n oc (invT o n n) ∧ Below w.heap.size w w' := by
  have C1 := c_isShortOrder a n cap o w hr
  rw [perm_of_order ho h8] at C1
  have C1 := Lib.hid C1
  have C2 := Lib.hid (fun wx (hx : Below w.heap.size w wx) => c_inverse a n cap o wx (hr.below hx) (by omega) ho.2.1)
  clear ho
  go_enter Try.func12, Try.ntmps12
  go_wp2_with fail
  refine C1.out.mono ?_
  rintro e w1 ⟨rfl, b1⟩
  go_wp2_with fail
  refine (C2.out _ b1).mono ?_
  rintro e w2 ⟨oa, oc, rfl, ow, b2⟩
  go_wp2_with fail
  go_ret
  exact ⟨oa, oc, rfl, ow.mono b1.size, Below.nx b1 b2⟩


theorem rem_twoF (n : Nat) : Int.tmod (n : Int) 2 = ((n % 2 : Nat) : Int) := by
  rw [Int.tmod_eq_emod_of_nonneg (by omega)]; omega

theorem c_ParityOf (a : Option Addr) (n cap : Nat) (q : List Int) (w : World) (hr : RdI w a n cap q) (ho : Order q n) (h8 : n ≤ 8) :
    Calls Try.prog 13 #[.slice a n cap] w fun e w' => e = .returned (.int .i64 ((sumC q n % 2 : Nat) : Int)) ∧ Below w.heap.size w w' := by
  have C1 := c_isShortOrder a n cap q w hr
  rw [perm_of_order ho h8] at C1
  have C1 := Lib.hid C1
  clear ho
  go_enter Try.func13, Try.ntmps13
  go_wp2_with fail
  refine C1.out.mono ?_
  rintro e w1 ⟨rfl, b1⟩
  clear C1
  have C2 := Lib.hid (c_inversions a n cap q w1 (hr.below b1) (by omega))
  go_wp2_with fail
  refine C2.out.mono ?_
  rintro e w2 ⟨rfl, b2⟩
  clear C2
  obtain ⟨s, hs⟩ : ∃ s, sumC q n = s := ⟨_, rfl⟩
  obtain ⟨m, hm⟩ : ∃ m, s % 2 = m := ⟨_, rfl⟩
  have hr2 : Int.tmod (s : Int) 2 = (m : Int) := by rw [rem_twoF s, hm]
  have HM := Lib.hid (show sumC q n % 2 = m by rw [hs, hm])
  rw [hs]
  clear hs hm
  go_wp2_with fail
  go_ret
  exact ⟨ret_int (by rw [HM.out]), Below.nx b1 b2⟩


end Go.Proofs.Ytcfpiblgddihmaa

/- Lists drawn: any, nearly sorted. No condition but lengths. -/
import Derived.Test.YtaffokicnabkiaaDraw
import Derived.Test.YtaffokicnabkiaaSort2
import Derived.Deep.CutRange
namespace Go.Proofs.Ytaffokicnabkiaa
open Go.RowKit
set_option linter.unusedVariables false
set_option linter.unusedSimpArgs false

theorem c_Once (g : Nat) (a : Option Addr) (n cap : Nat) (bs : List Int) (w wr : World) (cu : Cu wr g a n cap) (hr : Rd w a n cap (bys bs)) (hb : Below w.heap.size w wr) (hg : w.heap.size ≤ g) (hn : n ≤ 1048576) (m : Nat) (h1 : 1 ≤ m) (h2 : m ≤ 256) :
    Calls Try.prog 63 #[.pointer (some ⟨g, 0, none⟩), .int .i64 m] wr fun e w' => ∃ x : Bool, e = .returned (.bool x) ∧ Cu w' g a n cap ∧ Keeps [g] wr w' := by
  have CB := Lib.hid (c_Below g a n cap bs w wr cu hr hb hg hn m h1 h2)
  go_enter Try.func63, Try.ntmps63
  go_wp2_with fail
  refine CB.out.mono ?_
  rintro e w2 ⟨x, rfl, hx, cu2, kp2⟩
  by_cases h0 : x = 0
  · subst h0
    go_wp2_with fail
    go_ret
    exact ⟨true, rfl, cu2, kp2⟩
  · have hz : ((x : Int) == 0) = false := by simp; omega
    go_wp2_with fail
    go_ret
    exact ⟨false, rfl, cu2, kp2⟩

set_option maxHeartbeats 1000000 in
theorem c_l02List (g : Nat) (a : Option Addr) (n cap : Nat) (bs : List Int) (w wa : World) (cu : Cu wa g a n cap) (hr : Rd w a n cap (bys bs)) (hb : Below w.heap.size w wa) (hg : w.heap.size ≤ g) (hn : n ≤ 1048576) (m : Nat) (hm : m ≤ 30) :
    Calls Try.prog 62 #[.pointer (some ⟨g, 0, none⟩), .int .i64 m] wa fun e w' => ∃ sa sc xs, e = .returned (.slice sa m sc) ∧ OwI w' 3 wa.heap.size sa m sc xs ∧ (∀ x ∈ xs, -3 ≤ x ∧ x ≤ 8) ∧ Cu w' g a n cap ∧ Below w.heap.size w w' ∧ wa.heap.size ≤ w'.heap.size := by
  have hgl := cu.lt
  have hsz := hb.size
  go_enter Try.func62, Try.ntmps62
  go_wp2
  go_loopw [5, 6] (fun l i wr => ∃ k : Nat, ∃ xs L la lc, k ≤ m ∧ i = .int .i64 k ∧ l = .slice la k lc ∧ Ow wr 3 L la k lc (ints xs) ∧ (∀ x ∈ xs, -3 ≤ x ∧ x ≤ 8) ∧ New wa.heap.size L ∧ Cu wr g a n cap ∧ Below w.heap.size w wr ∧ wa.heap.size ≤ wr.heap.size) (fun _ i _ => m - (intOf i).toNat)
  case atStart => exact ⟨0, [], [], _, _, by omega, rfl, rfl, Ow.bare _ _ _, (fun _ h => by cases h), fun _ h => (by cases h), cu.keep (Keeps.alloc [] _ _) (by simp), hb.alloc hsz _, by simp⟩
  case round =>
    obtain ⟨k, xs, L, la, lc, hk, rfl, rfl, ow, hbd, nw, cu1, hb1, hsw⟩ := hrel
    by_cases hlt : k < m
    · have CB := Lib.hid (c_Below g a n cap bs w wr cu1 hr hb1 hg hn 12 (by omega) (by omega) : Calls Try.prog 44 #[.pointer (some ⟨g, 0, none⟩), .int .i64 12] wr _)
      go_wp2_with fail
      refine CB.out.mono ?_
      rintro e w2 ⟨p, rfl, hp, cu2, kp2⟩
      have apg : Apart L [g] := fun i hi hm => by simp at hm; have := nw i hi; omega
      have ow2 := (ow.keep kp2 apg).alloc (.cells #[.int .i64 ((p : Int) - 3)] 3)
      have hs2 := kp2.size
      have hb2 : Below w.heap.size w w2 := kp2.below hb1 (fun i hi => by simp at hi; omega) hb1.size
      have HBD := Lib.hid hbd
      clear hbd
      go_wp2_with (at_builtin; refine wpList_app _ rfl _ _ 22 rfl 3 Try.underlying22 infoInt rfl rfl rfl ow2 (Rd.one _ _ _) (one_int _) (by omega) (by unfold maxLen; omega) ?_; intro a3 cap3 L3 w3 ow3 kp3 st3)
      rw [ints_snoc] at ow3
      have n3 : New wa.heap.size L3 := st3.new nw (by simp; omega)
      have b3 : Below w.heap.size w w3 := kp3.below (hb2.alloc hb2.size _) (nw.mono hsz) (by simp; have := hb2.size; omega)
      have cu3 := (cu2.keep (Keeps.alloc [] _ (.cells #[.int .i64 ((p : Int) - 3)] 3)) (by simp)).keep kp3 (fun h => by have := nw g h; omega)
      have hs3 := kp3.size
      simp at hs3
      go_roundw
      case rel => exact ⟨k + 1, xs ++ [(p : Int) - 3], L3, a3, cap3, by omega, by go_num, rfl, ow3, fun x hx => by
        rcases List.mem_append.1 hx with h | h
        · exact HBD.out x h
        · simp at h; omega, n3, cu3, b3, by omega⟩
      case measure => simp [intOf]; omega
    · obtain rfl : k = m := by omega
      go_wp2_with fail
      go_ret
      exact ⟨la, lc, xs, rfl, ⟨L, ow, nw⟩, hbd, cu1, hb1, hsw⟩


set_option maxRecDepth 1000000 in
set_option maxHeartbeats 2000000 in
theorem c_l25Draw (g : Nat) (a : Option Addr) (n cap : Nat) (bs : List Int) (w wa : World) (cu : Cu wa g a n cap) (hr : Rd w a n cap (bys bs)) (hb : Below w.heap.size w wa) (hg : w.heap.size ≤ g) (hn : n ≤ 1048576) :
    Calls Try.prog 37 #[.pointer (some ⟨g, 0, none⟩)] wa fun e w' => ∃ sa sn sc xs, e = .returned (.slice sa sn sc) ∧ sn ≤ 25 ∧ OwI w' 3 wa.heap.size sa sn sc xs ∧ Below w.heap.size w w' := by
  have hgl := cu.lt
  have hsz := hb.size
  have C1 := Lib.hid (c_Below g a n cap bs w wa cu hr hb hg hn 12 (by omega) (by omega) : Calls Try.prog 44 #[.pointer (some ⟨g, 0, none⟩), .int .i64 12] wa _)
  go_enter Try.func37, Try.ntmps37
  go_wp2_with fail
  refine C1.out.mono ?_
  rintro e w1 ⟨z, rfl, hz, cu1, kp1⟩
  have b1 : Below w.heap.size w w1 := kp1.below hb (fun i hi => by simp at hi; omega) hb.size
  have hs1 := kp1.size
  have C2 := Lib.hid (c_l02List g a n cap bs w w1 cu1 hr b1 hg hn z (by omega))
  go_wp2_with fail
  refine C2.out.mono ?_
  rintro e w2 ⟨la, lc, xs, rfl, ⟨L, ow, nw⟩, _, cu2, b2, hs12⟩
  have nwA : New wa.heap.size L := nw.mono hs1
  have C3 := Lib.hid (c_Once g a n cap bs w w2 cu2 hr b2 hg hn 2 (by omega) (by omega) : Calls Try.prog 63 #[.pointer (some ⟨g, 0, none⟩), .int .i64 2] w2 _)
  clear C1 C2 cu1 b1 nw
  go_wp2_with fail
  refine C3.out.mono ?_
  rintro e w3 ⟨bo, rfl, cu3, kp3⟩
  have apg : g ∉ L := fun h => by have := nwA g h; omega
  have ow3 := ow.keep kp3 (fun i hi hm => by simp at hm; subst hm; exact apg hi)
  have b3 : Below w.heap.size w w3 := kp3.below b2 (fun i hi => by simp at hi; omega) b2.size
  have hs13 : wa.heap.size ≤ w3.heap.size := by have := kp3.size; omega
  clear C3 ow b2 kp3 cu2
  go_upto_if 12 with (fail)
  go_cut [3] from 11 to 43 (fun l wc => ∃ la lc xs L, l = .slice la z lc ∧ Ow wc 3 L la z lc (ints xs) ∧ New wa.heap.size L ∧ Cu wc g a n cap ∧ Below w.heap.size w wc ∧ wa.heap.size ≤ wc.heap.size)
  case first =>
    cases bo
    · go_wp2_with fail
      go_meet
      exact ⟨la, lc, xs, L, rfl, ow3, nwA, cu3, b3, hs13⟩
    · have C4 := Lib.hid (c_l08Sort la z lc xs w3 ow3.rd (by omega))
      go_wp2_with fail
      refine C4.out.mono ?_
      rintro e w4 ⟨sa, sc, rfl, ⟨Ls, ows, nws⟩, b4⟩
      have hs3 := b3.size
      have hsa3 : wa.heap.size ≤ w3.heap.size := hs13
      have cu4 := cu3.keep (Keeps.of_below b4 []) (by simp)
      have nwS : New wa.heap.size Ls := nws.mono hsa3
      have b5 := Below.nx b3 b4
      have hs14 : wa.heap.size ≤ w4.heap.size := by have := b4.size; omega
      generalize sortTo ltI xs z = ys at *
      clear C4 ow3 cu3 b3 b4 nws
      go_wp2_with fail
      go_loopw [5, 6, 17] (fun _ _ i wr => ∃ t : Nat, ∃ ys, t ≤ z ∧ i = .int .i64 t ∧ Ow wr 3 Ls sa z sc (ints ys) ∧ Cu wr g a n cap ∧ Below w.heap.size w wr ∧ wa.heap.size ≤ wr.heap.size) (fun _ _ i _ => z - (intOf i).toNat)
      case atStart => exact ⟨0, ys, by omega, rfl, ows, cu4, b5, hs14⟩
      case round =>
        clear ows cu4 b5 ys
        obtain ⟨t, ys, ht, rfl, ow, cu5, b5, hs5⟩ := hrel
        by_cases hlt : t < z
        · have C5 := Lib.hid (c_Below g a n cap bs w wr cu5 hr b5 hg hn 3 (by omega) (by omega) : Calls Try.prog 44 #[.pointer (some ⟨g, 0, none⟩), .int .i64 3] wr _)
          go_wp2_with fail
          refine C5.out.mono ?_
          rintro e w6 ⟨p, rfl, hp, cu6, kp6⟩
          have apS : g ∉ Ls := fun h => by have := nwS g h; omega
          have ow6 := ow.keep kp6 (fun i hi hm => by simp at hm; subst hm; exact apS hi)
          have b6 : Below w.heap.size w w6 := kp6.below b5 (fun i hi => by simp at hi; omega) b5.size
          obtain ⟨gs, rfl, rfl, hgs, hoc, hof⟩ := ow6.int (by have := ow6.le; omega)
          have hne : gs ≠ g := fun e => apS (by simp [e])
          have hgs2 : w.heap.size ≤ gs := by have := nwS gs (by simp); omega
          have hle := ow6.le
          have hmx := ow6.max
          unfold maxLen at hmx
          have hs6 : wa.heap.size ≤ w6.heap.size := by have := kp6.size; omega
          have fin : ∀ q : Nat, q < z → Ow ((w6.setCell ⟨gs, t, none⟩ (.int .i64 (nth ys q))).setCell ⟨gs, q, none⟩ (.int .i64 (nth ys t))) 3 [gs] (some ⟨gs, 0, none⟩) z sc (ints ((ys.set t (nth ys q)).set q (nth ys t))) ∧ Cu ((w6.setCell ⟨gs, t, none⟩ (.int .i64 (nth ys q))).setCell ⟨gs, q, none⟩ (.int .i64 (nth ys t))) g a n cap ∧ Below w.heap.size w ((w6.setCell ⟨gs, t, none⟩ (.int .i64 (nth ys q))).setCell ⟨gs, q, none⟩ (.int .i64 (nth ys t))) := fun q hq => by
            refine ⟨?_, (cu6.keep (Keeps.setCell _ gs t _) (by simp; omega)).keep (Keeps.setCell _ gs q _) (by simp; omega), (b6.setCell hgs2 _).setCell hgs2 _⟩
            have h := (ow6.set t (.int .i64 (nth ys q))).set q (.int .i64 (nth ys t))
            rw [ints_set, ints_set] at h
            exact h
          have FIN := Lib.hid fin
          have d1 := hoc t hlt
          have f1 := hof t
          clear C5 ow cu5 b5 fin
          rcases (show (z : Int) - 1 < (t : Int) + p ∨ ((t : Int) + p < (z : Int) - 1 ∧ 0 < p) ∨ ((t : Int) + p < (z : Int) - 1 ∧ p = 0) ∨ ((t : Int) + p = (z : Int) - 1 ∧ 0 < p) ∨ ((t : Int) + p = (z : Int) - 1 ∧ p = 0) by omega) with hc | ⟨hc, hp0⟩ | ⟨hc, hp0⟩ | ⟨hc, hp0⟩ | ⟨hc, hp0⟩
          · have hF := Lib.hid (FIN.out (z - 1) (by omega))
            by_cases hqt : t = z - 1
            · have hF := Lib.hid (FIN.out t hlt)
              obtain rfl : z = t + 1 := by omega
              clear hoc hof FIN hqt
              go_wp2_with fail
              go_roundw
              case rel => first | exact ⟨t + 1, (ys.set t (nth ys (t))).set (t) (nth ys t), by omega, by go_num, hF.out.1, hF.out.2.1, hF.out.2.2, by simp; omega⟩ | ((repeat apply Exists.intro); exact ⟨⟨t + 1, (ys.set t (nth ys (t))).set (t) (nth ys t), by omega, by go_num, hF.out.1, hF.out.2.1, hF.out.2.2, by simp; omega⟩, rfl⟩)
              case measure => simp [intOf] <;> omega
            · have hqt2 : z - 1 ≠ t := fun e => hqt e.symm
              have d2 := hoc (z - 1) (by omega)
              have f2 := hof (z - 1)
              clear hoc hof FIN
              go_wp2_with fail
              go_roundw
              case rel => first | exact ⟨t + 1, (ys.set t (nth ys (z - 1))).set (z - 1) (nth ys t), by omega, by go_num, hF.out.1, hF.out.2.1, hF.out.2.2, by simp; omega⟩ | ((repeat apply Exists.intro); exact ⟨⟨t + 1, (ys.set t (nth ys (z - 1))).set (z - 1) (nth ys t), by omega, by go_num, hF.out.1, hF.out.2.1, hF.out.2.2, by simp; omega⟩, rfl⟩)
              case measure => simp [intOf] <;> omega
          · have hF := Lib.hid (FIN.out (t + p) (by omega))
            have d2 := hoc (t + p) (by omega)
            have f2 := hof (t + p)
            have hqt : t ≠ t + p := by omega
            have hqt2 : t + p ≠ t := by omega
            clear hoc hof FIN
            go_wp2_with fail
            go_roundw
            case rel => first | exact ⟨t + 1, (ys.set t (nth ys (t + p))).set (t + p) (nth ys t), by omega, by go_num, hF.out.1, hF.out.2.1, hF.out.2.2, by simp; omega⟩ | ((repeat apply Exists.intro); exact ⟨⟨t + 1, (ys.set t (nth ys (t + p))).set (t + p) (nth ys t), by omega, by go_num, hF.out.1, hF.out.2.1, hF.out.2.2, by simp; omega⟩, rfl⟩)
            case measure => simp [intOf] <;> omega
          · subst hp0
            have hF := Lib.hid (FIN.out (t) (by omega))
            clear hoc hof FIN
            go_wp2_with fail
            go_roundw
            case rel => first | exact ⟨t + 1, (ys.set t (nth ys (t))).set (t) (nth ys t), by omega, by go_num, hF.out.1, hF.out.2.1, hF.out.2.2, by simp; omega⟩ | ((repeat apply Exists.intro); exact ⟨⟨t + 1, (ys.set t (nth ys (t))).set (t) (nth ys t), by omega, by go_num, hF.out.1, hF.out.2.1, hF.out.2.2, by simp; omega⟩, rfl⟩)
            case measure => simp [intOf] <;> omega
          · obtain rfl : z = t + p + 1 := by omega
            have hF := Lib.hid (FIN.out (t + p) (by omega))
            have d2 := hoc (t + p) (by omega)
            have f2 := hof (t + p)
            have hqt : t ≠ t + p := by omega
            have hqt2 : t + p ≠ t := by omega
            clear hoc hof FIN hc
            go_wp2_with fail
            go_roundw
            case rel => first | exact ⟨t + 1, (ys.set t (nth ys (t + p))).set (t + p) (nth ys t), by omega, by go_num, hF.out.1, hF.out.2.1, hF.out.2.2, by simp; omega⟩ | ((repeat apply Exists.intro); exact ⟨⟨t + 1, (ys.set t (nth ys (t + p))).set (t + p) (nth ys t), by omega, by go_num, hF.out.1, hF.out.2.1, hF.out.2.2, by simp; omega⟩, rfl⟩)
            case measure => simp [intOf] <;> omega
          · subst hp0
            obtain rfl : z = t + 1 := by omega
            have hF := Lib.hid (FIN.out (t) (by omega))
            clear hoc hof FIN hc
            go_wp2_with fail
            go_roundw
            case rel => first | exact ⟨t + 1, (ys.set t (nth ys (t))).set (t) (nth ys t), by omega, by go_num, hF.out.1, hF.out.2.1, hF.out.2.2, by simp; omega⟩ | ((repeat apply Exists.intro); exact ⟨⟨t + 1, (ys.set t (nth ys (t))).set (t) (nth ys t), by omega, by go_num, hF.out.1, hF.out.2.1, hF.out.2.2, by simp; omega⟩, rfl⟩)
            case measure => simp [intOf] <;> omega
        · obtain rfl : t = z := by omega
          go_wp2_with fail
          go_meet
          exact ⟨sa, sc, ys, Ls, rfl, ow, nwS, cu5, b5, hs5⟩
  case rest =>
    obtain ⟨la, lc, xs, L, rfl, ow, nw, cu4, b4, hs4⟩ := hcut
    obtain ⟨wd, rfl⟩ : ∃ wd : World, wd = wc := ⟨_, rfl⟩
    have C6 := Lib.hid (c_Once g a n cap bs w wd cu4 hr b4 hg hn 14 (by omega) (by omega) : Calls Try.prog 63 #[.pointer (some ⟨g, 0, none⟩), .int .i64 14] wd _)
    go_wp2_with fail
    refine C6.out.mono ?_
    rintro e w5 ⟨bo, rfl, cu5, kp5⟩
    have apL : g ∉ L := fun h => by have := nw g h; omega
    have ow5 := ow.keep kp5 (fun i hi hm => by simp at hm; subst hm; exact apL hi)
    have b5 : Below w.heap.size w w5 := kp5.below b4 (fun i hi => by simp at hi; omega) b4.size
    have hs5 := kp5.size
    cases bo
    · go_wp2_with fail
      go_ret
      exact ⟨la, z, lc, xs, rfl, by omega, ⟨L, ow5, nw⟩, b5⟩
    · have C7 := Lib.hid (c_Below g a n cap bs w w5 cu5 hr b5 hg hn 3 (by omega) (by omega) : Calls Try.prog 44 #[.pointer (some ⟨g, 0, none⟩), .int .i64 3] w5 _)
      go_wp2_with fail
      refine C7.out.mono ?_
      rintro e w6 ⟨p, rfl, hp, cu6, kp6⟩
      have b6 : Below w.heap.size w w6 := kp6.below b5 (fun i hi => by simp at hi; omega) b5.size
      obtain ⟨s, hs, hs25⟩ : ∃ s : Nat, (23 : Int) + (p : Int) = (s : Int) ∧ s ≤ 25 := ⟨23 + p, by omega, by omega⟩
      have HS := Lib.hid hs
      clear hs
      have C8 := Lib.hid (c_l02List g a n cap bs w w6 cu6 hr b6 hg hn s (by omega))
      have hsz6 : wa.heap.size ≤ w6.heap.size := by have := kp6.size; omega
      go_wp2_with fail
      rw [HS.out]
      refine C8.out.mono ?_
      rintro e w7 ⟨na, nc, ys, rfl, ⟨L7, ow7, nw7⟩, _, _, b7, _⟩
      go_wp2_with fail
      go_ret
      exact ⟨na, s, nc, ys, rfl, hs25, ⟨L7, ow7, nw7.mono hsz6⟩, b7⟩



set_option maxHeartbeats 1000000 in
theorem c_MakeNear (a : Option Addr) (n cap : Nat) (bs : List Int) (m : Nat) (w : World) (hr : Rd w a n cap (bys bs)) (hn : n ≤ 1048576) (hm : m ≤ 1000) :
    Calls Try.prog 17 #[.slice a n cap, .int .i64 m] w fun e w' => ∃ sa sn sc xs, e = .returned (.slice sa sn sc) ∧ sn ≤ 12 ∧ OwI w' 3 w.heap.size sa sn sc xs ∧ Below w.heap.size w w' := by
  have CN := Lib.hid (c_l31New a n cap bs m w hr hn hm)
  go_enter Try.func17, Try.ntmps17
  go_wp2_with fail
  refine CN.out.mono ?_
  rintro e w1 ⟨g, rfl, hg, cu, b1⟩
  have CD := Lib.hid (c_l25Draw g a n cap bs w w1 cu hr b1 hg hn)
  go_wp2_with fail
  refine CD.out.mono ?_
  rintro e w2 ⟨la, ln, lc, xs, rfl, hln, ⟨L, ow, nw⟩, b2⟩
  have hle := ow.le
  have hmx := ow.max
  unfold maxLen at hmx
  have hs1 := b1.size
  by_cases h12 : 12 < ln
  · have h12' : ¬ ln < 12 := by omega
    go_wp2_with ((with_reducible show wpList _ _ _ (⟨some 14, _, _, _, _, _⟩ :: _) _ _); refine wpList_upto _ rfl _ _ 22 rfl 3 Try.underlying22 szInt 12 rfl rfl rfl (by omega) ?_)
    go_ret
    have h := ow.head 12 (by omega)
    rw [ints_take] at h
    exact ⟨la, 12, lc, xs.take 12, rfl, by omega, ⟨L, h, nw.mono hs1⟩, b2⟩
  · by_cases he : ln = 12
    · subst he
      go_wp2_with ((with_reducible show wpList _ _ _ (⟨some 14, _, _, _, _, _⟩ :: _) _ _); refine wpList_upto _ rfl _ _ 22 rfl 3 Try.underlying22 szInt 12 rfl rfl rfl (by omega) ?_)
      go_ret
      exact ⟨la, 12, lc, xs, rfl, by omega, ⟨L, ow, nw.mono hs1⟩, b2⟩
    · have h12' : ln < 12 := by omega
      go_wp2_with ((with_reducible show wpList _ _ _ (⟨some 14, _, _, _, _, _⟩ :: _) _ _); refine wpList_upto _ rfl _ _ 22 rfl 3 Try.underlying22 szInt ln rfl rfl rfl (by omega) ?_)
      go_ret
      exact ⟨la, ln, lc, xs, rfl, by omega, ⟨L, ow, nw.mono hs1⟩, b2⟩


end Go.Proofs.Ytaffokicnabkiaa

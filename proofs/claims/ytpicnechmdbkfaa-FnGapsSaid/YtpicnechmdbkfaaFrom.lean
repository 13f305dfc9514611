/- FromCounts, the reference's and the program's. No condition but lengths, and that the numbers are of 64 bits. -/
import Derived.Test.YtpicnechmdbkfaaFromL
import Derived.Test.YtpicnechmdbkfaaDis5
import Derived.Test.YtpicnechmdbkfaaDel
namespace Go.Proofs.Ytpicnechmdbkfaa
open Go.RowKit



















theorem frB_no (cs : List Int) (n : Nat) (hl : cs.length = n) (h : ¬ (n ≤ 12 ∧ validC cs n)) : frL cs = [] ∧ frB cs = false := by
  subst hl; exact ⟨by unfold frL; rw [if_neg h], by unfold frB; rw [if_neg h]⟩
theorem frB_yes (cs : List Int) (n : Nat) (hl : cs.length = n) (h : n ≤ 12 ∧ validC cs n) : frL cs = outT cs n ∧ frB cs = true := by
  subst hl; exact ⟨by unfold frL; rw [if_pos h], by unfold frB; rw [if_pos h]⟩

























































































































set_option maxHeartbeats 1600000 in
theorem ci_FromCounts (a : Option Addr) (n cap : Nat) (xs : List Int) (w : World) (hr : RdI w a n cap xs) (hwf : WfI xs) :
    Calls Try.prog 22 #[.slice a n cap] w fun e w' => ∃ sa sn sc, e = .returned (.tuple #[.slice sa sn sc, .bool (frB xs)]) ∧ OwI w' 3 w.heap.size sa sn sc (frL xs) ∧ sn ≤ 1048576 ∧ Below w.heap.size w w' := by
  have hl := Lib.hid hr.lens
  have HW := Lib.hid hwf
  clear hwf
  by_cases h12 : n ≤ 12
  case neg =>
    have hno := frB_no xs n hl.out (fun h => h12 h.1)
    have HN := Lib.hid hno
    clear hno
    go_enter Try.func22, Try.ntmps22
    go_wp2_with (go_at_call 37; refine (c_isTwelve false _ _ _ _ (by simpa using h12)).mono ?_; rintro e w' ⟨rfl, rfl⟩)
    go_ret2
    exact ⟨_, _, _, by rw [HN.out.2]; rfl, by rw [HN.out.1]; exact ⟨[], Ow.bare _ _ _, fun _ h => by cases h⟩, by omega, Below.refl _ _⟩
  have hmk := run_make_row' (P := Try.prog) 23 3 (.int .i64 0) 8 Try.underlying23 infoInt rfl .i64 .i64 n (by omega) (by omega)
  go_enter Try.func22, Try.ntmps22
  go_wp2_with (go_at_call 37; refine (c_isTwelve true _ _ _ _ (by simpa using h12)).mono ?_; rintro e w' ⟨rfl, rfl⟩)
  refine (c_wires n _ (by omega)).mono ?_
  rintro e w1 ⟨al, lc, rfl, ⟨L, ho, hnew⟩, hb1⟩
  have hz1 := hb1.size
  have hr1 := hr.below hb1
  go_wp2_with fail
  have hown : Ow (w1.alloc (.cells (madeCells #[.int .i64 0] n) 3)) 3 [w1.heap.size] (some ⟨w1.heap.size, 0, none⟩) n n (ints (List.replicate n 0)) := Ow.new' _ _ _ _ _ (size_madeCells _ _) (by rw [toList_madeCells_one]; simp) (by unfold maxLen; omega)
  have hap : Apart L [w1.heap.size] := Apart.of_new ho.old (fun i hi => by simp at hi; omega)
  have hold := ho.old
  go_loopw [4, 6] (fun l i wr => ∃ k m : Nat, ∃ O : List Int, k + m = n ∧ i = .int .i64 ((m : Int) - 1) ∧ l = .slice al m lc ∧ (∀ p, m ≤ p → p < n → 0 ≤ nth xs p ∧ nth xs p ≤ p) ∧ O.length = n ∧ (∀ p, m ≤ p → p < n → nth O p = nth (outT xs n) p) ∧ Ow wr 3 L al m lc (ints (leftK xs n k)) ∧ Ow wr 3 [w1.heap.size] (some ⟨w1.heap.size, 0, none⟩) n n (ints O) ∧ Below w.heap.size w wr ∧ w1.heap.size < wr.heap.size) (fun _ i _ => (intOf i + 1).toNat)
  case atStart => exact ⟨0, n, _, by omega, by simp, rfl, fun p h1 h2 => by omega, by simp, fun p h1 h2 => by omega, ho.alloc _, hown, hb1.alloc hz1 _, by simp⟩
  case round =>
    obtain ⟨k, m, O, hkm, rfl, rfl, hval, hOl, hO, hol, hoo, hb, hsz⟩ := hrel
    have HV := Lib.hid hval
    have HO := Lib.hid hO
    have HOL := Lib.hid hOl
    clear hval hO hOl
    by_cases hm0 : m = 0
    · subst hm0
      have hyes := frB_yes xs n hl.out ⟨h12, fun i hi => HV.out i (by omega) hi⟩
      have HY := Lib.hid hyes
      clear hyes
      have hu : O = outT xs n := ext_nth (by rw [HOL.out, outT_len]) (fun i hi => HO.out i (by omega) (by rw [HOL.out] at hi; exact hi))
      have HU := Lib.hid hu
      clear hu
      go_wp2_with fail
      go_ret2
      exact ⟨_, _, _, by rw [HY.out.2]; rfl, by rw [HY.out.1, ← HU.out]; exact ⟨_, hoo, fun i hi => by simp at hi; omega⟩, by omega, hb⟩
    · obtain ⟨i, rfl⟩ : ∃ i, m = i + 1 := ⟨m - 1, by omega⟩
      have hbw := HW.out (nth xs i) (nth_mem (by rw [hl.out]; omega))
      obtain ⟨b, off, rfl, hbl, hc⟩ := (hr.below hb).int (by omega)
      have c1 := hc i (by omega)
      clear hc
      by_cases hneg : nth xs i < 0
      · have hno := frB_no xs n hl.out (fun h => by have := h.2 i (by omega); omega)
        have HN := Lib.hid hno
        clear hno
        go_wp2_with fail
        go_ret2
        exact ⟨_, _, _, by rw [HN.out.2]; rfl, by rw [HN.out.1]; exact ⟨[], Ow.bare _ _ _, fun _ h => by cases h⟩, by omega, hb⟩
      · by_cases hbig : (i : Int) < nth xs i
        · have hno := frB_no xs n hl.out (fun h => by have := h.2 i (by omega); omega)
          have HN := Lib.hid hno
          clear hno
          go_wp2_with fail
          go_ret2
          exact ⟨_, _, _, by rw [HN.out.2]; rfl, by rw [HN.out.1]; exact ⟨[], Ow.bare _ _ _, fun _ h => by cases h⟩, by omega, hb⟩
        · obtain ⟨v, hv⟩ : ∃ v : Nat, nth xs i = v := ⟨(nth xs i).toNat, by omega⟩
          have hg : goes xs i = i - v := by unfold goes; rw [hv]; rfl
          rw [hv] at c1
          have hvk : v ≤ i := by omega
          have HVV := Lib.hid hv
          have HG := Lib.hid hg
          clear hv hg hneg hbig hbw
          obtain ⟨gl, hL, rfl, hgl, hlc, _⟩ := hol.int (by have := hol.le; omega)
          have c2 := hlc (i - v) (by omega)
          obtain ⟨g, e1, _, hgo, hoc2, hof2⟩ := hoo.int (by omega)
          obtain rfl : w1.heap.size = g := by simpa using e1
          have c3 := hoc2 i (by omega)
          have f3 := hof2 i
          clear hlc hoc2 hof2 e1
          go_wp2_with fail
          have ee : ((i : Int) - (v : Int)) = ((i - v : Nat) : Int) := by omega
          rw [ee]
          have ks := Keeps.setCell wr w1.heap.size i (.int .i64 (nth (leftK xs n k) (i - v)))
          have hol2 := hol.keep ks hap
          have hoo2 := hoo.set i (.int .i64 (nth (leftK xs n k) (i - v)))
          rw [ints_set] at hoo2
          refine (c_Delete L (some ⟨gl, 0, none⟩) (i + 1) lc (i - v) _ _ hol2 (by omega) (by omega)).mono ?_
          rintro e w2 ⟨rfl, hol3, kp3⟩
          have hoo3 := hoo2.keep kp3 hap.symm
          have hb2 : Below w.heap.size w (wr.setCell ⟨w1.heap.size, i, none⟩ (.int .i64 (nth (leftK xs n k) (i - v)))) := hb.setCell (by show w.heap.size ≤ w1.heap.size; omega) _
          have hb3 : Below w.heap.size w w2 := kp3.below hb2 hnew hb2.size
          have hs2 := kp3.size
          have elast : n - 1 - k = i := by omega
          have egoes := HG.out
          have eO : nth (outT xs n) i = nth (leftK xs n k) (i - v) := by rw [outT_nth xs n i (by omega), show n - 1 - i = k by omega, egoes]
          have EO := Lib.hid eO
          have EL := Lib.hid elast
          clear eO elast egoes
          rw [Nat.add_sub_cancel] at hol3 ⊢
          go_wp2_with fail
          go_roundw
          case rel =>
            refine ⟨k + 1, i, O.set i (nth (leftK xs n k) (i - v)), by omega, by go_num, rfl, fun p h1 h2 => ?_, by simpa using HOL.out, fun p h1 h2 => ?_, ?_, hoo3, hb3, by simp at hs2; omega⟩
            · rcases Nat.lt_or_ge i p with h | h
              · exact HV.out p (by omega) h2
              · obtain rfl : p = i := by omega
                rw [HVV.out]; omega
            · have hOL := HOL.out
              rcases Nat.lt_or_ge i p with h | h
              · rw [← HO.out p (by omega) h2]
                simp [nth, List.getD, List.getElem?_set_ne (show i ≠ p by omega)]
              · obtain rfl : p = i := by omega
                rw [EO.out]
                unfold nth
                simp [List.getD, List.getElem?_set_self (show p < O.length by omega)]
            · rw [leftK, EL.out, HG.out]
              exact hol3
          case measure => simp [intOf]

end Go.Proofs.Ytpicnechmdbkfaa

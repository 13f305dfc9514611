/- Lists drawn: any, nearly sorted. No condition but lengths. -/
import Derived.Test.YtcfpiblgddihmaaDraw
import Derived.Test.YtcfpiblgddihmaaSort2
import Derived.Deep.CutRange
namespace Go.Proofs.Ytcfpiblgddihmaa
open Go.RowKit
set_option linter.unusedVariables false
set_option linter.unusedSimpArgs false


















set_option maxHeartbeats 1000000 in
theorem c_l02List (g : Nat) (a : Option Addr) (n cap : Nat) (bs : List Int) (w wa : World) (cu : Cu wa g a n cap) (hr : Rd w a n cap (bys bs)) (hb : Below w.heap.size w wa) (hg : w.heap.size ≤ g) (hn : n ≤ 1048576) (m : Nat) (hm : m ≤ 30) :
    Calls Try.prog 26 #[.pointer (some ⟨g, 0, none⟩), .int .i64 m] wa fun e w' => ∃ sa sc xs, e = .returned (.slice sa m sc) ∧ OwI w' 3 wa.heap.size sa m sc xs ∧ (∀ x ∈ xs, -3 ≤ x ∧ x ≤ 8) ∧ Cu w' g a n cap ∧ Below w.heap.size w w' ∧ wa.heap.size ≤ w'.heap.size := by
  have hgl := cu.lt
  have hsz := hb.size
  go_enter Try.func26, Try.ntmps26
  go_wp2
  go_loopw [5, 6] (fun l i wr => ∃ k : Nat, ∃ xs L la lc, k ≤ m ∧ i = .int .i64 k ∧ l = .slice la k lc ∧ Ow wr 3 L la k lc (ints xs) ∧ (∀ x ∈ xs, -3 ≤ x ∧ x ≤ 8) ∧ New wa.heap.size L ∧ Cu wr g a n cap ∧ Below w.heap.size w wr ∧ wa.heap.size ≤ wr.heap.size) (fun _ i _ => m - (intOf i).toNat)
  case atStart => exact ⟨0, [], [], _, _, by omega, rfl, rfl, Ow.bare _ _ _, (fun _ h => by cases h), fun _ h => (by cases h), cu.keep (Keeps.alloc [] _ _) (by simp), hb.alloc hsz _, by simp⟩
  case round =>
    obtain ⟨k, xs, L, la, lc, hk, rfl, rfl, ow, hbd, nw, cu1, hb1, hsw⟩ := hrel
    by_cases hlt : k < m
    · have CB := Lib.hid (c_Below g a n cap bs w wr cu1 hr hb1 hg hn 12 (by omega) (by omega) : Calls Try.prog 35 #[.pointer (some ⟨g, 0, none⟩), .int .i64 12] wr _)
      go_wp2_with fail
      refine CB.out.mono ?_
      rintro e w2 ⟨p, rfl, hp, cu2, kp2⟩
      have apg : Apart L [g] := fun i hi hm => by simp at hm; have := nw i hi; omega
      have ow2 := (ow.keep kp2 apg).alloc (.cells #[.int .i64 ((p : Int) - 3)] 3)
      have hs2 := kp2.size
      have hb2 : Below w.heap.size w w2 := kp2.below hb1 (fun i hi => by simp at hi; omega) hb1.size
      have HBD := Lib.hid hbd
      clear hbd
      go_wp2_with (at_builtin; refine wpList_app _ rfl _ _ 23 rfl 3 Try.underlying23 infoInt rfl rfl rfl ow2 (Rd.one _ _ _) (one_int _) (by omega) (by unfold maxLen; omega) ?_; intro a3 cap3 L3 w3 ow3 kp3 st3)
      rw [ints_snoc] at ow3
      have n3 : New wa.heap.size L3 := st3.new nw (by simp; omega)
      have b3 : Below w.heap.size w w3 := kp3.below (hb2.alloc hb2.size _) (nw.mono hsz) (by simp; have := hb2.size; omega)
      have cu3 := (cu2.keep (Keeps.alloc [] _ (.cells #[.int .i64 ((p : Int) - 3)] 3)) (by simp)).keep kp3 (fun h => by have := nw g h; omega)
      have hs3 := kp3.size
      simp at hs3
      go_roundw
      case rel => exact ⟨k + 1, xs ++ [(p : Int) - 3], L3, a3, cap3, by omega, by go_num, rfl, ow3, fun x hx => by
        rcases List.mem_append.1 hx with h | h
        · exact HBD.out x h
        · simp at h; omega, n3, cu3, b3, by omega⟩
      case measure => simp [intOf]; omega
    · obtain rfl : k = m := by omega
      go_wp2_with fail
      go_ret
      exact ⟨la, lc, xs, rfl, ⟨L, ow, nw⟩, hbd, cu1, hb1, hsw⟩














































































































































































































end Go.Proofs.Ytcfpiblgddihmaa

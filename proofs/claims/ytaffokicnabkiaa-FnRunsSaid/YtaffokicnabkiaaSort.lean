/- Insertion sorts: the library's, by a comparison that is handed over, up to 19 numbers; the reference's own, on places and on numbers. No condition but lengths. -/
import Derived.Test.YtaffokicnabkiaaHelp
import Derived.Test.YtaffokicnabkiaaSortL
namespace Go.Proofs.Ytaffokicnabkiaa
open Go.RowKit


/-- A comparison that is handed over, one variable captured: it tells which of two numbers is less, and only reads. -/
structure Cmp (K : Nat) (p : Addr) (lt : Int → Int → Bool) (S : Int → Prop) (L : List Nat) (Env : World → Prop) : Prop where
  call : ∀ args w, (callFunc K args).run Try.prog w = .ok (.enter K args) w
  env : ∀ w w', Env w → Keeps L w w' → Env w'
  run : ∀ x y w, Env w → S x → S y → ∃ c : Int, (decide (c < 0) = lt x y) ∧ ∀ m, Calls Try.prog K #[.int .i64 x, .int .i64 y, .pointer (some p)] (w.drewN m) fun e w' => e = .returned (.int .i64 c) ∧ ∃ m', w' = (w.drewN m).drewN m'

set_option maxHeartbeats 1000000 in
theorem c_insSort (K : Nat) (p : Addr) (lt : Int → Int → Bool) (S : Int → Prop) (Env : World → Prop) (L : List Nat) (hc : Cmp K p lt S L Env) (a : Option Addr) (n cap : Nat) (xs : List Int) (w : World)
    (how : Ow w 3 L a n cap (ints xs)) (hn : n ≤ 1048576) (henv : Env w) (hS : ∀ x ∈ xs, S x) :
    Calls Try.prog 84 #[.slice a n cap, .int .i64 0, .int .i64 n, .func (.func K) #[] #[.pointer (some p)]] w fun e w' => e = .returned (.tuple #[]) ∧ Ow w' 3 L a n cap (ints (sortTo lt xs n)) ∧ Keeps L w w' := by
  have hlen := Lib.hid how.lens
  have hcf := hc.call
  have HC := Lib.hid hc
  have HS := Lib.hid hS
  have HENV := Lib.hid henv
  clear hc hS henv
  by_cases hn1 : n = 0
  · obtain rfl : xs = [] := List.eq_nil_of_length_eq_zero (by rw [hlen.out, hn1])
    subst hn1
    go_enter Try.func84, Try.ntmps84
    go_wp2
    refine wp_loop_rounds 1 ?_
    rw [rounds_succ]
    go_wp2
    go_end0
    exact ⟨rfl, how, Keeps.refl _ _⟩
  go_enter Try.func84, Try.ntmps84
  go_wp2
  go_loopw [8] (fun i wr => ∃ k : Nat, 1 ≤ k ∧ k ≤ n ∧ i = .int .i64 k ∧ Ow wr 3 L a n cap (ints (sortTo lt xs k ++ xs.drop k)) ∧ Keeps L w wr) (fun i _ => n - (intOf i).toNat)
  case atStart =>
    refine ⟨1, by omega, by omega, by simp, ?_, Keeps.refl _ _⟩
    have e : sortTo lt xs 1 ++ xs.drop 1 = xs := by
      have h0 : 0 < xs.length := by rw [hlen.out]; omega
      have hd : xs = nth xs 0 :: xs.drop 1 := by
        have h1 := List.drop_eq_getElem_cons (l := xs) (i := 0) h0
        rw [List.drop_zero] at h1
        rw [nth_eq h0]; exact h1
      simp only [sortTo, insS, insAt, List.length_nil, slotD, List.take_nil, List.drop_nil, List.nil_append, List.singleton_append]
      exact hd.symm
    rw [e]; exact how
  case round =>
    obtain ⟨k, hk1, hk, rfl, ho, hb⟩ := hrel
    by_cases hlt : k < n
    · go_wp2_with fail
      obtain ⟨wo, rfl⟩ : ∃ wo : World, wo = wr := ⟨_, rfl⟩
      have hyl := sortTo_len lt xs k
      have HYL := Lib.hid hyl
      clear hyl
      go_loopw [9] (fun j wr => ∃ i : Nat, i ≤ k ∧ j = .int .i64 i ∧ Ow wr 3 L a n cap (ints (insAt (sortTo lt xs k) i (nth xs k) ++ xs.drop (k + 1))) ∧ Keeps L w wr ∧ slotD lt (sortTo lt xs k) (nth xs k) i = slotD lt (sortTo lt xs k) (nth xs k) k) (fun j _ => (intOf j).toNat)
      case atStart =>
        refine ⟨k, by omega, rfl, ?_, hb, rfl⟩
        have e : insAt (sortTo lt xs k) k (nth xs k) ++ xs.drop (k + 1) = sortTo lt xs k ++ xs.drop k := by
          have h1 := insAt_end (sortTo lt xs k) (nth xs k)
          rw [HYL.out] at h1
          rw [h1, List.append_assoc, List.drop_eq_getElem_cons (i := k) (by rw [hlen.out]; omega), nth_eq (by rw [hlen.out]; omega)]
          rfl
        rw [e]; exact ho
      case round =>
        obtain ⟨j, hj, rfl, ho2, hb2, hsl⟩ := hrel
        have HSL := Lib.hid hsl
        clear hsl
        by_cases hj0 : j = 0
        · subst hj0
          go_wp2_with fail
          go_quiet (fail)
          go_wp2_with fail
          go_roundw
          case rel =>
            refine ⟨k + 1, by omega, by omega, by go_num, ?_, by first | exact hb2 | exact hb2.trans (Keeps.of_below (below_drewN (Below.refl _ _) _) _) (Step.refl _ _)⟩
            have e : slotD lt (sortTo lt xs k) (nth xs k) k = 0 := by rw [← HSL.out]; rfl
            simp only [sortTo, insS]
            rw [HYL.out, e]
            exact ho2
          case measure => simp [intOf]; omega
        · obtain ⟨i, rfl⟩ : ∃ i, j = i + 1 := ⟨j - 1, by omega⟩
          obtain ⟨g, rfl, rfl, hg, hoc, hof⟩ := ho2.int (by have := ho2.le; omega)
          have c1 := hoc (i + 1) (by omega)
          have c2 := hoc i (by omega)
          rw [nth_insAt_here _ _ _ _ (by rw [HYL.out]; omega)] at c1
          rw [nth_insAt_below _ _ _ _ _ (by omega) (by rw [HYL.out]; omega)] at c2
          have f1 := hof (i + 1)
          have f2 := hof i
          clear hoc hof
          obtain ⟨c, hcv, hrun⟩ := HC.out.run (nth xs k) (nth (sortTo lt xs k) i) wr (HC.out.env _ _ HENV.out hb2) (HS.out _ (nth_mem (by rw [hlen.out]; omega))) (HS.out _ (mem_sortTo (by rw [hlen.out]; omega) (nth_mem (by rw [HYL.out]; omega))))
          have HRUN := Lib.hid hrun
          clear hrun
          have HCV := Lib.hid hcv
          clear hcv
          by_cases hneg : c < 0
          · go_wp2_with fail
            go_quiet (refine Calls.quiet_of (HRUN.out _))
            go_wp2_with fail
            go_region
            go_wp2_with fail
            go_roundw
            case rel =>
              refine ⟨i, by omega, by go_num, ?_, ?_, ?_⟩
              · have h1 := ((ho2.drewN (nq + 1)).set (i + 1) (.int .i64 (nth (sortTo lt xs k) i))).set i (.int .i64 (nth xs k))
                rw [ints_set, ints_set] at h1
                have h2 := insAt_swap (sortTo lt xs k) (xs.drop (k + 1)) (i + 1) (nth xs k) (by omega) (by rw [HYL.out]; omega)
                rw [Nat.add_sub_cancel] at h2
                rw [h2] at h1
                exact h1
              · exact ((hb2.trans (Keeps.drewN _ _ _) (Step.refl _ _)).trans (Keeps.setCell _ _ _ _) (Step.refl _ _)).trans (Keeps.setCell _ _ _ _) (Step.refl _ _)
              · rw [← HSL.out]
                exact (slotD_hit (by rw [← HCV.out]; simpa using hneg)).symm
            case measure => simp [intOf]
          · go_wp2_with fail
            go_quiet (refine Calls.quiet_of (HRUN.out _))
            go_wp2_with fail
            go_roundw
            case rel =>
              refine ⟨k + 1, by omega, by omega, by go_num, ?_, by first | exact hb2 | exact hb2.trans (Keeps.of_below (below_drewN (Below.refl _ _) _) _) (Step.refl _ _)⟩
              have e : slotD lt (sortTo lt xs k) (nth xs k) k = i + 1 := by rw [← HSL.out]; exact slotD_miss (by rw [← HCV.out]; simpa using hneg)
              simp only [sortTo, insS]
              rw [HYL.out, e]
              exact ho2
            case measure => simp [intOf]; omega
    · obtain rfl : k = n := by omega
      go_wp2_with fail
      go_end0
      refine ⟨rfl, ?_, hb⟩
      have h := ho
      rw [List.drop_of_length_le (by rw [hlen.out]; exact Nat.le_refl _), List.append_nil] at h
      exact h


end Go.Proofs.Ytaffokicnabkiaa

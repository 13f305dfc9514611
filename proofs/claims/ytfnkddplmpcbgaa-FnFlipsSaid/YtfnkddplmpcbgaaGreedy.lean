/- Flips that bring each number to its position. No condition but lengths. -/
import Derived.Test.YtfnkddplmpcbgaaFlip
import Derived.Test.YtfnkddplmpcbgaaPerm
import Derived.Test.YtfnkddplmpcbgaaGreedyL
namespace Go.Proofs.Ytfnkddplmpcbgaa
open Go.RowKit
set_option linter.unusedVariables false


set_option maxHeartbeats 400000 in
theorem c_Index (a : Option Addr) (n cap x p : Nat) (xs : List Int) (w : World) (hr : RdI w a n cap xs) (hp : p < n) (hpx : nth xs p = x) (hu : ∀ j, j < p → nth xs j ≠ x) :
    Calls Try.prog 41 #[.slice a n cap, .int .i64 x] w fun e w' => e = .returned (.int .i64 p) ∧ w' = w := by
  have hcap := hr.le
  have hmx := hr.max
  unfold maxLen at hmx
  obtain ⟨b, off, rfl, hbl, hc⟩ := hr.int (by omega)
  have HC := Lib.hid hc
  have HU := Lib.hid hu
  clear hc hu
  go_enter Try.func41, Try.ntmps41
  go_wp2
  go_loop [8] (fun i => ∃ k : Nat, k ≤ p ∧ i = .int .i64 k) (fun i => n - (intOf i).toNat)
  case atStart => exact ⟨0, by omega, rfl⟩
  case round =>
    obtain ⟨k, hk, rfl⟩ := hrel
    have c1 := HC.out k (by omega)
    rcases Nat.lt_or_ge k p with h | h
    · have h1 : ¬ (x : Int) = nth xs k := fun e => HU.out k h e.symm
      have h2 : ((x : Int) == nth xs k) = false := by simpa using h1
      go_wp2
      go_round
      case rel => exact ⟨k + 1, by omega, by go_num⟩
      case measure => simp [intOf]; omega
    · obtain rfl : k = p := by omega
      rw [hpx] at c1
      go_wp2
      go_ret
      exact ⟨rfl, rfl⟩

































































































































































set_option maxHeartbeats 2000000 in
theorem ci_GreedyFlips (a : Option Addr) (n cap : Nat) (xs : List Int) (w : World) (hr : RdI w a n cap xs) :
    Calls Try.prog 22 #[.slice a n cap] w fun e w' => ∃ sa sn sc, e = .returned (.slice sa sn sc) ∧ OwI w' 3 w.heap.size sa sn sc (grV xs) ∧ sn ≤ 1048576 ∧ Below w.heap.size w w' := by
  have HL := Lib.hid hr.lens
  cases hp : isPerm xs
  · have HN := Lib.hid (show grV xs = [] by unfold grV; rw [hp]; rfl)
    go_enter Try.func22, Try.ntmps22
    go_wp2_with (go_at_call 40; refine (c_isShortOrder _ _ _ _ _ hr).mono ?_; rw [hp]; rintro e w1 ⟨rfl, hb⟩)
    go_ret
    exact ⟨_, _, _, rfl, by rw [HN.out]; exact ⟨[], Ow.bare _ _ _, fun _ h => (by cases h)⟩, by omega, by assumption⟩
  have hn := isPerm_len hp
  have hO0 := isPerm_order hp
  have FL := Lib.hid (show grV xs = (grd xs xs.length (xs.length - 1)).2 by unfold grV; rw [hp]; rfl)
  rw [HL.out] at hn hO0 FL
  go_enter Try.func22, Try.ntmps22
  go_wp2_with fail
  refine (c_isShortOrder _ _ _ _ _ hr).mono ?_
  rw [hp]
  rintro e w1 ⟨rfl, hb⟩
  have hb0 := hb
  clear hp
  go_wp2_with fail
  have hb := hb.alloc hb.size (.cells #[] 3)
  refine (c_Clone a n cap xs _ (hr.below hb) (by omega)).mono ?_
  rintro e w2 ⟨a1, cap1, rfl, ⟨L1, ow1, n1⟩, b2⟩
  have hb2w := b2.size
  have hsz0 := hb2w
  go_wp2_with fail
  go_loopw [4, 3, 5] (fun l o i wr => ∃ s : Nat, ∃ L la lc M oa on oc, s ≤ n - 1 ∧ i = .int .i64 ((n : Int) - 1 - s) ∧ l = .slice la n lc ∧ o = .slice oa on oc ∧ Ow wr 3 L la n lc (ints (grd xs n s).1) ∧ New w1.heap.size L ∧ Ow wr 3 M oa on oc (ints (grd xs n s).2) ∧ New w1.heap.size M ∧ Apart L M ∧ Below w1.heap.size w1 wr) (fun _ _ i _ => (intOf i).toNat)
  case atStart => exact ⟨0, L1, a1, cap1, [], _, 0, 0, by omega, int_eq (by omega), rfl, rfl, ow1, n1.mono (by simp), Ow.bare _ _ _, fun _ h => (by cases h), fun _ _ h => (by cases h), Below.nx ((Below.refl _ _).alloc (Nat.le_refl _) _) b2⟩
  case round =>
    obtain ⟨s, L, la, lc, M, oa, on, oc, hs, rfl, rfl, rfl, how, hnl, hout, hnm, hap, hb⟩ := hrel
    have hO := grd_order hO0 s (by omega)
    have hgl := grd_len xs n s
    rw [hout.lens] at hgl
    by_cases hlt : s + 1 < n
    · obtain ⟨p, hp, hpx⟩ := take_sub hO (n - 1 - s) (by omega)
      have hpe := posX_eq hO hp hpx (by omega)
      have hgs : grd xs n (s + 1) = grdStep (grd xs n s) (n - 1 - s) p := by rw [← hpe]; rfl
      have HGS := Lib.hid hgs
      clear hgs hpe
      have hxi : (n : Int) - 1 - s = ((n - 1 - s : Nat) : Int) := by omega
      rw [hxi]
      obtain ⟨x, hx⟩ : ∃ x, n - 1 - s = x := ⟨_, rfl⟩
      rw [hx] at hpx hxi HGS
      rw [hx]
      have hxn : x < n := by omega
      have hx1 : 1 ≤ x := by omega
      clear hxi
      go_wp2_with fail
      refine (c_Index la n lc x p _ _ how.rd hp hpx (fun j hj h => hO.2.2 j p hj hp (h.trans hpx.symm))).mono ?_
      rintro e w3 ⟨rfl, rfl⟩
      obtain ⟨wr, rfl⟩ : ∃ wr : World, wr = w3 := ⟨_, rfl⟩
      by_cases hpeq : p = x
      · go_wp2_with fail
        go_roundw
        case rel =>
          have hg2 : grd xs n (s + 1) = grd xs n s := by rw [HGS.out]; unfold grdStep; rw [if_pos hpeq]
          exact ⟨s + 1, L, la, lc, M, oa, on, oc, by omega, int_eq (by omega), rfl, rfl, by rw [hg2]; exact how, hnl, by rw [hg2]; exact hout, hnm, hap, hb⟩
        case measure => simp [intOf]; omega
      by_cases hp0 : 0 < p
      · have hg2 : grd xs n (s + 1) = (flipL (flipL (grd xs n s).1 (p + 1)) (x + 1), (grd xs n s).2 ++ [(p : Int) + 1] ++ [(x : Int) + 1]) := by rw [HGS.out]; unfold grdStep; rw [if_neg hpeq, if_pos hp0]
        have HG2 := Lib.hid hg2
        clear hg2
        have hsz := hb.size
        go_wp2_with ((with_reducible show wpList _ _ _ (⟨some 32, _, _, _, _, _⟩ :: _) _ _); refine wpList_app _ rfl _ _ 26 rfl 3 Try.underlying26 infoInt rfl rfl rfl (hout.alloc _) (Rd.one _ _ _) (one_int _) (by omega) (by unfold maxLen; omega) ?_; intro a5 cap5 L5 w5 ow5 kp5 st5)
        have al5 := Keeps.alloc [] wr (.cells #[.int .i64 ((p : Int) + 1)] 3)
        have n5 : New w1.heap.size L5 := st5.new hnm (by simp; omega)
        have b5 : Below w1.heap.size w1 w5 := kp5.below (hb.alloc hsz _) hnm (by simp; omega)
        have how5 := (how.alloc (.cells #[.int .i64 ((p : Int) + 1)] 3)).keep kp5 hap
        have hap5 : Apart L L5 := (Apart.step hap.symm st5 (how.alloc _).old).symm
        refine (c_flip la n lc (p + 1) _ _ how5.rd hn (by omega)).mono ?_
        rintro e w6 ⟨a6, capa6, rfl, ⟨La6, owa6, na6⟩, ba6⟩
        have ow5b := ow5.below ba6
        have b6 : Below w1.heap.size w1 w6 := Below.nx b5 ba6
        have hap6 : Apart La6 L5 := (Apart.of_new ow5.old na6).symm
        have n6 : New w1.heap.size La6 := na6.mono b5.size
        have hsz6 := b6.size
        go_wp2_with ((with_reducible show wpList _ _ _ (⟨some 41, _, _, _, _, _⟩ :: _) _ _); refine wpList_app _ rfl _ _ 26 rfl 3 Try.underlying26 infoInt rfl rfl rfl (ow5b.alloc _) (Rd.one _ _ _) (one_int _) (by omega) (by unfold maxLen; omega) ?_; intro a7 cap7 L7 w7 ow7 kp7 st7)
        have n7 : New w1.heap.size L7 := st7.new n5 (by simp; omega)
        have b7 : Below w1.heap.size w1 w7 := kp7.below (b6.alloc hsz6 _) n5 (by simp; omega)
        have how7 := (owa6.alloc (.cells #[.int .i64 ((x : Int) + 1)] 3)).keep kp7 hap6
        refine (c_flip a6 n capa6 (x + 1) _ _ how7.rd hn (by omega)).mono ?_
        rintro e w8 ⟨a8, capa8, rfl, ⟨La8, owa8, na8⟩, ba8⟩
        go_wp2_with fail
        go_roundw
        case rel => exact ⟨s + 1, La8, a8, capa8, L7, a7, on + 1 + 1, cap7, by omega, int_eq (by omega), rfl, rfl, by rw [HG2.out]; exact owa8, na8.mono b7.size, by
          rw [HG2.out]; have h := ow7.below ba8; rw [ints_snoc, ints_snoc] at h; exact h, n7, (Apart.of_new ow7.old na8).symm, Below.nx b7 ba8⟩
        case measure => simp [intOf]; omega
      · have hg2 : grd xs n (s + 1) = (flipL (grd xs n s).1 (x + 1), (grd xs n s).2 ++ [(x : Int) + 1]) := by rw [HGS.out]; unfold grdStep; rw [if_neg hpeq, if_neg hp0]
        have HG2 := Lib.hid hg2
        clear hg2
        have hsz := hb.size
        obtain rfl : p = 0 := by omega
        go_wp2_with ((with_reducible show wpList _ _ _ (⟨some 41, _, _, _, _, _⟩ :: _) _ _); refine wpList_app _ rfl _ _ 26 rfl 3 Try.underlying26 infoInt rfl rfl rfl (hout.alloc _) (Rd.one _ _ _) (one_int _) (by omega) (by unfold maxLen; omega) ?_; intro a7 cap7 L7 w7 ow7 kp7 st7)
        have n7 : New w1.heap.size L7 := st7.new hnm (by simp; omega)
        have b7 : Below w1.heap.size w1 w7 := kp7.below (hb.alloc hsz _) hnm (by simp; omega)
        have how7 := (how.alloc (.cells #[.int .i64 ((x : Int) + 1)] 3)).keep kp7 hap
        refine (c_flip la n lc (x + 1) _ _ how7.rd hn (by omega)).mono ?_
        rintro e w8 ⟨a8, capa8, rfl, ⟨La8, owa8, na8⟩, ba8⟩
        go_wp2_with fail
        go_roundw
        case rel => exact ⟨s + 1, La8, a8, capa8, L7, a7, on + 1, cap7, by omega, int_eq (by omega), rfl, rfl, by rw [HG2.out]; exact owa8, na8.mono b7.size, by
          rw [HG2.out]; have h := ow7.below ba8; rw [ints_snoc] at h; exact h, n7, (Apart.of_new ow7.old na8).symm, Below.nx b7 ba8⟩
        case measure => simp [intOf]; omega
    · obtain rfl : s = n - 1 := by omega
      go_wp2_with fail
      go_ret
      exact ⟨oa, on, oc, rfl, ⟨M, by rw [FL.out]; exact hout, hnm.mono (by have := hb0.size; omega)⟩, by omega, Below.nx hb0 hb⟩

end Go.Proofs.Ytfnkddplmpcbgaa

/- Places ordered by their numbers, as the program does it by the library's stable sort; lists of fewer than 20 numbers. -/
import Derived.Test.YtaffokicnabkiaaSort2
namespace Go.Proofs.Ytaffokicnabkiaa
open Go.RowKit

theorem drewN2 (w : World) (a b : Nat) : ∃ m, (w.drewN a).drewN b = w.drewN m := ⟨a + b, by rw [World.drewN_drewN]⟩


theorem c_stableCmp (K : Nat) (p : Addr) (lt : Int → Int → Bool) (S : Int → Prop) (Env : World → Prop) (L : List Nat) (hc : Cmp K p lt S L Env) (a : Option Addr) (n cap : Nat) (xs : List Int) (w : World)
    (how : Ow w 3 L a n cap (ints xs)) (hn : n < 20) (henv : Env w) (hS : ∀ x ∈ xs, S x) :
    Calls Try.prog 71 #[.slice a n cap, .int .i64 n, .func (.func K) #[] #[.pointer (some p)]] w fun e w' => e = .returned (.tuple #[]) ∧ Ow w' 3 L a n cap (ints (sortTo lt xs n)) ∧ Keeps L w w' := by
  have HC := Lib.hid hc
  have HS := Lib.hid hS
  clear hc hS
  go_enter Try.func71, Try.ntmps71
  go_wp2_with fail
  refine wp_loop_rounds 1 ?_
  rw [rounds_succ]
  go_wp2_with fail
  refine (c_insSort K p lt S Env L HC.out a n cap xs w how (by omega) henv HS.out).mono ?_
  rintro e w' ⟨rfl, ho, kp⟩
  go_wp2_with fail
  refine wp_loop_rounds 1 ?_
  rw [rounds_succ]
  go_wp2_with fail
  go_end0
  exact ⟨rfl, ho, kp⟩

theorem c_SortStable (K : Nat) (p : Addr) (lt : Int → Int → Bool) (S : Int → Prop) (Env : World → Prop) (L : List Nat) (hc : Cmp K p lt S L Env) (a : Option Addr) (n cap : Nat) (xs : List Int) (w : World)
    (how : Ow w 3 L a n cap (ints xs)) (hn : n < 20) (henv : Env w) (hS : ∀ x ∈ xs, S x) :
    Calls Try.prog 53 #[.slice a n cap, .func (.func K) #[] #[.pointer (some p)]] w fun e w' => e = .returned (.tuple #[]) ∧ Ow w' 3 L a n cap (ints (sortTo lt xs n)) ∧ Keeps L w w' := by
  have HC := Lib.hid hc
  have HS := Lib.hid hS
  clear hc hS
  go_enter Try.func53, Try.ntmps53
  go_wp2_with fail
  refine (c_stableCmp K p lt S Env L HC.out a n cap xs w how (by omega) henv HS.out).mono ?_
  rintro e w' ⟨rfl, ho, kp⟩
  go_wp2_with fail
  go_end0
  exact ⟨rfl, ho, kp⟩



set_option maxHeartbeats 400000 in
theorem c_wires (n : Nat) (w : World) (hn : n ≤ 1048576) :
    Calls Try.prog 68 #[.int .i64 0, .int .i64 n] w fun e w' => ∃ ai ci, e = .returned (.slice ai n ci) ∧ OwI w' 3 w.heap.size ai n ci (rangeI n) ∧ Below w.heap.size w w' := by
  go_enter Try.func68, Try.ntmps68
  go_wp2
  go_loopw [5, 6] (fun l i wr => ∃ k : Nat, ∃ L la lc, k ≤ n ∧ i = .int .i64 k ∧ l = .slice la k lc ∧ Ow wr 3 L la k lc (ints (rangeI k)) ∧ New w.heap.size L ∧ Below w.heap.size w wr) (fun _ i _ => n - (intOf i).toNat)
  case atStart => exact ⟨0, [], _, _, by omega, rfl, rfl, Ow.bare _ _ _, fun _ h => (by cases h), (Below.refl _ _).alloc (Nat.le_refl _) _⟩
  case round =>
    obtain ⟨k, L, la, lc, hk, rfl, rfl, how, hnew, hb⟩ := hrel
    have hsz := hb.size
    by_cases hlt : k < n
    · go_wp2_with (at_builtin; refine wpList_app _ rfl _ _ 22 rfl 3 Try.underlying22 infoInt rfl rfl rfl (how.alloc _) (Rd.one _ _ _) (one_int _) (by omega) (by unfold maxLen; omega) ?_; intro a1 cap1 L1 w1 ow1 kp1 st1)
      go_roundw
      case rel => exact ⟨k + 1, L1, a1, cap1, by omega, by go_num, rfl, by rw [ints_snoc] at ow1; rw [show rangeI (k + 1) = rangeI k ++ [(k : Int)] by simp [rangeI, List.range_succ]]; exact ow1, st1.new hnew (by simp; omega), kp1.below (hb.alloc hsz _) hnew (by simp; omega)⟩
      case measure => simp [intOf]; omega
    · obtain rfl : k = n := by omega
      go_wp2
      go_ret
      exact ⟨_, _, rfl, ⟨L, how, hnew⟩, hb⟩



/-- The comparison that 'stable' hands over. -/
theorem c_stable1 (a : Option Addr) (n cap : Nat) (xs : List Int) (W : World) (bx : Nat) (hr : RdI W a n cap xs) (hbx : W.cell? ⟨bx, 0, none⟩ = some (.slice a n cap)) (hn : n ≤ 1048576) (L : List Nat) (hL : New W.heap.size L) :
    Cmp 69 ⟨bx, 0, none⟩ (ltK xs) (fun x => ∃ p : Nat, p < n ∧ x = p) L (fun w => Below W.heap.size W w) := by
  refine ⟨fun _ _ => by kernel_rfl, fun w w' he hk => hk.below he hL he.size, ?_⟩
  rintro x y w he ⟨p, hp, rfl⟩ ⟨q, hq, rfl⟩
  have hbl : bx < W.heap.size := World.block_lt_of_cell? W _ hbx
  have cb : w.cell? ⟨bx, 0, none⟩ = some (.slice a n cap) := (he.cell (p := ⟨bx, 0, none⟩) hbl).trans hbx
  obtain ⟨b, off, rfl, hbb, hc⟩ := (hr.below he).int (by omega)
  have c1 := hc p hp
  have c2 := hc q hq
  clear hc
  by_cases h1 : nth xs p < nth xs q
  · refine ⟨-1, by simp [ltK, h1], fun m => ?_⟩
    go_enter Try.func69, Try.ntmps69
    go_wp2_with fail
    go_quiet (fail)
    go_wp2_with fail
    go_ret
    exact ⟨rfl, by first | exact ⟨_, rfl⟩ | exact ⟨0, rfl⟩⟩
  · by_cases h2 : nth xs q < nth xs p
    · refine ⟨1, by simp [ltK]; omega, fun m => ?_⟩
      go_enter Try.func69, Try.ntmps69
      go_wp2_with fail
      go_quiet (fail)
      go_wp2_with fail
      go_quiet (fail)
      go_wp2_with fail
      go_ret
      exact ⟨rfl, drewN2 _ _ _⟩
    · refine ⟨0, by simp [ltK]; omega, fun m => ?_⟩
      go_enter Try.func69, Try.ntmps69
      go_wp2_with fail
      go_quiet (fail)
      go_wp2_with fail
      go_quiet (fail)
      go_wp2_with fail
      go_ret
      exact ⟨rfl, drewN2 _ _ _⟩

set_option maxHeartbeats 400000 in
theorem c_stable (a : Option Addr) (n cap : Nat) (xs : List Int) (w : World) (hr : RdI w a n cap xs) (hn : n < 20) :
    Calls Try.prog 48 #[.slice a n cap] w fun e w' => ∃ ai ci, e = .returned (.slice ai n ci) ∧ OwI w' 3 w.heap.size ai n ci (sortTo (ltK xs) (rangeI n) n) ∧ Below w.heap.size w w' := by
  have hb0 : Below w.heap.size w (w.alloc (.cells #[.slice a n cap] 22)) := (Below.refl _ _).alloc (Nat.le_refl _) _
  have hr0 := hr.below hb0
  have hc0 : (w.alloc (.cells #[.slice a n cap] 22)).cell? ⟨w.heap.size, 0, none⟩ = some (.slice a n cap) := by
    rw [World.cell?_alloc_at _ _ _ _ (by simp)]; rfl
  go_enter Try.func48, Try.ntmps48
  go_wp2_with fail
  refine (c_wires n (w.alloc (.cells #[.slice a n cap] 22)) (by omega)).mono ?_
  rintro e w1 ⟨ai, ci, rfl, ⟨L, ho, hnew⟩, hb1⟩
  have cm := c_stable1 a n cap xs _ w.heap.size hr0 hc0 (by omega) L hnew
  go_wp2_with fail
  refine (c_SortStable 69 ⟨w.heap.size, 0, none⟩ (ltK xs) _ _ L cm ai n ci (rangeI n) w1 ho hn hb1 (fun x hx => mem_rangeI hx)).mono ?_
  rintro e w2 ⟨rfl, ho2, kp⟩
  go_wp2_with fail
  go_ret
  exact ⟨_, _, rfl, ⟨L, ho2, hnew.mono (by simp)⟩, Below.nx hb0 (kp.below hb1 hnew hb1.size)⟩


end Go.Proofs.Ytaffokicnabkiaa

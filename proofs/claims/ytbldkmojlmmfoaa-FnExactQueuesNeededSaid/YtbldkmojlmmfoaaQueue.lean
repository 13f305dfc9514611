/- Least numbers of queues. No condition. -/
import Derived.Test.YtbldkmojlmmfoaaPerm
import Derived.Test.YtbldkmojlmmfoaaLong
namespace Go.Proofs.Ytbldkmojlmmfoaa
open Go.RowKit

def quV (xs : List Int) : Int := if isPerm xs = true then bestM gtB xs xs.length else -1

set_option maxHeartbeats 400000 in
theorem cs_QueuesNeeded (a : Option Addr) (n cap : Nat) (xs : List Int) (w : World) (hr : RdI w a n cap xs) :
    Calls Try.prog 21 #[.slice a n cap] w fun e w' => e = .returned (.int .i64 (quV xs)) ∧ Below w.heap.size w w' := by
  have HL := Lib.hid hr.lens
  cases hp : isPerm xs
  · have HP := Lib.hid hp
    go_enter Try.func21, Try.ntmps21
    go_wp2_with (go_at_call 67; refine (c_l14Small _ _ _ _ _ hr).mono ?_; rw [hp]; rintro e w' ⟨rfl, hb⟩)
    go_ret
    exact ⟨ret_int (by unfold quV; rw [HP.out]; rfl), by assumption⟩
  have HP := Lib.hid hp
  have h12 := isPerm_len hp
  rw [HL.out] at h12
  go_enter Try.func21, Try.ntmps21
  go_wp2_with fail
  refine (c_l14Small _ _ _ _ _ hr).mono ?_
  rw [hp]
  rintro e w0 ⟨rfl, hb0⟩
  clear hp
  have hr0 := hr
  clear hr
  have hr := hr0.below hb0
  go_wp2_with fail
  go_loopw [3, 4, 16] (fun l b i wr => ∃ k : Nat, ∃ L la lc, k ≤ n ∧ i = .int .i64 k ∧ b = .int .i64 (bestM gtB xs k) ∧ l = .slice la k lc ∧ Ow wr 3 L la k lc (ints (lens gtB xs k)) ∧ New w0.heap.size L ∧ Below w0.heap.size w0 wr) (fun _ _ i _ => n - (intOf i).toNat)
  case atStart => exact ⟨0, [], _, _, by omega, rfl, rfl, rfl, Ow.bare _ _ _, fun _ h => (by cases h), (Below.refl _ _).alloc (Nat.le_refl _) _⟩
  case round =>
    obtain ⟨k, L, la, lc, hk, rfl, rfl, rfl, how, hnew, hb⟩ := hrel
    have hcap := hr.le
    have hcm := hr.max
    unfold maxLen at hcm
    by_cases hlt : k < n
    · obtain ⟨b, off, rfl, hbl, hc⟩ := (hr.below hb).int (by omega)
      have c1 := hc k hlt
      have H := Lib.hid hc
      clear hc
      go_wp2_with ((with_reducible show wpList _ _ _ (⟨some 23, _, _, _, _, _⟩ :: _) _ _); refine wpList_upto _ rfl (.tmp 21) (.tmp 22) 24 rfl 3 Try.underlying24 szInt k rfl rfl rfl (by omega) ?_)
      obtain ⟨wo, rfl⟩ : ∃ wo : World, wo = wr := ⟨_, rfl⟩
      go_loopw [7, 25] (fun v i wr => ∃ j : Nat, j ≤ k ∧ i = .int .i64 j ∧ v = .int .i64 (lenAt gtB xs (lens gtB xs k) (nth xs k) j) ∧ Below wo.heap.size wo wr) (fun _ i _ => k - (intOf i).toNat)
      case atStart => exact ⟨0, by omega, rfl, rfl, Below.refl _ _⟩
      case round =>
        obtain ⟨j, hj, rfl, rfl, hbq⟩ := hrel
        have hbd2 := lenAt_bd gtB xs (lens gtB xs k) (nth xs k) j (fun i hi => (lens_bd gtB xs k i (by omega)).2)
        by_cases hjk : j < k
        · have c2 := (hbq.cell (p := ⟨b, off + j, none⟩) (by exact hbl)).trans (H.out j (by omega))
          obtain ⟨g, rfl, rfl, hg, hoc, hof⟩ := (how.below hbq).int (by have := how.le; omega)
          have c3 := hoc j hjk
          clear hoc hof
          have hbd := lens_bd gtB xs k j hjk
          by_cases hle : nth xs k < nth xs j
          · go_wp2_with fail
            go_roundw
            case rel => exact ⟨j + 1, by omega, by go_num, int_eq (by rw [lenAt_hit (by simpa [gtB] using hle)]; split <;> omega), hbq⟩
            case measure => simp [intOf]; omega
          · go_wp2_with fail
            go_roundw
            case rel => exact ⟨j + 1, by omega, by go_num, int_eq (by rw [lenAt_miss (by simpa [gtB] using hle)]), hbq⟩
            case measure => simp [intOf]; omega
        · obtain rfl : j = k := by omega
          have hbm := bestM_bd gtB xs j
          have how2 := (how.below hbq).alloc (.cells #[.int .i64 (lenAt gtB xs (lens gtB xs j) (nth xs j) j)] 3)
          have hb2 : Below w0.heap.size w0 wr := hb.trans (hbq.mono hb.size)
          have hsz := hb2.size
          go_wp2_with (at_builtin; refine wpList_app _ rfl _ _ 24 rfl 3 Try.underlying24 infoInt rfl rfl rfl how2 (Rd.one _ _ _) (one_int _) (by omega) (by unfold maxLen; omega) ?_; intro a1 cap1 L1 w1 ow1 kp1 st1)
          have n1 : New w0.heap.size L1 := st1.new hnew (by simp; omega)
          have b1 : Below w0.heap.size w0 w1 := kp1.below (hb2.alloc hsz _) hnew (by simp; omega)
          go_roundw
          case rel => exact ⟨j + 1, L1, a1, cap1, by omega, by go_num, int_eq (by simp only [bestM]; split <;> omega), rfl, by rw [ints_snoc] at ow1; exact ow1, n1, b1⟩
          case measure => simp [intOf]; omega
    · obtain rfl : k = n := by omega
      go_wp2
      go_ret
      exact ⟨ret_int (by unfold quV; rw [HP.out, HL.out]; rfl), Below.nx hb0 hb⟩


theorem c_Queues1 (x y : Int) (w : World) : Calls Try.prog 71 #[.int .i64 x, .int .i64 y] w fun e w' => e = .returned (.bool (gtB x y)) ∧ w = w' := by
  go_enter Try.func71, Try.ntmps71
  go_wp2
  go_ret
  exact ⟨rfl, rfl⟩

theorem ci_QueuesNeeded (a : Option Addr) (n cap : Nat) (xs : List Int) (w : World) (hr : RdI w a n cap xs) :
    Calls Try.prog 22 #[.slice a n cap] w fun e w' => e = .returned (.int .i64 (quV xs)) ∧ Below w.heap.size w w' := by
  have HL := Lib.hid hr.lens
  cases hp : isPerm xs
  · have HP := Lib.hid hp
    go_enter Try.func22, Try.ntmps22
    go_wp2_with (go_at_call 69; refine (c_isShortOrder _ _ _ _ _ hr).mono ?_; rw [hp]; rintro e w' ⟨rfl, hb⟩)
    go_ret
    exact ⟨ret_int (by unfold quV; rw [HP.out]; rfl), by assumption⟩
  have HP := Lib.hid hp
  have hn := isPerm_len hp
  rw [HL.out] at hn
  go_enter Try.func22, Try.ntmps22
  go_wp2_with fail
  refine (c_isShortOrder _ _ _ _ _ hr).mono ?_
  rw [hp]
  rintro e w1 ⟨rfl, hb⟩
  go_wp2_with fail
  refine (c_longest a n cap xs _ (hr.below hb) (by omega) 71 gtB (fun _ _ => by kernel_rfl) c_Queues1).mono ?_
  rintro e w2 ⟨rfl, hb2⟩
  go_wp2_with fail
  go_ret
  exact ⟨ret_int (by unfold quV; rw [HP.out, HL.out]; rfl), Below.nx hb hb2⟩

end Go.Proofs.Ytbldkmojlmmfoaa

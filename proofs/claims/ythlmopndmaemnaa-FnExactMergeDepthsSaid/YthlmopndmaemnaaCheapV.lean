/- The cheapest merge: CheapestMerge and MergeDepths by the program, CheapestMerge by the reference. No condition but lengths. -/
import Derived.Test.YthlmopndmaemnaaCheap
import Derived.Test.YthlmopndmaemnaaSort2
namespace Go.Proofs.Ythlmopndmaemnaa
open Go.RowKit
set_option linter.unusedVariables false
set_option linter.unusedSimpArgs false

def chV (xs : List Int) : Int := if okLengthsOk xs = true then hufC xs else -1
def mdV (xs : List Int) : List Int := if okLengthsOk xs = true then hufD xs else []
theorem ok_mem {xs : List Int} (h : okLengthsOk xs = true) : ∀ x ∈ xs, 1 ≤ x ∧ x ≤ 1000 := by
  simp only [okLengthsOk, decide_eq_true_eq] at h; exact h.2

set_option maxHeartbeats 1000000 in
theorem ci_CheapestMerge (a : Option Addr) (n cap : Nat) (xs : List Int) (w : World) (hr : RdI w a n cap xs) :
    Calls Try.prog 22 #[.slice a n cap] w fun e w' => e = .returned (.int .i64 (chV xs)) ∧ Below w.heap.size w w' := by
  have HL := Lib.hid hr.lens
  cases hok : okLengthsOk xs
  · have HV := Lib.hid (show chV xs = -1 by unfold chV; rw [hok]; rfl)
    have HK := Lib.hid hok
    clear hok
    go_enter Try.func22, Try.ntmps22
    go_wp2_with (go_at_call 39; refine (ci_LengthsOk a n cap xs _ hr).mono ?_; rw [HK.out]; rintro e w' ⟨rfl, hb⟩)
    go_ret
    exact ⟨by rw [HV.out]; rfl, by assumption⟩
  · have HV := Lib.hid (show chV xs = hufC xs by unfold chV; rw [hok]; rfl)
    have hat := okLengthsOk_at hok
    rw [HL.out] at hat
    have hm := ok_mem hok
    have HK := Lib.hid hok
    clear hok
    go_enter Try.func22, Try.ntmps22
    go_wp2_with (first | (go_at_call 39; refine (ci_LengthsOk a n cap xs _ hr).mono ?_; rw [HK.out]; rintro e w1 ⟨rfl, hb1⟩) | (go_at_call 40; refine (c_cheapest a n cap xs _ (hr.below hb1) hat.1 hm).mono ?_; rintro e w2 ⟨da, dc, rfl, hod, hb2⟩))
    go_ret
    exact ⟨by rw [HV.out]; rfl, Below.nx hb1 hb2⟩


set_option maxHeartbeats 1000000 in
theorem ci_MergeDepths (a : Option Addr) (n cap : Nat) (xs : List Int) (w : World) (hr : RdI w a n cap xs) :
    Calls Try.prog 24 #[.slice a n cap] w fun e w' => ∃ sa sn sc, e = .returned (.slice sa sn sc) ∧ OwI w' 3 w.heap.size sa sn sc (mdV xs) ∧ sn ≤ 1048576 ∧ Below w.heap.size w w' := by
  have HL := Lib.hid hr.lens
  cases hok : okLengthsOk xs
  · have HV := Lib.hid (show mdV xs = [] by unfold mdV; rw [hok]; rfl)
    have HK := Lib.hid hok
    clear hok
    go_enter Try.func24, Try.ntmps24
    go_wp2_with (go_at_call 39; refine (ci_LengthsOk a n cap xs _ hr).mono ?_; rw [HK.out]; rintro e w' ⟨rfl, hb⟩)
    go_ret
    exact ⟨none, 0, 0, rfl, by rw [HV.out]; exact ⟨[], Ow.bare _ _ _, fun _ h => by cases h⟩, by omega, by assumption⟩
  · have HV := Lib.hid (show mdV xs = hufD xs by unfold mdV; rw [hok]; rfl)
    have hat := okLengthsOk_at hok
    rw [HL.out] at hat
    have hm := ok_mem hok
    have HK := Lib.hid hok
    clear hok
    go_enter Try.func24, Try.ntmps24
    go_wp2_with (first | (go_at_call 39; refine (ci_LengthsOk a n cap xs _ hr).mono ?_; rw [HK.out]; rintro e w1 ⟨rfl, hb1⟩) | (go_at_call 40; refine (c_cheapest a n cap xs _ (hr.below hb1) hat.1 hm).mono ?_; rintro e w2 ⟨da, dc, rfl, hod, hb2⟩))
    go_ret
    exact ⟨da, n, dc, rfl, by rw [HV.out]; exact hod.mono hb1.size, by omega, Below.nx hb1 hb2⟩

def lenR2 (v : Value) : Nat := match v with | .slice _ m _ => m | _ => 0
theorem HI.both_le {n : Nat} {S : Int} {k : Nat} {s : HS} (h : HI n S k s) (h2 : 2 ≤ s.l.length) : 1 ≤ (both s.l).1 ∧ (both s.l).1 ≤ S := by
  have hs := h.step h2
  have hm : both s.l ∈ (hstep s).l := by simp [hstep]
  exact ⟨hs.pos _ hm, hs.low hm⟩

set_option maxRecDepth 100000 in
set_option maxHeartbeats 2000000 in
theorem cs_CheapestMerge (a : Option Addr) (n cap : Nat) (xs : List Int) (w : World) (hr : RdI w a n cap xs) :
    Calls Try.prog 21 #[.slice a n cap] w fun e w' => e = .returned (.int .i64 (chV xs)) ∧ Below w.heap.size w w' := by
  have HL := Lib.hid hr.lens
  cases hok : okLengthsOk xs
  · have HV := Lib.hid (show chV xs = -1 by unfold chV; rw [hok]; rfl)
    have HK := Lib.hid hok
    clear hok
    go_enter Try.func21, Try.ntmps21
    go_wp2_with (go_at_call 37; refine (cs_LengthsOk a n cap xs _ hr).mono ?_; rw [HK.out]; rintro e w' ⟨rfl, hb⟩)
    go_ret
    exact ⟨by rw [HV.out]; rfl, by assumption⟩
  · have HV := Lib.hid (show chV xs = hufC xs by unfold chV; rw [hok]; rfl)
    have hat := okLengthsOk_at hok
    rw [HL.out] at hat
    have HM := Lib.hid (ok_mem hok)
    have HK := Lib.hid hok
    clear hok
    have hn8 := hat.1
    have hS := isum_ok (by rw [HL.out]; exact hn8) HM.out
    go_enter Try.func21, Try.ntmps21
    go_wp2_with (first | (go_at_call 37; refine (cs_LengthsOk a n cap xs _ hr).mono ?_; rw [HK.out]; rintro e w1 ⟨rfl, hb1⟩) | (go_at_call 38; refine (c_l08Sort a n cap xs _ (hr.below hb1) (by omega)).mono ?_; rintro e w2 ⟨ai, ci, rfl, ho2, hb2⟩))
    have hS0 : sortTo ltI xs n = srt (vals (hst xs 0).l) := by
      show _ = srt (vals (leafs xs xs.length))
      rw [vals_leafs, ← HL.out]; exact srt_eq xs
    rw [hS0] at ho2
    have ho2' := ho2.mono hb1.size
    have hb0 := Below.nx hb1 hb2
    clear ho2 hb2 hS0
    go_loopw [3, 4] (fun s c wr => ∃ t ln : Nat, ∃ sa sc, s = .slice sa ln sc ∧ c = .int .i64 (hst xs t).c ∧ ln + t = n ∧ (t + 1 ≤ n ∨ t = 0) ∧ OwI wr 3 w.heap.size sa ln sc (srt (vals (hst xs t).l)) ∧ Below w.heap.size w wr) (fun s _ _ => lenR2 s)
    case atStart => exact ⟨0, n, ai, ci, rfl, rfl, by omega, .inr rfl, ho2', hb0⟩
    case round =>
      clear ho2' hb0
      obtain ⟨t, ln, sa, sc, rfl, rfl, hln, ht, ⟨L, how, hnL⟩, hb⟩ := hrel
      have HI := Lib.hid (HI.all HM.out t (by rw [HL.out]; exact ht))
      by_cases h2 : 2 ≤ ln
      · have hll : 2 ≤ (hst xs t).l.length := by have := HI.out.len; rw [HL.out] at this; omega
        have HBL := HI.out.both_le hll
        have HNX := Lib.hid (srt_next hll)
        have hc16 : 0 ≤ (hst xs t).c ∧ (hst xs t).c ≤ 64000 := by
          have h1 := HI.out.c0
          have h2 := HI.out.c1
          have h3 : isum xs * (t : Int) ≤ 8000 * 8 := Int.mul_le_mul hS.2 (by omega) (by omega) (by omega)
          exact ⟨h1, by omega⟩
        have h3 : (1 : Int) < (ln : Int) := by omega
        obtain ⟨s, hs⟩ : ∃ s, s = srt (vals (hst xs t).l) := ⟨_, rfl⟩
        rw [← hs] at how HNX
        clear hs
        obtain ⟨g, rfl, rfl, hgl, hgc, _⟩ := how.int (by have := how.le; omega)
        have c0 := hgc 0 (by omega)
        have c1 := hgc 1 (by omega)
        clear hgc
        have HE := Lib.hid HNX.out.1
        have hx0 : nth s 0 + nth s 1 ≤ 8000 := by rw [HE.out]; omega
        have hx1 : 1 ≤ nth s 0 + nth s 1 := by rw [HE.out]; omega
        have hle := how.le
        have hmx := how.max
        unfold maxLen at hmx
        go_wp2_with fail
        go_quiet (fail)
        obtain ⟨wq, hwq⟩ : ∃ wq, wq = wr.drewN nq := ⟨_, rfl⟩
        have howq : Ow wq 3 [g] (some ⟨g, 0, none⟩) ln sc (ints s) := by rw [hwq]; exact how.drewN nq
        have hbq : Below w.heap.size w wq := by rw [hwq]; exact below_drewN hb nq
        rw [← hwq]
        clear hwq how hb c0 c1
        have HNX2 := Lib.hid (show srt (s.drop 2 ++ [nth s 0 + nth s 1]) = srt (vals (hst xs (t + 1)).l) by rw [HE.out]; exact HNX.out.2)
        have HC2 := Lib.hid (show (hst xs (t + 1)).c = (hst xs t).c + (nth s 0 + nth s 1) by rw [HE.out]; rfl)
        obtain ⟨x, hx⟩ : ∃ x, x = nth s 0 + nth s 1 := ⟨_, rfl⟩
        rw [← hx] at HNX2 HC2 hx0 hx1 ⊢
        clear hx HE HBL
        have hszq := hbq.size
        have hl2 : 2 ≤ sc := by omega
        go_wp2_with (first | ((with_reducible show wpList _ _ _ (⟨some 26, _, _, _, _, _⟩ :: _) _ _); refine wpList_from _ rfl (.tmp 25) (.const (.int .i64 2)) 22 rfl 3 Try.underlying22 szInt 2 rfl rfl rfl (howq.alloc (.cells #[] 3)).rd h2 ?_; intro a3 ha3 r3; have HA3 := Lib.hid ha3; clear ha3; rw [ints_drop] at r3) | ((with_reducible show wpList _ _ _ (⟨some 27, _, _, _, _, _⟩ :: _) _ _); refine wpList_app _ rfl _ _ 22 rfl 3 Try.underlying22 infoInt rfl rfl rfl (Ow.bare _ _ _) r3 (one_ints _) (by omega) (by unfold maxLen; omega) ?_; intro a4 cap4 L4 w4 ow4 kp4 st4; rw [Nat.zero_add, List.nil_append] at ow4) | ((with_reducible show wpList _ _ _ (⟨some 30, _, _, _, _, _⟩ :: _) _ _); refine wpList_app _ rfl _ _ 22 rfl 3 Try.underlying22 infoInt rfl rfl rfl (ow4.alloc _) (Rd.one _ _ _) (one_int x) (by omega) (by unfold maxLen; omega) ?_; intro a5 cap5 L5 w5 ow5 kp5 st5; rw [ints_snoc] at ow5) | (go_at_call 38; refine (c_l08Sort a5 _ cap5 _ _ ow5.rd (by omega)).mono ?_; rintro e w6 ⟨a6, c6, rfl, ho6, hb6⟩))
        have hsl : (s.drop 2 ++ [x]).length = ln - 2 + 1 := ow5.lens
        have HSO := Lib.hid (show sortTo ltI (s.drop 2 ++ [x]) (ln - 2 + 1) = srt (vals (hst xs (t + 1)).l) by rw [← hsl, ← HNX2.out]; exact srt_eq _)
        have hsz1 : w.heap.size ≤ (wq.alloc (.cells #[] 3)).heap.size := Nat.le_trans hszq (by simp)
        have n4 : New w.heap.size L4 := st4.new (fun i hi => by cases hi) hsz1
        have b4 := kp4.below (hbq.alloc hszq _) (fun i hi => by cases hi) hsz1
        have hsz2 : w.heap.size ≤ (w4.alloc (.cells #[.int .i64 x] 3)).heap.size := Nat.le_trans b4.size (by simp)
        have b5 := kp5.below (b4.alloc b4.size _) n4 hsz2
        have b6 := Below.nx b5 hb6
        have ho7 := ho6.mono b5.size
        rw [HSO.out] at ho7
        clear hsl
        go_roundw
        case rel => exact ⟨t + 1, ln - 2 + 1, a6, c6, rfl, by rw [HC2.out], by omega, .inl (by omega), ho7, b6⟩
        case measure => simp [lenR2]; omega
      · have ht1 : t = n - 1 := by omega
        subst ht1
        have HC := Lib.hid (show hufC xs = (hst xs (n - 1)).c by unfold hufC; rw [HL.out])
        have h3 : ¬ (1 : Int) < (ln : Int) := by omega
        go_wp2_with fail
        go_ret
        exact ⟨by rw [HV.out, HC.out]; rfl, hb⟩

end Go.Proofs.Ythlmopndmaemnaa

/- Gaps: sorted by a gap, moves, numbers that are no sums. No condition but sizes. -/
import Derived.Test.YtpicnechmdbkfaaGapsL
import Derived.Test.YtpicnechmdbkfaaShell
import Derived.Test.YtpicnechmdbkfaaBool
import Derived.Test.YtpicnechmdbkfaaNet
import Derived.Test.YtpicnechmdbkfaaDisoV
import Derived.Deep.CutRange
import Derived.Test.YtpicnechmdbkfaaLawsH
import Derived.Test.YtpicnechmdbkfaaNear
namespace Go.Proofs.Ytpicnechmdbkfaa
open Go.RowKit
set_option linter.unusedVariables false
set_option linter.unusedSimpArgs false

open Classical in
noncomputable def hsB (xs : List Int) (h : Nat) : Bool := decide (HS xs h)
theorem hsB_yes {xs : List Int} {h : Nat} (k : HS xs h) : hsB xs h = true := by unfold hsB; simp [k]
theorem hsB_no {xs : List Int} {h : Nat} (k : ¬ HS xs h) : hsB xs h = false := by unfold hsB; simp [k]


theorem c_IsGapSorted (a : Option Addr) (n cap h : Nat) (xs : List Int) (w : World) (hr : RdI w a n cap xs) (hn : n ≤ 16) (h1 : 1 ≤ h) (h2 : h ≤ 16) :
    Calls Try.prog 27 #[.slice a n cap, .int .i64 h] w fun e w' => e = .returned (.bool (hsB xs h)) ∧ Below w.heap.size w w' := by
  have HL := Lib.hid hr.lens
  go_enter Try.func27, Try.ntmps27
  go_wp2_with (go_at_call 52; refine (c_isGap _ _ _ _ _ hn h1 h2).mono ?_; rintro e w' ⟨rfl, rfl⟩)
  go_loopw [5] (fun i wr => ∃ k : Nat, k ≤ n ∧ i = .int .i64 k ∧ (∀ j, j < k → j + h < n → nth xs j ≤ nth xs (j + h)) ∧ Below w.heap.size w wr) (fun i _ => n - (intOf i).toNat)
  case atStart => exact ⟨0, by omega, rfl, fun j h => by omega, Below.refl _ _⟩
  case round =>
    obtain ⟨k, hk1, rfl, hno, hb⟩ := hrel
    have HNO := Lib.hid hno
    clear hno
    obtain ⟨s, hs⟩ : ∃ s : Nat, (k : Int) + (h : Int) = (s : Int) := ⟨k + h, by omega⟩
    have HS' := Lib.hid hs
    by_cases hlt : s < n
    · obtain ⟨b, off, rfl, _, hc⟩ := (hr.below hb).int (by omega)
      have c1 := hc k (by omega)
      have c2 := hc s (by omega)
      have HC := Lib.hid hc
      clear hc
      by_cases hgt : nth xs s < nth xs k
      · have HV := Lib.hid (hsB_no (xs := xs) (h := h) (fun hh => by
          have := hh k (by rw [HL.out]; have := HS'.out; omega)
          rw [show k + h = s by have := HS'.out; omega] at this; omega))
        go_wp2_with fail
        go_quiet (fail)
        go_wp2_with fail
        go_ret
        exact ⟨by rw [HV.out]; rfl, by first | exact hb | exact hb.trans (below_drewN (Below.refl _ _) _)⟩
      · go_wp2_with fail
        go_quiet (fail)
        go_wp2_with fail
        go_roundw
        case rel => exact ⟨k + 1, by omega, by go_num, fun j hj hj2 => by
          by_cases e : j = k
          · subst e; rw [show j + h = s by have := HS'.out; omega]; omega
          · exact HNO.out j (by omega) hj2, by first | exact hb | exact hb.trans (below_drewN (Below.refl _ _) _)⟩
        case measure => simp [intOf]; omega
    · have HV := Lib.hid (hsB_yes (xs := xs) (h := h) (fun j hj => HNO.out j (by rw [HL.out] at hj; have := HS'.out; omega) (by rw [HL.out] at hj; exact hj)))
      go_wp2_with fail
      go_ret
      exact ⟨by rw [HV.out]; rfl, hb⟩


/-- Pairs out of order at distances h, 2 h, .. -/
def gmF (xs : List Int) (h n i : Nat) : Nat := clt (fun q => nth xs (i + h + q * h)) (nth xs i) (cnGp n h (i + h))
def gmT (xs : List Int) (h n k : Nat) : Nat := Sm (gmF xs h n) k
theorem gmF_le (xs : List Int) (h n i : Nat) (hh : 1 ≤ h) : gmF xs h n i ≤ n := Nat.le_trans (clt_le _ _ _) (cnGp_le hh)
theorem gmT_le (xs : List Int) (h n k : Nat) (hh : 1 ≤ h) : gmT xs h n k ≤ k * n := by
  induction k with
  | zero => simp [gmT, Sm]
  | succ k ih =>
    have := gmF_le xs h n k hh
    have e : gmT xs h n (k + 1) = gmT xs h n k + gmF xs h n k := rfl
    rw [e, Nat.succ_mul]; omega
theorem gm_zero {xs : List Int} {h : Nat} (hh : 1 ≤ h) (hs : HS xs h) : gmT xs h xs.length xs.length = 0 := by
  refine Sm_zero (fun i hi => ?_)
  have h1 : ∀ m, m ≤ cnGp xs.length h (i + h) → clt (fun q => nth xs (i + h + q * h)) (nth xs i) m = 0 := by
    intro m
    induction m with
    | zero => intro _; rfl
    | succ m ih =>
      intro hm
      have h2 := (cnGp_lt hh).1 (show m < cnGp xs.length h (i + h) by omega)
      have h3 := HS_mul hs (m + 1) i (by rw [Nat.succ_mul]; omega)
      rw [Nat.succ_mul, show i + (m * h + h) = i + h + m * h by omega] at h3
      simp only [clt]
      rw [ih (by omega), if_neg (by omega)]
  exact h1 _ (Nat.le_refl _)
theorem Sm_le_at {f : Nat → Nat} {n i : Nat} (h : i < n) : f i ≤ Sm f n := by
  rw [Sm_at h]; omega
theorem gm_none {xs : List Int} {h : Nat} (hh : 1 ≤ h) (h0 : gmT xs h xs.length xs.length = 0) : HS xs h := by
  intro i hi
  apply Classical.byContradiction
  intro hn
  have h1 := Sm_le_at (f := gmF xs h xs.length) (n := xs.length) (i := i) (by omega)
  have h2 : 0 < cnGp xs.length h (i + h) := (cnGp_lt hh).2 (by omega)
  have h3 := clt_mono (fun q => nth xs (i + h + q * h)) (nth xs i) (show 1 ≤ cnGp xs.length h (i + h) from h2)
  have h4 : clt (fun q => nth xs (i + h + q * h)) (nth xs i) 1 = 1 := by
    simp only [clt, Nat.zero_mul, Nat.add_zero]; rw [if_pos (by omega)]
  have e : gmT xs h xs.length xs.length = Sm (gmF xs h xs.length) xs.length := rfl
  have e2 : gmF xs h xs.length i = clt (fun q => nth xs (i + h + q * h)) (nth xs i) (cnGp xs.length h (i + h)) := rfl
  omega
theorem gm_one (xs : List Int) : gmT xs 1 xs.length xs.length = sumC xs xs.length := by
  have h1 : ∀ i m, clt (fun q => nth xs (i + 1 + q * 1)) (nth xs i) m = cntL xs i (i + 1 + m) := by
    intro i m
    induction m with
    | zero => rw [cntL_zero _ _ _ (by omega)]; rfl
    | succ m ih =>
      rw [show i + 1 + (m + 1) = (i + 1 + m) + 1 by omega]
      simp only [clt, cntL, Nat.mul_one] at ih ⊢
      rw [ih]
      by_cases e : nth xs (i + 1 + m) < nth xs i
      · rw [if_pos e, if_pos ⟨by omega, e⟩]
      · rw [if_neg e, if_neg (fun x => e x.2)]
  have h2 : ∀ k, k ≤ xs.length → gmT xs 1 xs.length k = sumL xs xs.length k := by
    intro k
    induction k with
    | zero => intro _; rfl
    | succ k ih =>
      intro hk
      have e : gmT xs 1 xs.length (k + 1) = gmT xs 1 xs.length k + gmF xs 1 xs.length k := rfl
      rw [e, ih (by omega)]
      simp only [sumL]
      unfold gmF
      rw [h1]
      have : k + 1 + cnGp xs.length 1 (k + 1) = xs.length := by
        unfold cnGp; split
        · rw [Nat.div_one]; omega
        · omega
      rw [this]
  rw [h2 _ (Nat.le_refl _), sumL_eq]


set_option maxHeartbeats 1000000 in
theorem c_GapMoves (a : Option Addr) (n cap h : Nat) (xs : List Int) (w : World) (hr : RdI w a n cap xs) (hn : n ≤ 16) (h1 : 1 ≤ h) (h2 : h ≤ 16) :
    Calls Try.prog 28 #[.slice a n cap, .int .i64 h] w fun e w' => e = .returned (.int .i64 (gmT xs h n n)) ∧ Below w.heap.size w w' := by
  have HL := Lib.hid hr.lens
  go_enter Try.func28, Try.ntmps28
  go_wp2_with (go_at_call 52; refine (c_isGap _ _ _ _ _ hn h1 h2).mono ?_; rintro e w' ⟨rfl, rfl⟩)
  go_loopw [5, 15] (fun v i wr => ∃ k : Nat, k ≤ n ∧ i = .int .i64 k ∧ v = .int .i64 (gmT xs h n k) ∧ Below w.heap.size w wr) (fun _ i _ => n - (intOf i).toNat)
  case atStart => exact ⟨0, by omega, rfl, rfl, Below.refl _ _⟩
  case round =>
    obtain ⟨k, hk, rfl, rfl, hb⟩ := hrel
    have hle := gmT_le xs h n k h1
    have hkn : k * n ≤ 16 * 16 := Nat.mul_le_mul (by omega) hn
    have HE := Lib.hid (show gmT xs h n (k + 1) = gmT xs h n k + clt (fun q => nth xs (k + h + q * h)) (nth xs k) (cnGp n h (k + h)) from rfl)
    obtain ⟨v, hv⟩ : ∃ v, gmT xs h n k = v := ⟨_, rfl⟩
    rw [hv] at hle ⊢
    have HV := Lib.hid hv
    clear hv
    by_cases hlt : k < n
    · obtain ⟨b, off, rfl, _, hc⟩ := (hr.below hb).int (by omega)
      have c1 := hc k hlt
      obtain ⟨x, hx⟩ : ∃ x, nth xs k = x := ⟨_, rfl⟩
      rw [hx] at c1
      have HX := Lib.hid hx
      clear hc hx
      go_wp2_with fail
      obtain ⟨wo, rfl⟩ : ∃ wo : World, wo = wr := ⟨_, rfl⟩
      go_loopw [5, 8] (fun u i wr => ∃ q j : Nat, j = k + h + q * h ∧ q ≤ cnGp n h (k + h) ∧ i = .int .i64 j ∧ u = .int .i64 ((v + clt (fun q => nth xs (k + h + q * h)) x q : Nat) : Int) ∧ Below w.heap.size w wr) (fun _ i _ => 64 - (intOf i).toNat)
      case atStart => exact ⟨0, k + h, by omega, by omega, by go_num, rfl, hb⟩
      case round =>
        obtain ⟨q, j, hj, hq, rfl, rfl, hb2⟩ := hrel
        have hcl := clt_le (fun q => nth xs (k + h + q * h)) x q
        have hcn := cnGp_le (n := n) (h := h) (r := k + h) h1
        have HJ := Lib.hid hj
        have HC := Lib.hid (show clt (fun q => nth xs (k + h + q * h)) x (q + 1) = clt (fun q => nth xs (k + h + q * h)) x q + if nth xs j < x then 1 else 0 by rw [hj]; rfl)
        have HQ := Lib.hid (show j < n → q < cnGp n h (k + h) from fun h3 => (cnGp_lt h1).2 (by omega))
        have HQ2 := Lib.hid (show ¬ j < n → q = cnGp n h (k + h) from fun h3 => cnGp_eq h1 hq (by omega))
        obtain ⟨u, hu⟩ : ∃ u, clt (fun q => nth xs (k + h + q * h)) x q = u := ⟨_, rfl⟩
        rw [hu] at hcl HC ⊢
        have HU := Lib.hid hu
        clear hu
        obtain ⟨t, ht⟩ : ∃ t, v + u = t := ⟨_, rfl⟩
        rw [ht]
        have HT := Lib.hid ht
        have htl : t ≤ 300 := by omega
        clear hj hq ht
        by_cases hjn : j < n
        · obtain ⟨b', off', hbe, _, hc⟩ := (hr.below hb2).int (by omega)
          cases hbe
          have c2 := hc j hjn
          clear hc
          by_cases hgt : nth xs j < x
          · go_wp2_with fail
            go_roundw
            case rel => exact ⟨q + 1, j + h, by have := HJ.out; rw [Nat.succ_mul]; omega, HQ.out hjn, by go_num, int_eq (by rw [HC.out, if_pos hgt]; have := HT.out; omega), by first | exact hb2 | exact hb2.trans (below_drewN (Below.refl _ _) _)⟩
            case measure => simp [intOf]; omega
          · go_wp2_with fail
            go_roundw
            case rel => exact ⟨q + 1, j + h, by have := HJ.out; rw [Nat.succ_mul]; omega, HQ.out hjn, by go_num, int_eq (by rw [HC.out, if_neg hgt]; have := HT.out; omega), by first | exact hb2 | exact hb2.trans (below_drewN (Below.refl _ _) _)⟩
            case measure => simp [intOf]; omega
        · go_wp2_with fail
          go_roundw
          case rel => exact ⟨k + 1, by omega, by go_num, int_eq (by rw [HE.out, HV.out, HX.out, ← HQ2.out hjn, HU.out]; have := HT.out; omega), hb2⟩
          case measure => simp [intOf]; omega
    · obtain rfl : k = n := by omega
      go_wp2_with fail
      go_ret
      exact ⟨ret_int (by rw [HV.out]), hb⟩


/-- Sums of a's and b's. -/
def Rep (a b n : Nat) : Prop := ∃ i j, n = i * a + j * b
def repB (a b n : Nat) : Bool := (List.range (n + 1)).any fun i => (List.range (n + 1)).any fun j => n == i * a + j * b
theorem repB_iff {a b n : Nat} (ha : 1 ≤ a) (hb : 1 ≤ b) : repB a b n = true ↔ Rep a b n := by
  unfold repB Rep
  simp only [List.any_eq_true, List.mem_range, beq_iff_eq]
  constructor
  · rintro ⟨i, _, j, _, e⟩; exact ⟨i, j, e⟩
  · rintro ⟨i, j, e⟩
    have h1 : i * 1 ≤ i * a := Nat.mul_le_mul_left i ha
    have h2 : j * 1 ≤ j * b := Nat.mul_le_mul_left j hb
    exact ⟨i, by omega, j, by omega, e⟩
theorem rep_step {a b n : Nat} (hn : 1 ≤ n) : Rep a b n ↔ (a ≤ n ∧ Rep a b (n - a)) ∨ (b ≤ n ∧ Rep a b (n - b)) := by
  constructor
  · rintro ⟨i, j, e⟩
    cases i with
    | zero =>
      cases j with
      | zero => omega
      | succ j => refine Or.inr ⟨by rw [e, Nat.succ_mul]; omega, 0, j, ?_⟩; rw [e, Nat.succ_mul]; omega
    | succ i => refine Or.inl ⟨by rw [e, Nat.succ_mul]; omega, i, j, ?_⟩; rw [e, Nat.succ_mul]; omega
  · rintro (⟨h, i, j, e⟩ | ⟨h, i, j, e⟩)
    · exact ⟨i + 1, j, by rw [Nat.succ_mul]; omega⟩
    · exact ⟨i, j + 1, by rw [Nat.succ_mul]; omega⟩
theorem repB_step {a b n : Nat} (ha : 1 ≤ a) (hb : 1 ≤ b) (hn : 1 ≤ n) : repB a b n = ((decide (a ≤ n) && repB a b (n - a)) || (decide (b ≤ n) && repB a b (n - b))) := by
  rw [Bool.eq_iff_iff]
  simp only [Bool.or_eq_true, Bool.and_eq_true, decide_eq_true_iff, repB_iff ha hb]
  exact rep_step hn
def rlB (a b N n : Nat) : List Bool := (List.range N).map fun m => decide (m < n) && repB a b m
theorem rlB_len (a b N n : Nat) : (rlB a b N n).length = N := by simp [rlB]
theorem getB_rlB {a b N n m : Nat} (h : m < N) : getB (rlB a b N n) m = (decide (m < n) && repB a b m) := by
  simp [getB, List.getD, rlB, h]
theorem rlB_set (a b N n : Nat) (h : n < N) : (rlB a b N n).set n (repB a b n) = rlB a b N (n + 1) := by
  apply List.ext_getElem (by simp [rlB])
  intro i h1 h2
  rw [rlB_len] at h2
  rw [List.getElem_set]
  by_cases e : n = i
  · subst e; simp [rlB]
  · rw [if_neg e]
    simp only [rlB, List.getElem_map, List.getElem_range]
    congr 1
    simp only [decide_eq_decide]; omega
def unL (a b n : Nat) : List Int := ((List.range n).filter fun m => !repB a b m).map fun m : Nat => (m : Int)
theorem unL_succ (a b n : Nat) : unL a b (n + 1) = if repB a b n = true then unL a b n else unL a b n ++ [(n : Int)] := by
  unfold unL
  rw [List.range_succ, List.filter_append, List.map_append]
  by_cases e : repB a b n = true
  · rw [if_pos e]; simp [e]
  · rw [if_neg e]; simp [e]
theorem unL_le (a b n : Nat) : (unL a b n).length ≤ n := by
  unfold unL; rw [List.length_map]; exact Nat.le_trans (List.length_filter_le _ _) (by simp)
def unV (a b : Nat) : List Int := if Nat.gcd a b = 1 then unL a b (a * b) else []


theorem c_gcd (a b : Nat) (w : World) (ha : a ≤ 100) (hb : b ≤ 100) : Calls Try.prog 55 #[.int .i64 a, .int .i64 b] w fun e w' => e = .returned (.int .i64 (Nat.gcd a b : Nat)) ∧ Below w.heap.size w w' := by
  go_enter Try.func55, Try.ntmps55
  go_wp2_with fail
  go_loopw [0, 1] (fun u v wr => ∃ x y : Nat, x ≤ 100 ∧ y ≤ 100 ∧ u = .int .i64 x ∧ v = .int .i64 y ∧ Nat.gcd x y = Nat.gcd a b ∧ Below w.heap.size w wr) (fun _ v _ => (intOf v).toNat)
  case atStart => exact ⟨a, b, ha, hb, rfl, rfl, rfl, Below.refl _ _⟩
  case round =>
    obtain ⟨x, y, hx, hy, rfl, rfl, hg, hbw⟩ := hrel
    have HG := Lib.hid hg
    clear hg
    by_cases h0 : y = 0
    · subst h0
      have HX := Lib.hid (show x = Nat.gcd a b by rw [← HG.out, Nat.gcd_zero_right])
      go_wp2_with fail
      go_ret
      exact ⟨ret_int (by rw [← HX.out]), hbw⟩
    · have h1 : ((y : Int) == 0) = false := by simp; omega
      have h2 : ((y : Int) != 0) = true := by simp; omega
      obtain ⟨m, hm⟩ : ∃ m, x % y = m := ⟨_, rfl⟩
      have hml : m < y := by rw [← hm]; exact Nat.mod_lt _ (by omega)
      have ht : Int.tmod (x : Int) (y : Int) = (m : Int) := by rw [Int.tmod_eq_emod_of_nonneg (by omega), ← hm]; rfl
      have HM := Lib.hid hm
      clear hm
      go_wp2_with fail
      go_quiet (fail)
      go_wp2_with fail
      go_roundw
      case rel => exact ⟨y, m, hy, by omega, rfl, rfl, by rw [← HG.out, ← HM.out, Nat.gcd_comm y, ← Nat.gcd_rec, Nat.gcd_comm], by first | exact hbw | exact hbw.trans (below_drewN (Below.refl _ _) _)⟩
      case measure => simp [intOf]; omega




set_option maxRecDepth 100000 in
set_option maxHeartbeats 4000000 in
theorem c_Unreached (a b : Nat) (w : World) (ha : 1 ≤ a) (ha9 : a ≤ 9) (hb : 1 ≤ b) (hb9 : b ≤ 9) :
    Calls Try.prog 29 #[.int .i64 a, .int .i64 b] w fun e w' => ∃ sa sn sc, e = .returned (.slice sa sn sc) ∧ OwI w' 3 w.heap.size sa sn sc (unV a b) ∧ sn ≤ 100 ∧ Below w.heap.size w w' := by
  have CG := c_gcd a b w (by omega) (by omega)
  obtain ⟨g0, hg0⟩ : ∃ g0, Nat.gcd a b = g0 := ⟨_, rfl⟩
  rw [hg0] at CG
  have CG := Lib.hid CG
  obtain ⟨N, hN⟩ : ∃ N, a * b = N := ⟨_, rfl⟩
  have hN1 : 1 ≤ N := by rw [← hN]; exact Nat.mul_pos ha hb
  have hN81 : N ≤ 81 := by rw [← hN]; exact Nat.mul_le_mul ha9 hb9
  have hmul : IntKind.i64.wrap ((a : Int) * (b : Int)) = (N : Int) := by rw [← Int.natCast_mul, hN, IntKind.wrap_i64]; omega
  have HV := Lib.hid (show unV a b = if g0 = 1 then unL a b N else [] by unfold unV; simp only [hg0, hN])
  have HA := Lib.hid ha
  have HB := Lib.hid hb
  clear hg0 hN
  by_cases hg1 : g0 = 1
  case neg =>
    have h1 : ((g0 : Int) == 1) = false := by simp; omega
    have h2 : ((g0 : Int) != 1) = true := by simp; omega
    go_enter Try.func29, Try.ntmps29
    go_wp2_with fail
    refine CG.out.mono ?_
    rintro e w1 ⟨rfl, b1⟩
    go_wp2_with fail
    go_ret
    exact ⟨_, _, _, rfl, by rw [HV.out, if_neg hg1]; exact ⟨[], Ow.bare _ _ _, fun _ h => by cases h⟩, by omega, b1⟩
  have HV := Lib.hid (show unV a b = unL a b N by rw [HV.out, if_pos hg1])
  subst hg1
  have hmk := run_make_row' (P := Try.prog) 54 4 (.bool false) 1 Try.underlying54 infoBool rfl .i64 .i64 N (by omega) (by omega)
  have hm0 : (madeCells #[Value.bool false] N)[0]? = some (.bool false) := by
    have h1 : (madeCells #[Value.bool false] N).toList = List.replicate N (.bool false) := by rw [toList_madeCells_one]
    rw [← Array.getElem?_toList, h1, List.getElem?_replicate, if_pos (by omega)]
  have d1 : decide ((a : Int) < 1) = false := decide_eq_false (by omega)
  have d2 : decide ((9 : Int) < (a : Int)) = false := decide_eq_false (by omega)
  have d3 : decide ((b : Int) < 1) = false := decide_eq_false (by omega)
  have d4 : decide ((9 : Int) < (b : Int)) = false := decide_eq_false (by omega)
  go_enter Try.func29, Try.ntmps29
  go_wp2_with fail
  refine CG.out.mono ?_
  rintro e w1 ⟨rfl, b1⟩
  clear CG
  go_wp2_with fail
  have hsz : ((madeCells #[Value.bool false] N).setIfInBounds 0 (Value.bool true)).size = N := by rw [Array.size_setIfInBounds]; exact size_madeCells _ _
  have htl : ((madeCells #[Value.bool false] N).setIfInBounds 0 (Value.bool true)).toList = bools (rlB a b N 1) := by
    rw [Array.toList_setIfInBounds, toList_madeCells_one]
    apply List.ext_getElem (by simp [rlB])
    intro i h1 h2
    simp only [List.length_set, List.length_replicate] at h1
    have h0 : repB a b 0 = true := (repB_iff HA.out HB.out).2 ⟨0, 0, by omega⟩
    rw [List.getElem_set]
    by_cases e : i = 0
    · subst e; simp [bools, rlB, h0]
    · rw [if_neg (by omega)]; simp [bools, rlB]; omega
  have own0 : Ow (w1.alloc (.cells ((madeCells #[Value.bool false] N).setIfInBounds 0 (Value.bool true)) 4)) 4 [w1.heap.size] (some ⟨w1.heap.size, 0, none⟩) N N (bools (rlB a b N 1)) := Ow.new' _ _ _ _ _ hsz htl (by unfold maxLen; omega)
  have bb0 : Below w.heap.size w (w1.alloc (.cells ((madeCells #[Value.bool false] N).setIfInBounds 0 (Value.bool true)) 4)) := b1.alloc b1.size _
  obtain ⟨g, hg⟩ : ∃ g, w1.heap.size = g := ⟨_, rfl⟩
  obtain ⟨w2, hw2⟩ : ∃ w2, w1.alloc (.cells ((madeCells #[Value.bool false] N).setIfInBounds 0 (Value.bool true)) 4) = w2 := ⟨_, rfl⟩
  have hgw : w.heap.size ≤ g := by rw [← hg]; exact b1.size
  have hs2 : w2.heap.size = g + 1 := by rw [← hw2, ← hg]; simp
  rw [hw2, hg] at own0
  rw [hw2] at bb0 ⊢
  rw [hg]
  have HS2 := Lib.hid hs2
  have hU1 : unL a b 1 = [] := by
    have h0 : repB a b 0 = true := (repB_iff HA.out HB.out).2 ⟨0, 0, by omega⟩
    simp [unL, h0]
  have HU1 := Lib.hid hU1
  clear hsz htl hmk hm0 hs2 hw2 hg hU1 b1
  go_loopw [6, 7] (fun u i wr => ∃ k : Nat, ∃ L sa m sc, 1 ≤ k ∧ k ≤ N ∧ i = .int .i64 k ∧ u = .slice sa m sc ∧ Ow wr 3 L sa m sc (ints (unL a b k)) ∧ New (g + 1) L ∧ Ow wr 4 [g] (some ⟨g, 0, none⟩) N N (bools (rlB a b N k)) ∧ Below w.heap.size w wr ∧ w2.heap.size ≤ wr.heap.size) (fun _ i _ => N - (intOf i).toNat)
  case atStart =>
    refine ⟨1, [], _, _, _, by omega, hN1, rfl, rfl, by rw [HU1.out]; exact Ow.bare _ _ _, fun _ h => (by cases h), own0.alloc _, bb0.alloc bb0.size _, by simp⟩
  case round =>
    as_aux_lemma =>
    obtain ⟨k, L, sa, m, sc, hk1, hkN, rfl, rfl, how, hnew, hob, hbw, hsz⟩ := hrel
    have hml : (unL a b k).length = m := how.lens
    have hul := unL_le a b k
    by_cases hlt : k < N
    · obtain ⟨g', e1, _, hgl, hoc, hof⟩ := hob.bool (by omega)
      obtain rfl : g = g' := by simpa using e1
      clear e1
      have ck := hoc k hlt
      rw [getB_rlB hlt] at ck
      rw [show (decide (k < k) && repB a b k) = false by simp] at ck
      have fk := hof k
      have hst := repB_step HA.out HB.out hk1
      have hus := unL_succ a b k
      have hap : Apart L [g] := fun j hj h => by have := hnew j hj; simp at h; omega
      rcases Nat.lt_or_ge k a with hka | hka
      · have g1 : decide ((a : Int) ≤ (k : Int)) = false := decide_eq_false (by omega)
        have n1 : decide (a ≤ k) = false := decide_eq_false (by omega)
        rw [n1] at hst
        rcases Nat.lt_or_ge k b with hkb | hkb
        · have g2 : decide ((b : Int) ≤ (k : Int)) = false := decide_eq_false (by omega)
          have n2 : decide (b ≤ k) = false := decide_eq_false (by omega)
          clear hoc hof
          rw [n2] at hst
          have HR := Lib.hid (show repB a b k = false by rw [hst]; simp [*])
          have HU := Lib.hid (show unL a b (k + 1) = unL a b k ++ [(k : Int)] by rw [hus, if_neg (by rw [HR.out]; simp)])
          have HB1 := Lib.hid (rlB_set a b N k hlt)
          have how1 := (how.keep (Keeps.setCell wr g k (.bool false)) hap).alloc (.cells #[.int .i64 (k : Int)] 3)
          clear hst hus
          go_wp2_with ((with_reducible show wpList _ _ _ (⟨some 77, _, _, _, _, _⟩ :: _) _ _); refine wpList_app _ rfl _ _ 23 rfl 3 Try.underlying23 infoInt rfl rfl rfl how1 (Rd.one' _ _ _ _ (by simp)) (one_int _) (by omega) (by unfold maxLen; omega) ?_; intro a5 cap5 L5 w5 ow5 kp5 st5)
          go_roundw
          case rel =>
            have b4 : Below w.heap.size w (wr.setCell ⟨g, k, none⟩ (.bool false)) := hbw.setCell hgw _
            have b5 : Below w.heap.size w ((wr.setCell ⟨g, k, none⟩ (.bool false)).alloc (.cells #[.int .i64 (k : Int)] 3)) := b4.alloc b4.size _
            have s5 : New (g + 1) L5 := st5.new hnew (by have := HS2.out; simp; omega)
            refine ⟨k + 1, L5, a5, m + 1, cap5, by omega, by omega, by go_num, rfl, by rw [HU.out, ← ints_snoc]; exact ow5, s5, ?_, ?_, ?_⟩
            · have := (hob.set k (.bool false)).alloc (.cells #[.int .i64 (k : Int)] 3)
              rw [bools_set, show (rlB a b N k).set k false = rlB a b N (k + 1) by rw [← HR.out]; exact HB1.out] at this
              exact this.keep kp5 hap.symm
            · exact kp5.below b5 (hnew.mono (by omega)) b5.size
            · have := kp5.size; simp at this; omega
          case measure => simp [intOf]; omega
        · obtain ⟨p2, hp2⟩ : ∃ p2 : Nat, (k : Int) - (b : Int) = (p2 : Int) := ⟨k - b, by omega⟩
          have c2 := hoc p2 (by omega)
          rw [getB_rlB (by omega), show decide (p2 < k) = true from decide_eq_true (by omega), Bool.true_and] at c2
          rw [show k - b = p2 by omega] at hst
          obtain ⟨r2, hr2⟩ : ∃ r2, repB a b p2 = r2 := ⟨_, rfl⟩
          rw [hr2] at hst c2
          have g2 : decide ((b : Int) ≤ (k : Int)) = true := decide_eq_true (by omega)
          have n2 : decide (b ≤ k) = true := decide_eq_true (by omega)
          have l2 : p2 < N := by omega
          clear hr2
          clear hoc hof
          rw [n2] at hst
          cases r2
          · have HR := Lib.hid (show repB a b k = false by rw [hst]; simp [*])
            have HU := Lib.hid (show unL a b (k + 1) = unL a b k ++ [(k : Int)] by rw [hus, if_neg (by rw [HR.out]; simp)])
            have HB1 := Lib.hid (rlB_set a b N k hlt)
            have how1 := (how.keep (Keeps.setCell wr g k (.bool false)) hap).alloc (.cells #[.int .i64 (k : Int)] 3)
            clear hst hus
            go_wp2_with ((with_reducible show wpList _ _ _ (⟨some 77, _, _, _, _, _⟩ :: _) _ _); refine wpList_app _ rfl _ _ 23 rfl 3 Try.underlying23 infoInt rfl rfl rfl how1 (Rd.one' _ _ _ _ (by simp)) (one_int _) (by omega) (by unfold maxLen; omega) ?_; intro a5 cap5 L5 w5 ow5 kp5 st5)
            go_roundw
            case rel =>
              have b4 : Below w.heap.size w (wr.setCell ⟨g, k, none⟩ (.bool false)) := hbw.setCell hgw _
              have b5 : Below w.heap.size w ((wr.setCell ⟨g, k, none⟩ (.bool false)).alloc (.cells #[.int .i64 (k : Int)] 3)) := b4.alloc b4.size _
              have s5 : New (g + 1) L5 := st5.new hnew (by have := HS2.out; simp; omega)
              refine ⟨k + 1, L5, a5, m + 1, cap5, by omega, by omega, by go_num, rfl, by rw [HU.out, ← ints_snoc]; exact ow5, s5, ?_, ?_, ?_⟩
              · have := (hob.set k (.bool false)).alloc (.cells #[.int .i64 (k : Int)] 3)
                rw [bools_set, show (rlB a b N k).set k false = rlB a b N (k + 1) by rw [← HR.out]; exact HB1.out] at this
                exact this.keep kp5 hap.symm
              · exact kp5.below b5 (hnew.mono (by omega)) b5.size
              · have := kp5.size; simp at this; omega
            case measure => simp [intOf]; omega
          · have HR := Lib.hid (show repB a b k = true by rw [hst]; simp [*])
            have HU := Lib.hid (show unL a b (k + 1) = unL a b k by rw [hus, if_pos HR.out])
            have HB1 := Lib.hid (rlB_set a b N k hlt)
            clear hst hus
            go_wp2_with fail
            go_roundw
            case rel =>
              refine ⟨k + 1, L, sa, m, sc, by omega, by omega, by go_num, rfl, ?_, hnew, ?_, ?_, ?_⟩
              · rw [HU.out]; exact how.keep (Keeps.setCell wr g k (.bool true)) hap
              · have := hob.set k (.bool true)
                rw [bools_set, show (rlB a b N k).set k true = rlB a b N (k + 1) by rw [← HR.out]; exact HB1.out] at this
                exact this
              · exact hbw.setCell hgw _
              · simpa using hsz
            case measure => simp [intOf]; omega
      · obtain ⟨p1, hp1⟩ : ∃ p1 : Nat, (k : Int) - (a : Int) = (p1 : Int) := ⟨k - a, by omega⟩
        have c1 := hoc p1 (by omega)
        rw [getB_rlB (by omega), show decide (p1 < k) = true from decide_eq_true (by omega), Bool.true_and] at c1
        rw [show k - a = p1 by omega] at hst
        obtain ⟨r1, hr1⟩ : ∃ r1, repB a b p1 = r1 := ⟨_, rfl⟩
        rw [hr1] at hst c1
        have g1 : decide ((a : Int) ≤ (k : Int)) = true := decide_eq_true (by omega)
        have n1 : decide (a ≤ k) = true := decide_eq_true (by omega)
        have l1 : p1 < N := by omega
        clear hr1
        rw [n1] at hst
        cases r1
        · rcases Nat.lt_or_ge k b with hkb | hkb
          · have g2 : decide ((b : Int) ≤ (k : Int)) = false := decide_eq_false (by omega)
            have n2 : decide (b ≤ k) = false := decide_eq_false (by omega)
            clear hoc hof
            rw [n2] at hst
            have HR := Lib.hid (show repB a b k = false by rw [hst]; simp [*])
            have HU := Lib.hid (show unL a b (k + 1) = unL a b k ++ [(k : Int)] by rw [hus, if_neg (by rw [HR.out]; simp)])
            have HB1 := Lib.hid (rlB_set a b N k hlt)
            have how1 := (how.keep (Keeps.setCell wr g k (.bool false)) hap).alloc (.cells #[.int .i64 (k : Int)] 3)
            clear hst hus
            go_wp2_with ((with_reducible show wpList _ _ _ (⟨some 77, _, _, _, _, _⟩ :: _) _ _); refine wpList_app _ rfl _ _ 23 rfl 3 Try.underlying23 infoInt rfl rfl rfl how1 (Rd.one' _ _ _ _ (by simp)) (one_int _) (by omega) (by unfold maxLen; omega) ?_; intro a5 cap5 L5 w5 ow5 kp5 st5)
            go_roundw
            case rel =>
              have b4 : Below w.heap.size w (wr.setCell ⟨g, k, none⟩ (.bool false)) := hbw.setCell hgw _
              have b5 : Below w.heap.size w ((wr.setCell ⟨g, k, none⟩ (.bool false)).alloc (.cells #[.int .i64 (k : Int)] 3)) := b4.alloc b4.size _
              have s5 : New (g + 1) L5 := st5.new hnew (by have := HS2.out; simp; omega)
              refine ⟨k + 1, L5, a5, m + 1, cap5, by omega, by omega, by go_num, rfl, by rw [HU.out, ← ints_snoc]; exact ow5, s5, ?_, ?_, ?_⟩
              · have := (hob.set k (.bool false)).alloc (.cells #[.int .i64 (k : Int)] 3)
                rw [bools_set, show (rlB a b N k).set k false = rlB a b N (k + 1) by rw [← HR.out]; exact HB1.out] at this
                exact this.keep kp5 hap.symm
              · exact kp5.below b5 (hnew.mono (by omega)) b5.size
              · have := kp5.size; simp at this; omega
            case measure => simp [intOf]; omega
          · obtain ⟨p2, hp2⟩ : ∃ p2 : Nat, (k : Int) - (b : Int) = (p2 : Int) := ⟨k - b, by omega⟩
            have c2 := hoc p2 (by omega)
            rw [getB_rlB (by omega), show decide (p2 < k) = true from decide_eq_true (by omega), Bool.true_and] at c2
            rw [show k - b = p2 by omega] at hst
            obtain ⟨r2, hr2⟩ : ∃ r2, repB a b p2 = r2 := ⟨_, rfl⟩
            rw [hr2] at hst c2
            have g2 : decide ((b : Int) ≤ (k : Int)) = true := decide_eq_true (by omega)
            have n2 : decide (b ≤ k) = true := decide_eq_true (by omega)
            have l2 : p2 < N := by omega
            clear hr2
            clear hoc hof
            rw [n2] at hst
            cases r2
            · have HR := Lib.hid (show repB a b k = false by rw [hst]; simp [*])
              have HU := Lib.hid (show unL a b (k + 1) = unL a b k ++ [(k : Int)] by rw [hus, if_neg (by rw [HR.out]; simp)])
              have HB1 := Lib.hid (rlB_set a b N k hlt)
              have how1 := (how.keep (Keeps.setCell wr g k (.bool false)) hap).alloc (.cells #[.int .i64 (k : Int)] 3)
              clear hst hus
              go_wp2_with ((with_reducible show wpList _ _ _ (⟨some 77, _, _, _, _, _⟩ :: _) _ _); refine wpList_app _ rfl _ _ 23 rfl 3 Try.underlying23 infoInt rfl rfl rfl how1 (Rd.one' _ _ _ _ (by simp)) (one_int _) (by omega) (by unfold maxLen; omega) ?_; intro a5 cap5 L5 w5 ow5 kp5 st5)
              go_roundw
              case rel =>
                have b4 : Below w.heap.size w (wr.setCell ⟨g, k, none⟩ (.bool false)) := hbw.setCell hgw _
                have b5 : Below w.heap.size w ((wr.setCell ⟨g, k, none⟩ (.bool false)).alloc (.cells #[.int .i64 (k : Int)] 3)) := b4.alloc b4.size _
                have s5 : New (g + 1) L5 := st5.new hnew (by have := HS2.out; simp; omega)
                refine ⟨k + 1, L5, a5, m + 1, cap5, by omega, by omega, by go_num, rfl, by rw [HU.out, ← ints_snoc]; exact ow5, s5, ?_, ?_, ?_⟩
                · have := (hob.set k (.bool false)).alloc (.cells #[.int .i64 (k : Int)] 3)
                  rw [bools_set, show (rlB a b N k).set k false = rlB a b N (k + 1) by rw [← HR.out]; exact HB1.out] at this
                  exact this.keep kp5 hap.symm
                · exact kp5.below b5 (hnew.mono (by omega)) b5.size
                · have := kp5.size; simp at this; omega
              case measure => simp [intOf]; omega
            · have HR := Lib.hid (show repB a b k = true by rw [hst]; simp [*])
              have HU := Lib.hid (show unL a b (k + 1) = unL a b k by rw [hus, if_pos HR.out])
              have HB1 := Lib.hid (rlB_set a b N k hlt)
              clear hst hus
              go_wp2_with fail
              go_roundw
              case rel =>
                refine ⟨k + 1, L, sa, m, sc, by omega, by omega, by go_num, rfl, ?_, hnew, ?_, ?_, ?_⟩
                · rw [HU.out]; exact how.keep (Keeps.setCell wr g k (.bool true)) hap
                · have := hob.set k (.bool true)
                  rw [bools_set, show (rlB a b N k).set k true = rlB a b N (k + 1) by rw [← HR.out]; exact HB1.out] at this
                  exact this
                · exact hbw.setCell hgw _
                · simpa using hsz
              case measure => simp [intOf]; omega
        · clear hoc hof
          have HR := Lib.hid (show repB a b k = true by rw [hst]; simp [*])
          have HU := Lib.hid (show unL a b (k + 1) = unL a b k by rw [hus, if_pos HR.out])
          have HB1 := Lib.hid (rlB_set a b N k hlt)
          clear hst hus
          go_wp2_with fail
          go_roundw
          case rel =>
            refine ⟨k + 1, L, sa, m, sc, by omega, by omega, by go_num, rfl, ?_, hnew, ?_, ?_, ?_⟩
            · rw [HU.out]; exact how.keep (Keeps.setCell wr g k (.bool true)) hap
            · have := hob.set k (.bool true)
              rw [bools_set, show (rlB a b N k).set k true = rlB a b N (k + 1) by rw [← HR.out]; exact HB1.out] at this
              exact this
            · exact hbw.setCell hgw _
            · simpa using hsz
          case measure => simp [intOf]; omega
    · obtain rfl : k = N := by omega
      go_wp2_with fail
      go_ret
      exact ⟨_, _, _, rfl, ⟨L, by rw [HV.out]; exact how, fun j hj => by have := hnew j hj; omega⟩, by omega, hbw⟩



def guV (a b : Nat) : Int := if (unV a b).length = 0 then -1 else nth (unV a b) ((unV a b).length - 1)

theorem c_GreatestUnreached (a b : Nat) (w : World) (ha : 1 ≤ a) (ha9 : a ≤ 9) (hb : 1 ≤ b) (hb9 : b ≤ 9) :
    Calls Try.prog 30 #[.int .i64 a, .int .i64 b] w fun e w' => e = .returned (.int .i64 (guV a b)) ∧ Below w.heap.size w w' := by
  have C1 := Lib.hid (c_Unreached a b w ha ha9 hb hb9)
  go_enter Try.func30, Try.ntmps30
  go_wp2_with fail
  refine C1.out.mono ?_
  rintro e w1 ⟨sa, sn, sc, rfl, ⟨L, how, _⟩, hsn, b1⟩
  clear C1
  have hl := how.lens
  by_cases h0 : sn = 0
  · subst h0
    have HV := Lib.hid (show guV a b = -1 by unfold guV; rw [if_pos hl])
    clear hl
    go_wp2_with fail
    go_ret
    exact ⟨ret_int (by rw [HV.out]), b1⟩
  · obtain ⟨g, rfl, rfl, _, hc, _⟩ := how.int (by have := how.le; omega)
    obtain ⟨p, hp, hp2⟩ : ∃ p : Nat, (sn : Int) - 1 = (p : Int) ∧ p = sn - 1 := ⟨sn - 1, by omega, rfl⟩
    have c1 := hc p (by omega)
    have HV := Lib.hid (show guV a b = nth (unV a b) p by unfold guV; rw [if_neg (by omega), hl, hp2])
    have h1 : ((sn : Int) == 0) = false := by simp; omega
    have hpl : p < sn := by omega
    have hwp : IntKind.i64.wrap (p : Int) = (p : Int) := by rw [IntKind.wrap_i64]; omega
    clear hc hl hp2 h0
    go_wp2_with fail
    go_ret
    exact ⟨ret_int (by rw [HV.out]), b1⟩



theorem c_has (a : Option Addr) (n cap : Nat) (xs : List Int) (x : Int) (w : World) (hr : RdI w a n cap xs) (hn : n ≤ 1000) :
    Calls Try.prog 31 #[.slice a n cap, .int .i64 x] w fun e w' => e = .returned (.bool (decide (x ∈ xs))) ∧ Below w.heap.size w w' := by
  have HL := Lib.hid hr.lens
  obtain ⟨b, hb⟩ : ∃ b, decide (x ∈ xs) = b := ⟨_, rfl⟩
  rw [hb]
  have HB := Lib.hid hb
  clear hb
  go_enter Try.func31, Try.ntmps31
  go_wp2_with fail
  go_loopw [9] (fun i wr => ∃ k : Nat, k ≤ n ∧ i = .int .i64 k ∧ (∀ j, j < k → nth xs j ≠ x) ∧ Below w.heap.size w wr) (fun i _ => n - (intOf i).toNat)
  case atStart => exact ⟨0, by omega, rfl, fun j h => by omega, Below.refl _ _⟩
  case round =>
    obtain ⟨k, hk, rfl, hno, hb⟩ := hrel
    have HNO := Lib.hid hno
    clear hno
    by_cases hlt : k < n
    · obtain ⟨b', off, rfl, _, hc⟩ := (hr.below hb).int (by omega)
      have c1 := hc k hlt
      obtain ⟨y, hy⟩ : ∃ y, nth xs k = y := ⟨_, rfl⟩
      rw [hy] at c1
      have HY := Lib.hid hy
      clear hc hy
      by_cases he : y = x
      · subst he
        have HV := Lib.hid (show b = true by
          rw [← HB.out]; simp only [decide_eq_true_iff]; rw [← HY.out]; exact nth_mem (by rw [HL.out]; exact hlt))
        have hee : (y == y) = true := by simp
        go_wp2_with fail
        go_ret
        exact ⟨by rw [HV.out]; rfl, hb⟩
      · have hne : (y == x) = false := by simpa using he
        go_wp2_with fail
        go_roundw
        case rel => exact ⟨k + 1, by omega, by go_num, fun j hj => by
          by_cases e : j = k
          · subst e; rw [HY.out]; exact he
          · exact HNO.out j (by omega), hb⟩
        case measure => simp [intOf]; omega
    · obtain rfl : k = n := by omega
      have HV := Lib.hid (show b = false by
        rw [← HB.out]; simp only [decide_eq_false_iff_not]
        intro hm
        obtain ⟨i, hi, e⟩ := List.mem_iff_getElem.1 hm
        exact HNO.out i (by rw [HL.out] at hi; exact hi) (by rw [nth_eq hi]; exact e))
      go_wp2_with fail
      go_ret
      exact ⟨by rw [HV.out]; rfl, hb⟩


/-! ### What the law asks of them -/
def apartB (h k : Nat) : Bool := h == 1 || k == 1 || (h != k && !(h == 2 && k == 4) && !(h == 4 && k == 2))
theorem un_facts : ∀ h, h < 5 → ∀ k, k < 5 → (if apartB (h + 1) (k + 1) then ((unV (h + 1) (k + 1)).length == h * k / 2 && ((unV (h + 1) (k + 1)).length == 0 || guV (h + 1) (k + 1) + (h + 1 : Nat) + (k + 1 : Nat) == ((h + 1) * (k + 1) : Nat)) && (List.range 16).all fun d => (unV (h + 1) (k + 1)).contains ((d + 1 : Nat) : Int) || repB (h + 1) (k + 1) (d + 1)) else (unV (h + 1) (k + 1)).length == 0) = true := by
  decide +kernel


theorem sort_eqP {xs ys : List Int} {n : Nat} (hx : xs.length = n) (p : xs.Perm ys) : sortTo ltI xs n = sortTo ltI ys n := by
  have hy : ys.length = n := by rw [← p.length_eq]; exact hx
  have p1 := sortTo_perm ltD xs n (by omega)
  have p2 := sortTo_perm ltD ys n (by omega)
  rw [List.take_of_length_le (by omega)] at p1 p2
  exact (srt_sortTo xs n).eq (srt_sortTo ys n) (p1.trans (p.trans p2.symm))
theorem sort_isP {xs ys : List Int} {n : Nat} (hx : xs.length = n) (hs : Srt xs) (p : xs.Perm ys) : xs = sortTo ltI ys n := by
  have hy : ys.length = n := by rw [← p.length_eq]; exact hx
  have p2 := sortTo_perm ltD ys n (by omega)
  rw [List.take_of_length_le (by omega)] at p2
  exact hs.eq (srt_sortTo ys n) (p.trans p2.symm)
theorem gs_permF (xs : List Int) (h : Nat) (hh : 1 ≤ h) : (gsG xs h h).Perm xs := gs_perm xs h hh h (Nat.le_refl _)
theorem sh_three {xs : List Int} {n h k : Nat} (hx : xs.length = n) (hn : n ≤ 16) (h1 : 1 ≤ h) (h5 : h ≤ 16) (k1 : 1 ≤ k) (k5 : k ≤ 16) : shV xs [(k : Int), (h : Int), 1] = sortTo ltI xs n := by
  have ok : okG xs [(k : Int), (h : Int), 1] := by
    refine ⟨by omega, by simp, fun j hj => ?_⟩
    simp at hj
    rcases (show j = 0 ∨ j = 1 ∨ j = 2 by omega) with e | e | e <;> subst e <;> simp [nth] <;> omega
  rw [shV_yes ok]
  have e : shG xs [(k : Int), (h : Int), 1] 3 = gsG (gsG (gsG xs k k) h h) 1 1 := by
    simp [shG, nth]
  show shG xs [(k : Int), (h : Int), 1] 3 = _
  rw [e]
  refine sort_isP (by rw [gsG_len, gsG_len, gsG_len]; exact hx) (HS_srt (gs_HS _ 1 (by omega))) ?_
  exact (gs_permF _ 1 (by omega)).trans ((gs_permF _ h h1).trans (gs_permF _ k k1))
theorem sh_two {xs : List Int} {n h : Nat} (hx : xs.length = n) (hn : n ≤ 16) (h1 : 1 ≤ h) (h5 : h ≤ 16) : rsB (shV xs [(h : Int), 1]) = true ∧ (shV xs [(h : Int), 1]).length = n := by
  have ok : okG xs [(h : Int), 1] := by
    refine ⟨by omega, by simp, fun j hj => ?_⟩
    simp at hj
    rcases (show j = 0 ∨ j = 1 by omega) with e | e <;> subst e <;> simp [nth] <;> omega
  rw [shV_yes ok]
  have e : shG xs [(h : Int), 1] 2 = gsG (gsG xs h h) 1 1 := by simp [shG, nth]
  have e2 : shG xs [(h : Int), 1] [(h : Int), 1].length = gsG (gsG xs h h) 1 1 := e
  rw [e2]
  refine ⟨?_, by rw [gsG_len, gsG_len]; exact hx⟩
  have := sumC_zero (xs := gsG (gsG xs h h) 1 1) (n := (gsG (gsG xs h h) 1 1).length) (fun i hi => gs_HS (gsG xs h h) 1 (by omega) i hi)
  simp [rsB, this]

theorem un_apart {h k : Nat} (h1 : 1 ≤ h) (h5 : h ≤ 5) (k1 : 1 ≤ k) (k5 : k ≤ 5) (ha : apartB h k = true) :
    (unV h k).length = (h - 1) * (k - 1) / 2 ∧ ((unV h k).length = 0 ∨ guV h k + (h : Int) + (k : Int) = ((h * k : Nat) : Int)) ∧ ∀ d : Nat, 1 ≤ d → d ≤ 16 → ((d : Int) ∈ unV h k ∨ Rep h k d) := by
  have hf := un_facts (h - 1) (by omega) (k - 1) (by omega)
  rw [show h - 1 + 1 = h by omega, show k - 1 + 1 = k by omega, if_pos ha] at hf
  simp only [Bool.and_eq_true, Bool.or_eq_true, beq_iff_eq, List.all_eq_true, List.mem_range] at hf
  refine ⟨hf.1.1, hf.1.2, fun d hd1 hd2 => ?_⟩
  have := hf.2 (d - 1) (by omega)
  rw [show d - 1 + 1 = d by omega] at this
  rcases this with h6 | h6
  · exact Or.inl (by simpa using h6)
  · exact Or.inr ((repB_iff h1 k1).1 h6)
theorem un_not {h k : Nat} (h1 : 1 ≤ h) (h5 : h ≤ 5) (k1 : 1 ≤ k) (k5 : k ≤ 5) (ha : apartB h k = false) : (unV h k).length = 0 := by
  have hf := un_facts (h - 1) (by omega) (k - 1) (by omega)
  rw [show h - 1 + 1 = h by omega, show k - 1 + 1 = k by omega, if_neg (by rw [ha]; simp)] at hf
  simpa using hf
/-- Sorted by two gaps is sorted by their sums. -/
theorem HS_rep {xs : List Int} {h k d : Nat} (a : HS xs h) (b : HS xs k) (r : Rep h k d) : HS xs d := by
  obtain ⟨i, j, e⟩ := r
  rw [e]; exact HS_add (HS_mul a i) (HS_mul b j)
theorem gap_sizes : ∀ n, n < 8 → ∀ g, g < 8 → (g = 0 ∨ n < g ∨ ((n + g - 1) / g * (n - g) ≤ 60 ∧ n ≤ (n + g - 1) / g * g)) := by decide +kernel


theorem c_MakeList (a : Option Addr) (n cap : Nat) (bs : List Int) (m k : Nat) (w : World) (hr : Rd w a n cap (bys bs)) (hn : n ≤ 1048576) (hm : m ≤ 1000) (hk : k ≤ 30) :
    Calls Try.prog 25 #[.slice a n cap, .int .i64 m, .int .i64 k] w fun e w' => ∃ sa sc xs, e = .returned (.slice sa k sc) ∧ OwI w' 3 w.heap.size sa k sc xs ∧ Below w.heap.size w w' := by
  have CN := Lib.hid (c_l31New a n cap bs m w hr hn hm)
  go_enter Try.func25, Try.ntmps25
  go_wp2_with fail
  refine CN.out.mono ?_
  rintro e w1 ⟨g, rfl, hg, cu, b1⟩
  have CO := Lib.hid (c_l02List g a n cap bs w w1 cu hr b1 hg hn k hk)
  go_wp2_with fail
  refine CO.out.mono ?_
  rintro e w2 ⟨sa, sc, xs, rfl, ow, _, _, b2, _⟩
  go_wp2_with fail
  go_ret
  exact ⟨sa, sc, xs, rfl, ow.mono b1.size, b2⟩


end Go.Proofs.Ytpicnechmdbkfaa

/- Sorting by gaps: the program's and the reference's. No condition but lengths. -/
import Derived.Test.YtpicnechmdbkfaaShellL
import Derived.Test.YtpicnechmdbkfaaTurn
import Derived.Test.YtpicnechmdbkfaaRun1
import Derived.Test.YtpicnechmdbkfaaSort2
import Derived.Test.YtpicnechmdbkfaaIn
namespace Go.Proofs.Ytpicnechmdbkfaa
open Go.RowKit
set_option linter.unusedVariables false
set_option linter.unusedSimpArgs false

theorem ltI_eq : ltI = ltD := rfl
theorem OwI.rd2 {w : World} {T : TypeId} {B : Nat} {a : Option Addr} {n cap : Nat} {xs : List Int} (h : OwI w T B a n cap xs) : RdI w a n cap xs := by
  obtain ⟨L, h1, _⟩ := h
  exact h1.rd


theorem c_isGap (a : Option Addr) (n cap h : Nat) (w : World) (hn : n ≤ 16) (h1 : 1 ≤ h) (h2 : h ≤ 16) : Calls Try.prog 52 #[.slice a n cap, .int .i64 h] w fun e w' => e = .returned (.bool true) ∧ w = w' := by
  have hd1 : decide ((n : Int) ≤ 16) = true := decide_eq_true (by omega)
  have hd2 : decide ((1 : Int) ≤ (h : Int)) = true := decide_eq_true (by omega)
  have hd3 : decide ((h : Int) ≤ 16) = true := decide_eq_true (by omega)
  go_enter Try.func52, Try.ntmps52
  go_wp2
  go_ret
  exact ⟨rfl, rfl⟩

set_option maxHeartbeats 2000000 in
theorem c_GapSort (a : Option Addr) (n cap h : Nat) (xs : List Int) (w : World) (hr : RdI w a n cap xs) (hn : n ≤ 16) (h1 : 1 ≤ h) (h2 : h ≤ 16) :
    Calls Try.prog 26 #[.slice a n cap, .int .i64 h] w fun e w' => ∃ oa oc, e = .returned (.slice oa n oc) ∧ OwI w' 3 w.heap.size oa n oc (gsG xs h h) ∧ Below w.heap.size w w' := by
  have HL := Lib.hid hr.lens
  go_enter Try.func26, Try.ntmps26
  go_wp2_with (go_at_call 52; refine (c_isGap a n cap h _ hn h1 h2).mono ?_; rintro e w' ⟨rfl, rfl⟩)
  refine (c_Clone a n cap xs _ hr (by omega)).mono ?_
  rintro e w1 ⟨oa, oc, rfl, ⟨M, hout, hnm⟩, hb0⟩
  go_wp2_with fail
  go_loopw [18] (fun i wr => ∃ r : Nat, r ≤ h ∧ i = .int .i64 r ∧ Ow wr 3 M oa n oc (ints (gsG xs h r)) ∧ Below w.heap.size w wr) (fun i _ => h - (intOf i).toNat)
  case atStart => exact ⟨0, by omega, rfl, hout, hb0⟩
  case round =>
    clear hout hb0
    obtain ⟨r, hrh, rfl, hout, hb⟩ := hrel
    have hsz := hb.size
    by_cases hlt : r < h
    · go_wp2_with fail
      obtain ⟨wo, rfl⟩ : ∃ wo : World, wo = wr := ⟨_, rfl⟩
      go_loopw [7, 8] (fun p i wr => ∃ k j : Nat, ∃ L la lc, k ≤ cnGp n h r ∧ j = r + k * h ∧ j ≤ n + 15 ∧ i = .int .i64 j ∧ p = .slice la k lc ∧ (∃ g off, la = some ⟨g, off, none⟩ ∧ g < wr.heap.size) ∧ Ow wr 3 L la k lc (ints (ptG xs h r k)) ∧ New wo.heap.size L ∧ Below wo.heap.size wo wr) (fun _ i _ => n + 16 - (intOf i).toNat)
      case atStart => exact ⟨0, r, [], _, _, by omega, by omega, by omega, rfl, rfl, ⟨_, _, rfl, by simp⟩, Ow.bare _ _ _, fun _ h => (by cases h), (Below.refl _ _).alloc (Nat.le_refl _) _⟩
      case round =>
        obtain ⟨k, j, L, la, lc, hk, hj, hj15, rfl, rfl, hla, hp, hnl, hbj⟩ := hrel
        have HJ := Lib.hid hj
        have HLA := Lib.hid hla
        clear hj hla
        have hk16 : k ≤ 16 := Nat.le_trans hk (Nat.le_trans (cnGp_le h1) hn)
        by_cases hjn : j < n
        · have hkc : k < cnGp n h r := (cnGp_lt h1).2 (by rw [← HJ.out]; exact hjn)
          obtain ⟨b, off, rfl, _, hc⟩ := ((hr.below hb).below hbj).int (by omega)
          have c1 := hc j hjn
          clear hc
          have hp2 := hp.alloc (.cells #[.int .i64 (nth xs j)] 3)
          have HS := Lib.hid (ptG_succ xs h r k)
          have HJ2 := Lib.hid (show j + h = r + (k + 1) * h by rw [HJ.out, Nat.succ_mul]; omega)
          go_wp2_with ((with_reducible show wpList _ _ _ (⟨some 36, _, _, _, _, _⟩ :: _) _ _); refine wpList_app _ rfl _ _ 23 rfl 3 Try.underlying23 infoInt rfl rfl rfl hp2 (Rd.one _ _ _) (one_int _) (by omega) (by unfold maxLen; omega) ?_; intro a5 cap5 L5 w5 ow5 kp5 st5)
          have n5 : New wo.heap.size L5 := st5.new hnl (by have := hbj.size; simp; omega)
          have b5 : Below wo.heap.size wo w5 := kp5.below (hbj.alloc hbj.size _) hnl (by have := hbj.size; simp; omega)
          obtain ⟨g5, _, hg5, hg5l, _⟩ := ow5.at' (by have := ow5.le; omega)
          go_roundw
          case rel => exact ⟨k + 1, j + h, L5, a5, cap5, by omega, HJ2.out, by omega, by go_num, rfl, ⟨g5, 0, hg5, hg5l⟩, by rw [HS.out, ← ints_snoc, ← HJ.out]; exact ow5, n5, b5⟩
          case measure => simp [intOf]; omega
        · have hkc := cnGp_eq h1 hk (by rw [← HJ.out]; exact hjn)
          have hcl : cnGp n h r ≤ 16 := Nat.le_trans (cnGp_le h1) hn
          have HM := Lib.hid (fun q => cnGp_lt (n := n) (h := h) (r := r) (k := q) h1)
          generalize cnGp n h r = m at hk hkc hcl HM
          obtain rfl := hkc
          go_wp2_with fail
          refine (c_Sort la k lc L _ _ hp HLA.out (by omega)).mono ?_
          rintro e w3 ⟨rfl, hs3, k3⟩
          have HY := Lib.hid (srt_len (ptG xs h r k))
          have HGS := Lib.hid (show stG (srt (ptG xs h r k)) (gsG xs h r) h r k = gsG xs h (r + 1) by
            rw [gsG, HL.out]
            have : k = cnGp n h r := by
              refine cnGp_eq h1 ?_ (by rw [← HJ.out]; exact hjn)
              rcases Nat.eq_zero_or_pos k with h0 | h0
              · omega
              · have h3 := (HM.out (k - 1)).1 (by omega)
                have := (cnGp_lt (n := n) (h := h) (r := r) h1).2 h3
                omega
            rw [← this])
          rw [ptG_len] at HY
          have b3 : Below wo.heap.size wo w3 := k3.below hbj hnl hbj.size
          have hout3 := hout.below b3
          generalize srt (ptG xs h r k) = ys at hs3 HY HGS
          have hapML : Apart M L := fun i hi hm => by have h3 := hout.old i hi; have h4 := hnl i hm; omega
          have HSN := Lib.hid hjn
          clear hjn hk hj15 hp
          go_wp2_with fail
          go_loopw [9, 41] (fun _ i wr => ∃ q : Nat, q ≤ k ∧ i = .int .i64 q ∧ Ow wr 3 M oa n oc (ints (stG ys (gsG xs h r) h r q)) ∧ Keeps M w3 wr) (fun _ i _ => k - (intOf i).toNat)
          case atStart => exact ⟨0, by omega, rfl, hout3, Keeps.refl _ _⟩
          case round =>
            obtain ⟨q, hq, rfl, hoq, kq⟩ := hrel
            by_cases hqk : q < k
            · have hpos := (HM.out q).1 hqk
              obtain ⟨p, hp⟩ : ∃ p : Nat, p = q * h := ⟨_, rfl⟩
              rw [← hp] at hpos
              have hm1 : IntKind.i64.wrap ((q : Int) * (h : Int)) = (p : Int) := by
                rw [← Int.natCast_mul, ← hp, IntKind.wrap_i64]; omega
              obtain ⟨s, hs⟩ : ∃ s : Nat, s = r + p := ⟨_, rfl⟩
              have e5 : (r : Int) + (p : Int) = (s : Int) := by omega
              rw [← hs] at hpos
              have hrd := (hs3.keep kq hapML.symm).rd
              obtain ⟨b, off, rfl, _, hc⟩ := hrd.int (by omega)
              have c1 := hc q hqk
              obtain ⟨g, rfl, rfl, hgl, hoc, hof⟩ := hoq.int (by have := hoq.le; omega)
              have c2 := hoc s (by omega)
              have f2 := hof s
              have HST := Lib.hid (show stG ys (gsG xs h r) h r (q + 1) = (stG ys (gsG xs h r) h r q).set s (nth ys q) by rw [hs, hp]; rfl)
              have HP := Lib.hid hp
              clear hc hoc hof hp hs
              go_wp2_with fail
              go_roundw
              case rel => exact ⟨q + 1, by omega, by go_num, by rw [HST.out, ← ints_set]; exact hoq.set s _, kq.trans (Keeps.setCell _ _ _ _) (Step.refl _ _)⟩
              case measure => simp [intOf]; omega
            · obtain rfl : q = k := by omega
              have b4 : Below w.heap.size w wr := kq.below (Below.nx hb b3) hnm (by have := (Below.nx hb b3).size; exact this)
              go_wp2_with fail
              go_roundw
              case rel => exact ⟨r + 1, by omega, by go_num, by rw [← HGS.out]; exact hoq, b4⟩
              case measure => simp [intOf]; omega
    · obtain rfl : r = h := by omega
      go_wp2_with fail
      go_ret
      exact ⟨oa, oc, rfl, ⟨M, hout, hnm⟩, hb⟩


















































































































def badG (x : Int) : Bool := decide (x < 1) || decide (16 < x)
theorem c_Shell1 (x : Int) (w : World) : Calls Try.prog 61 #[.int .i64 x] w fun e w' => e = .returned (.bool (badG x)) ∧ w = w' := by
  by_cases h1 : x < 1
  · have e : badG x = true := by simp [badG, h1]
    rw [e]
    go_enter Try.func61, Try.ntmps61
    go_wp2
    go_ret
    exact ⟨rfl, rfl⟩
  · have e : badG x = decide (16 < x) := by simp [badG, h1]
    rw [e]
    go_enter Try.func61, Try.ntmps61
    go_wp2
    go_ret
    exact ⟨rfl, rfl⟩

set_option maxHeartbeats 1000000 in
theorem ci_ShellSort (a : Option Addr) (n cap : Nat) (xs : List Int) (a1 : Option Addr) (m cap1 : Nat) (gs : List Int) (w : World) (hr : RdI w a n cap xs) (hr1 : RdI w a1 m cap1 gs) (hm : m ≤ 1048576) :
    Calls Try.prog 34 #[.slice a n cap, .slice a1 m cap1] w fun e w' => ∃ sa sn sc, e = .returned (.slice sa sn sc) ∧ OwI w' 3 w.heap.size sa sn sc (shV xs gs) ∧ sn ≤ 1048576 ∧ Below w.heap.size w w' := by
  have HL := Lib.hid hr.lens
  have HL1 := Lib.hid hr1.lens
  by_cases h16 : n ≤ 16
  case neg =>
    have HV := Lib.hid (shV_no (xs := xs) (gs := gs) (fun h => h16 (by rw [← HL.out]; exact h.1)))
    have hd : decide ((16 : Int) < (n : Int)) = true := decide_eq_true (by omega)
    go_enter Try.func34, Try.ntmps34
    go_wp2_with fail
    go_ret
    exact ⟨_, _, _, rfl, by rw [HV.out]; exact ⟨[], Ow.bare _ _ _, fun _ h => by cases h⟩, by omega, Below.refl _ _⟩
  by_cases h8 : m ≤ 8
  case neg =>
    have HV := Lib.hid (shV_no (xs := xs) (gs := gs) (fun h => h8 (by rw [← HL1.out]; exact h.2.1)))
    have hd : decide ((16 : Int) < (n : Int)) = false := decide_eq_false (by omega)
    have hd8 : decide ((8 : Int) < (m : Int)) = true := decide_eq_true (by omega)
    go_enter Try.func34, Try.ntmps34
    go_wp2_with fail
    go_ret
    exact ⟨_, _, _, rfl, by rw [HV.out]; exact ⟨[], Ow.bare _ _ _, fun _ h => by cases h⟩, by omega, Below.refl _ _⟩
  have hd : decide ((16 : Int) < (n : Int)) = false := decide_eq_false (by omega)
  have hd8 : decide ((8 : Int) < (m : Int)) = false := decide_eq_false (by omega)
  have H16 := Lib.hid h16
  have H8 := Lib.hid h8
  go_enter Try.func34, Try.ntmps34
  go_wp2_with fail
  refine (c_ContainsFunc 61 badG (fun _ _ => by kernel_rfl) c_Shell1 a1 m cap1 gs _ hr1 hm).mono ?_
  rintro e w1 ⟨⟨v, hv, rfl⟩, hb0⟩
  clear hd hd8
  cases v
  · have hok : ∀ j, j < m → 1 ≤ nth gs j ∧ nth gs j ≤ 16 := fun j hj => by
      simp only [Bool.false_eq, decide_eq_false_iff_not, not_exists, not_and] at hv
      have h2 := hv j (by rw [HL1.out]; exact hj)
      simp [badG] at h2
      omega
    have HOK := Lib.hid hok
    have HV := Lib.hid (shV_yes (xs := xs) (gs := gs) ⟨by rw [HL.out]; exact h16, by rw [HL1.out]; exact h8, by rw [HL1.out]; exact hok⟩)
    clear hv hok
    go_wp2_with fail
    refine (c_Clone a n cap xs _ (hr.below hb0) (by omega)).mono ?_
    rintro e w2 ⟨oa, oc, rfl, hout, hb2⟩
    have hb2' := Below.nx hb0 hb2
    go_wp2_with fail
    go_loopw [5, 24] (fun o i wr => ∃ k : Nat, ∃ oa oc, k ≤ m ∧ i = .int .i64 k ∧ o = .slice oa n oc ∧ OwI wr 3 w.heap.size oa n oc (shG xs gs k) ∧ Below w.heap.size w wr) (fun _ i _ => m - (intOf i).toNat)
    case atStart => exact ⟨0, oa, oc, by omega, rfl, rfl, hout.mono hb0.size, hb2'⟩
    case round =>
      clear hout hb2 hb2'
      obtain ⟨k, oa, oc, hk, rfl, rfl, hout, hb⟩ := hrel
      by_cases hlt : k < m
      · obtain ⟨b, off, rfl, _, hc⟩ := (hr1.below hb).int (by omega)
        have c1 := hc k hlt
        obtain ⟨hg1, hg2⟩ := HOK.out k hlt
        obtain ⟨g, hg⟩ : ∃ g : Nat, nth gs k = (g : Int) := ⟨(nth gs k).toNat, by omega⟩
        have HS := Lib.hid (show shG xs gs (k + 1) = gsG (shG xs gs k) g g by rw [shG, hg, Int.toNat_natCast])
        rw [hg] at c1 hg1 hg2
        clear hc hg
        go_wp2_with fail
        refine (c_GapSort oa n oc g _ _ hout.rd2 (by omega) (by omega) (by omega)).mono ?_
        rintro e w3 ⟨o2, c2, rfl, hout2, hb3⟩
        go_wp2_with fail
        go_roundw
        case rel => exact ⟨k + 1, o2, c2, by omega, by go_num, rfl, by rw [HS.out]; exact hout2.mono hb.size, Below.nx hb hb3⟩
        case measure => simp [intOf]; omega
      · obtain rfl : k = m := by omega
        go_wp2_with fail
        go_ret
        exact ⟨oa, n, oc, rfl, by rw [HV.out, HL1.out]; exact hout, by omega, hb⟩
  · have HV := Lib.hid (shV_no (xs := xs) (gs := gs) (fun h => by
      simp only [Bool.true_eq, decide_eq_true_eq] at hv
      obtain ⟨j, hj, h2⟩ := hv
      have h3 := h.2.2 j hj
      simp [badG] at h2
      omega))
    clear hv
    go_wp2_with fail
    go_ret
    exact ⟨_, _, _, rfl, by rw [HV.out]; exact ⟨[], Ow.bare _ _ _, fun _ h => by cases h⟩, by omega, hb0⟩












































































end Go.Proofs.Ytpicnechmdbkfaa

/- Positions of numbers that are less than all after them, for each window. No condition but lengths. -/
import Derived.Test.YtkbhfkbphjdgkaaWinM
import Derived.Test.YtkbhfkbphjdgkaaHelpG
namespace Go.Proofs.Ytkbhfkbphjdgkaa
open Go.RowKit
set_option linter.unusedVariables false

theorem New.push {B : Nat} {w : World} {L L' : List Nat} {cs : List Cell} {c : Cell} (h : New B (fp L cs)) (hc : New B c.L) (s : Step w L L') (hB : B ≤ w.heap.size) : New B (fp L' (cs ++ [c])) := fun i hi => by
  rcases mem_fp.1 hi with h1 | ⟨d, hd, h1⟩
  · rcases s i h1 with h2 | h2
    · exact h i (mem_fp.2 (.inl h2))
    · omega
  · rcases List.mem_append.1 hd with h2 | h2
    · exact h i (mem_fp.2 (.inr ⟨d, h2, h1⟩))
    · simp at h2; subst h2; exact hc i h1
/-- Number q is less than those behind it up to m. -/
def LessTo (ys : List Int) (q m : Nat) : Prop := ∀ i, q < i → i < m → nth ys q < nth ys i
open Classical in
noncomputable def ltB (ys : List Int) (q m : Nat) : Bool := decide (LessTo ys q m)
open Classical in
theorem ltB_yes {ys : List Int} {q m : Nat} (h : LessTo ys q m) : ltB ys q m = true := decide_eq_true h
open Classical in
theorem ltB_no {ys : List Int} {q m : Nat} (h : ¬ LessTo ys q m) : ltB ys q m = false := decide_eq_false h
open Classical in
noncomputable def lessB (ys : List Int) (q : Nat) : Bool := decide (LessTo ys q ys.length)
open Classical in
theorem lessB_yes {ys : List Int} {q : Nat} (h : LessTo ys q ys.length) : lessB ys q = true := decide_eq_true h
open Classical in
theorem lessB_no {ys : List Int} {q : Nat} (h : ¬ LessTo ys q ys.length) : lessB ys q = false := decide_eq_false h
noncomputable def lqTo (ys : List Int) (at' : Nat) : Nat → List Int
  | 0 => []
  | q + 1 => if lessB ys q = true then lqTo ys at' q ++ [(at' : Int) + q] else lqTo ys at' q
theorem lqTo_yes {ys : List Int} {at' q : Nat} (h : lessB ys q = true) : lqTo ys at' (q + 1) = lqTo ys at' q ++ [(at' : Int) + q] := by rw [lqTo, if_pos h]
theorem lqTo_no {ys : List Int} {at' q : Nat} (h : lessB ys q = false) : lqTo ys at' (q + 1) = lqTo ys at' q := by rw [lqTo, if_neg (by rw [h]; simp)]
theorem lqTo_len (ys : List Int) (at' q : Nat) : (lqTo ys at' q).length ≤ q := by
  induction q with
  | zero => simp [lqTo]
  | succ q ih =>
    rw [lqTo]
    split
    · simp; omega
    · omega
noncomputable def lqG (xs : List Int) (wd m : Nat) : List (List Int) := (List.range m).map fun i => lqTo (winL xs i wd) i wd
theorem lqG_succ (xs : List Int) (wd m : Nat) : lqG xs wd (m + 1) = lqG xs wd m ++ [lqTo (winL xs m wd) m wd] := by unfold lqG; rw [List.range_succ, List.map_append]; rfl
noncomputable def lqV (xs : List Int) (k : Int) : List (List Int) := if okWin xs.length k = true then lqG xs k.toNat (winN xs.length k.toNat) else []
theorem lqG_small (xs : List Int) (wd m : Nat) (h : wd ≤ 24) (hm : m ≤ 1000) : SmallG m (lqG xs wd m) := ⟨hm, fun ys hy => by
  obtain ⟨i, _, rfl⟩ := List.mem_map.1 hy
  have := lqTo_len (winL xs i wd) i wd; omega⟩
theorem lt_minF {zs : List Int} {x : Int} (h : 1 ≤ zs.length) : x < minF zs ↔ ∀ i, i < zs.length → x < nth zs i := by
  constructor
  · intro h1 i hi
    have := minUp_le zs (zs.length - 1) i (by omega)
    unfold minF at h1; omega
  · intro h1
    obtain ⟨i, hi, e⟩ := minUp_mem zs (zs.length - 1)
    unfold minF; rw [e]; exact h1 i (by omega)


set_option maxHeartbeats 2000000 in
theorem ci_LeastQueue (a : Option Addr) (n cap : Nat) (xs : List Int) (k : Int) (w : World) (hr : RdI w a n cap xs) :
    Calls Try.prog 25 #[.slice a n cap, .int .i64 k] w fun e w' => ∃ sa sn sc, e = .returned (.slice sa sn sc) ∧ Gr w' 22 3 w.heap.size sa sn sc (lqV xs k) ∧ SmallG sn (lqV xs k) ∧ Below w.heap.size w w' := by
  have HL := Lib.hid hr.lens
  cases hok : okWin n k
  · have HV := Lib.hid (show lqV xs k = [] by unfold lqV; rw [HL.out, hok]; rfl)
    go_enter Try.func25, Try.ntmps25
    go_wp2_with fail
    refine (c_windows_no a n cap k _ hok).mono ?_
    rintro e w1 ⟨rfl, rfl⟩
    clear hok
    go_wp2_with fail
    go_ret
    exact ⟨_, _, _, rfl, by rw [HV.out]; exact ⟨[], [], OwG.bare _ _ _ _, rfl, fun _ h => by simp [fp] at h⟩, by rw [HV.out]; exact ⟨by omega, fun _ h => by cases h⟩, Below.refl _ _⟩
  obtain ⟨hn, hk1, hk24⟩ := okWin_yes hok
  obtain ⟨wd, rfl⟩ : ∃ wd : Nat, k = wd := ⟨k.toNat, by omega⟩
  have HV := Lib.hid (show lqV xs (wd : Int) = lqG xs wd (winN n wd) by unfold lqV; rw [HL.out, hok]; rfl)
  clear hok
  go_enter Try.func25, Try.ntmps25
  go_wp2_with fail
  refine (c_windows a n cap wd xs _ hr hn (by omega) (by omega)).mono ?_
  rintro e w1 ⟨oa, oc, L0, rfl, how, hnew, hb⟩
  have hm : winN n wd ≤ 25 := by unfold winN; omega
  go_wp2_with fail
  go_loopw [7, 24] (fun l i wr => ∃ j : Nat, ∃ L cs la lc, j ≤ winN n wd ∧ i = .int .i64 j ∧ l = .slice la j lc ∧ OwG wr 22 3 L la j lc cs ∧ cs.map (·.xs) = lqG xs wd j ∧ New w1.heap.size (fp L cs) ∧ Below w1.heap.size w1 wr) (fun _ i _ => winN n wd - (intOf i).toNat)
  case atStart => exact ⟨0, [], [], _, _, by omega, rfl, rfl, OwG.bare _ _ _ _, rfl, fun _ h => by simp [fp] at h, (Below.refl _ _).alloc (Nat.le_refl _) _⟩
  case round =>
    obtain ⟨j, L, cs, la, lc, hj, rfl, rfl, og, hex, hnm, hbj⟩ := hrel
    have HEX := Lib.hid hex
    clear hex
    by_cases hlt : j < winN n wd
    · have hjw : j + wd ≤ n := by unfold winN at hlt; omega
      have hcapn := hr.le
      obtain ⟨g', off, rfl, hg, hc⟩ := (how.below hbj).rd.at' (by omega)
      have c1 := hc j hlt
      rw [List.getElem?_map, List.getElem?_range hlt] at c1
      clear hc
      have c1' : wr.cell? ⟨g', off + j, none⟩ = some (.slice (cutAt cap j a) wd (cap - j)) := c1
      clear c1
      have rw1 := ((hr.below hb).below hbj).win hjw
      have HWL := Lib.hid (winL_len (xs := xs) (i := j) (wd := wd) (by rw [HL.out]; exact hjw))
      obtain ⟨wq, rfl⟩ : ∃ wq : World, wq = wr := ⟨_, rfl⟩
      go_wp2_with fail
      go_loopw [10, 32] (fun l i wr => ∃ q : Nat, ∃ M ra rn rc, q ≤ wd ∧ i = .int .i64 q ∧ l = .slice ra rn rc ∧ Ow wr 3 M ra rn rc (ints (lqTo (winL xs j wd) j q)) ∧ New wq.heap.size M ∧ Below wq.heap.size wq wr) (fun _ i _ => wd - (intOf i).toNat)
      case atStart => exact ⟨0, [], _, _, _, by omega, rfl, rfl, Ow.bare _ _ _, fun _ h => (by cases h), (Below.refl _ _).alloc (Nat.le_refl _) _⟩
      case round =>
        obtain ⟨q, M, ra, rn, rc, hq, rfl, rfl, hrow, hnr, hbq⟩ := hrel
        have hll := lqTo_len (winL xs j wd) j q
        rw [hrow.lens] at hll
        by_cases hqn : q < wd
        · have rw2 := rw1.below hbq
          obtain ⟨b3, off3, e3, _, hc3⟩ := rw2.int (by omega)
          have c3 := hc3 q hqn
          clear hc3
          rw [e3] at rw2
          rw [e3]
          have hsz := hbq.size
          have fin : ∀ (w5 : World) (L5 : List Nat) (a5 : Option Addr) (cap5 : Nat), True := fun _ _ _ _ => trivial
          clear fin
          by_cases hlast : q + 1 = wd
          · have HB := Lib.hid (lessB_yes (ys := winL xs j wd) (q := q) (fun i h1 h2 => by rw [HWL.out] at h2; omega))
            have hrow2 := hrow.alloc (.cells #[.int .i64 ((j : Int) + q)] 3)
            have hl1 : (q : Int) + 1 = (wd : Int) := by omega
            go_wp2_with ((with_reducible show wpList _ _ _ (⟨some 56, _, _, _, _, _⟩ :: _) _ _); refine wpList_app _ rfl _ _ 22 rfl 3 Try.underlying22 infoInt rfl rfl rfl hrow2 (Rd.one _ _ _) (one_int _) (by omega) (by unfold maxLen; omega) ?_; intro a5 cap5 L5 w5 ow5 kp5 st5)
            have n5 : New wq.heap.size L5 := st5.new hnr (by simp; omega)
            have b5 : Below wq.heap.size wq w5 := kp5.below (hbq.alloc hsz _) hnr (by simp; omega)
            go_roundw
            case rel => exact ⟨q + 1, L5, a5, rn + 1, cap5, by omega, by go_num, rfl, by rw [lqTo_yes HB.out, ← ints_snoc]; exact ow5, n5, b5⟩
            case measure => simp [intOf]; omega
          · have hle : q + 1 < wd := by omega
            have rtail : RdI wr (some ⟨b3, off3 + (q + 1), none⟩) (wd - (q + 1)) (cap - j - (q + 1)) ((winL xs j wd).drop (q + 1)) := by
              have h := rw2.from (q + 1) (by omega)
              rw [ints_drop] at h
              unfold cutAt at h
              rw [if_neg (by omega), Option.map_some, Addr.add_lit] at h
              exact h
            have htl : ((winL xs j wd).drop (q + 1)).length = wd - (q + 1) := by rw [List.length_drop, HWL.out]
            have hiff := lt_minF (zs := (winL xs j wd).drop (q + 1)) (x := nth (winL xs j wd) q) (by omega)
            rw [htl] at hiff
            have hd : decide ((q : Int) + 1 = (wd : Int)) = false := decide_eq_false (by omega)
            have hd2 : ¬ (q : Int) + 1 = (wd : Int) := by omega
            have hd3 : ((q : Int) + 1 == (wd : Int)) = false := by simpa using hd2
            have hcj : ¬ cap - j = q + 1 := by omega
            have hi1 : (q : Int) + 1 ≤ (wd : Int) := by omega
            have hi2 : (0 : Int) ≤ (q : Int) + 1 := by omega
            have hi3 : ((q : Int) + 1).toNat = q + 1 := by omega
            by_cases hmin : nth (winL xs j wd) q < minF ((winL xs j wd).drop (q + 1))
            · have HB := Lib.hid (lessB_yes (ys := winL xs j wd) (q := q) (fun i h1 h2 => by
                have h3 := hiff.1 hmin (i - (q + 1)) (by rw [HWL.out] at h2; omega)
                rw [nth_dropL, show q + 1 + (i - (q + 1)) = i by omega] at h3; exact h3))
              have hrow2 := hrow.alloc (.cells #[.int .i64 ((j : Int) + q)] 3)
              clear hiff
              go_wp2_with (first | (go_at_call 48; refine (c_Min (some ⟨b3, off3 + (q + 1), none⟩) (wd - (q + 1)) (cap - j - (q + 1)) _ _ rtail (by omega) (by omega)).mono ?_; rintro e w4 ⟨rfl, rfl⟩) | ((with_reducible show wpList _ _ _ (⟨some 56, _, _, _, _, _⟩ :: _) _ _); refine wpList_app _ rfl _ _ 22 rfl 3 Try.underlying22 infoInt rfl rfl rfl hrow2 (Rd.one _ _ _) (one_int _) (by omega) (by unfold maxLen; omega) ?_; intro a5 cap5 L5 w5 ow5 kp5 st5))
              have n5 : New wq.heap.size L5 := st5.new hnr (by simp; omega)
              have b5 : Below wq.heap.size wq w5 := kp5.below (hbq.alloc hsz _) hnr (by simp; omega)
              go_roundw
              case rel => exact ⟨q + 1, L5, a5, rn + 1, cap5, by omega, by go_num, rfl, by rw [lqTo_yes HB.out, ← ints_snoc]; exact ow5, n5, b5⟩
              case measure => simp [intOf]; omega
            · have HB := Lib.hid (lessB_no (ys := winL xs j wd) (q := q) (fun h => hmin (hiff.2 fun i hi => by
                rw [nth_dropL]; exact h _ (by omega) (by rw [HWL.out]; omega))))
              clear hiff
              go_wp2_with (go_at_call 48; refine (c_Min (some ⟨b3, off3 + (q + 1), none⟩) (wd - (q + 1)) (cap - j - (q + 1)) _ _ rtail (by omega) (by omega)).mono ?_; rintro e w4 ⟨rfl, rfl⟩)
              go_roundw
              case rel => exact ⟨q + 1, M, ra, rn, rc, by omega, by go_num, rfl, by rw [lqTo_no HB.out]; exact hrow, hnr, hbq⟩
              case measure => simp [intOf]; omega
        · obtain rfl : wd = q := by omega
          have hb2 := Below.nx hbj hbq
          have hsz := hb2.size
          have hszq := hbj.size
          have og2 := (og.below hbq).alloc (.cells #[.slice ra rn rc] 22)
          go_wp2_with ((with_reducible show wpList _ _ _ (⟨some 61, _, _, _, _, _⟩ :: _) _ _); refine wpList_app _ rfl _ _ 30 rfl 22 Try.underlying30 infoSlW rfl rfl rfl og2.row (Rd.one _ _ _) (one_slice _ _ _) (by omega) (by unfold maxLen; omega) ?_; intro a6 cap6 L6 w6 ow6 kp6 st6)
          have og6 := og2.push (c := ⟨M, ra, rn, rc, lqTo (winL xs j wd) j wd⟩) (hrow.alloc _) (fun i hi hm => by have := og.old i hi; have := hnr i hm; omega) ow6 kp6 st6
          have n6 : New w1.heap.size (fp L6 (cs ++ [⟨M, ra, rn, rc, lqTo (winL xs j wd) j wd⟩])) := hnm.push (hnr.mono hszq) st6 (by simp; omega)
          have b6 : Below w1.heap.size w1 w6 := kp6.below (hb2.alloc hsz _) (fun i hi => hnm i (mem_fp.2 (.inl hi))) (by simp; omega)
          go_roundw
          case rel => exact ⟨j + 1, L6, _, a6, cap6, by omega, by go_num, rfl, og6, by rw [List.map_append, HEX.out, lqG_succ]; rfl, n6, b6⟩
          case measure => simp [intOf]; omega
    · obtain rfl : j = winN n wd := by omega
      go_wp2_with fail
      go_ret
      exact ⟨la, _, lc, rfl, ⟨L, cs, og, by rw [HV.out, HEX.out], hnm.mono hb.size⟩, by rw [HV.out]; exact lqG_small _ _ _ (by omega) (by omega), Below.nx hb hbj⟩



set_option maxHeartbeats 2000000 in
theorem cs_LeastQueue (a : Option Addr) (n cap : Nat) (xs : List Int) (k : Int) (w : World) (hr : RdI w a n cap xs) :
    Calls Try.prog 24 #[.slice a n cap, .int .i64 k] w fun e w' => ∃ sa sn sc, e = .returned (.slice sa sn sc) ∧ RdG w' sa sn sc (lqV xs k) ∧ SmallG sn (lqV xs k) ∧ Below w.heap.size w w' := by
  have HL := Lib.hid hr.lens
  cases hok : okWin n k
  · have HV := Lib.hid (show lqV xs k = [] by unfold lqV; rw [HL.out, hok]; rfl)
    go_enter Try.func24, Try.ntmps24
    go_wp2_with (go_at_call 39; refine (c_l23Ok a n cap k _).mono ?_; rw [hok]; rintro e w1 ⟨rfl, rfl⟩)
    clear hok
    go_ret
    exact ⟨_, _, _, rfl, by rw [HV.out]; exact RdG.nil _ _ _ (by unfold maxLen; omega), by rw [HV.out]; exact ⟨by omega, fun _ h => by cases h⟩, Below.refl _ _⟩
  obtain ⟨hn, hk1, hk24⟩ := okWin_yes hok
  obtain ⟨wd, rfl⟩ : ∃ wd : Nat, k = wd := ⟨k.toNat, by omega⟩
  have HV := Lib.hid (show lqV xs (wd : Int) = lqG xs wd (winN n wd) by unfold lqV; rw [HL.out, hok]; rfl)
  go_enter Try.func24, Try.ntmps24
  go_wp2_with (go_at_call 39; refine (c_l23Ok a n cap wd _).mono ?_; rw [hok]; rintro e w1 ⟨rfl, rfl⟩)
  clear hok
  obtain ⟨w, rfl⟩ : ∃ w : World, w = w1 := ⟨_, rfl⟩
  have hm : winN n wd ≤ 25 := by unfold winN; omega
  go_loopw [5, 6] (fun l i wr => ∃ j : Nat, ∃ L cs la lc, j ≤ winN n wd ∧ i = .int .i64 j ∧ l = .slice la j lc ∧ OwG wr 22 3 L la j lc cs ∧ cs.map (·.xs) = lqG xs wd j ∧ New w.heap.size (fp L cs) ∧ Below w.heap.size w wr) (fun _ i _ => n + 1 - (intOf i).toNat)
  case atStart => exact ⟨0, [], [], _, _, by omega, rfl, rfl, OwG.bare _ _ _ _, rfl, fun _ h => by simp [fp] at h, (Below.refl _ _).alloc (Nat.le_refl _) _⟩
  case round =>
    obtain ⟨j, L, cs, la, lc, hj, rfl, rfl, og, hex, hnm, hbj⟩ := hrel
    have HEX := Lib.hid hex
    clear hex
    by_cases hjw : j + wd ≤ n
    · have hlt : j < winN n wd := by unfold winN; omega
      have hcapn := hr.le
      have hrj := hr.below hbj
      have HWL := Lib.hid (winL_len (xs := xs) (i := j) (wd := wd) (by rw [HL.out]; exact hjw))
      obtain ⟨wq, rfl⟩ : ∃ wq : World, wq = wr := ⟨_, rfl⟩
      go_wp2_with fail
      rw [show decide ((j : Int) + (wd : Int) ≤ (n : Int)) = true from decide_eq_true (by omega)]
      go_loopw [7, 8] (fun l i wr => ∃ q : Nat, ∃ M ra rn rc, q ≤ wd ∧ i = .int .i64 ((j : Int) + q) ∧ l = .slice ra rn rc ∧ Ow wr 3 M ra rn rc (ints (lqTo (winL xs j wd) j q)) ∧ New wq.heap.size M ∧ Below wq.heap.size wq wr) (fun _ i _ => j + wd - (intOf i).toNat)
      case atStart => exact ⟨0, [], _, _, _, by omega, int_eq (by simp), rfl, Ow.bare _ _ _, fun _ h => (by cases h), (Below.refl _ _).alloc (Nat.le_refl _) _⟩
      case round =>
        obtain ⟨q, M, ra, rn, rc, hq, rfl, rfl, hrow, hnr, hbq⟩ := hrel
        have hll := lqTo_len (winL xs j wd) j q
        rw [hrow.lens] at hll
        by_cases hqn : q < wd
        · have hrq := hrj.below hbq
          go_wp2_with ((with_reducible show wpList _ _ _ (⟨some 40, _, _, _, _, _⟩ :: _) _ _); refine wpList_cut _ rfl (.tmp 34) (.tmp 36) (.tmp 39) 22 rfl 3 Try.underlying22 szInt (j + q + 1) (j + wd) rfl rfl (by simp; try omega) rfl (by simp; try omega) hrq (by omega) (by omega) ?_; intro a2 ha2 r2; clear ha2)
          rw [ints_take, ints_drop] at r2
          have elen : j + wd - (j + q + 1) = wd - (q + 1) := by omega
          rw [elen] at r2 ⊢
          have hsz := hbq.size
          obtain ⟨wo, rfl⟩ : ∃ wo : World, wo = wr := ⟨_, rfl⟩
          go_loopw [9, 42] (fun v i wr => ∃ r : Nat, r ≤ wd - (q + 1) ∧ i = .int .i64 r ∧ v = .bool (ltB (winL xs j wd) q (q + 1 + r)) ∧ Below wo.heap.size wo wr) (fun _ i _ => wd - (q + 1) - (intOf i).toNat)
          case atStart => exact ⟨0, by omega, rfl, by rw [ltB_yes (show LessTo (winL xs j wd) q (q + 1 + 0) from fun i h1 h2 => absurd h2 (by omega))], Below.refl _ _⟩
          case round =>
            obtain ⟨r, hrr, rfl, rfl, hbr⟩ := hrel
            by_cases hrn : r < wd - (q + 1)
            · have r3 := r2.below hbr
              obtain ⟨b3, off3, rfl, _, hc3⟩ := r3.int (by omega)
              have c3 := hc3 r hrn
              have e3 : nth ((xs.take (j + wd)).drop (j + q + 1)) r = nth (winL xs j wd) (q + 1 + r) := by
                rw [nth_dropL, nth_takeL _ _ _ (by omega), nth_winL (by omega)]; congr 1; omega
              rw [e3] at c3
              clear hc3 e3
              obtain ⟨b4, off4, rfl, _, hc4⟩ := (hrq.below hbr).int (by omega)
              have c4 := hc4 (j + q) (by omega)
              have e4 : nth xs (j + q) = nth (winL xs j wd) q := by rw [nth_winL (by omega)]
              rw [e4] at c4
              clear hc4 e4
              have e5 : ((j : Int) + q).toNat = j + q := by omega
              rcases Classical.em (LessTo (winL xs j wd) q (q + 1 + r)) with h1 | h1
              · have hd := ltB_yes h1
                have hsucc : ltB (winL xs j wd) q (q + 1 + (r + 1)) = decide (nth (winL xs j wd) q < nth (winL xs j wd) (q + 1 + r)) := by
                  by_cases h : nth (winL xs j wd) q < nth (winL xs j wd) (q + 1 + r)
                  case neg => rw [decide_eq_false h]; exact ltB_no fun h2 => h (h2 _ (by omega) (by omega))
                  rw [decide_eq_true h]
                  refine ltB_yes fun i h2 h3 => ?_
                  rcases Nat.lt_or_ge i (q + 1 + r) with h4 | h4
                  · exact h1 i h2 h4
                  · obtain rfl : i = q + 1 + r := by omega
                    exact h
                have HS := Lib.hid hsucc
                clear hsucc
                rw [hd]
                go_wp2_with fail
                go_roundw
                case rel => exact ⟨r + 1, by omega, by go_num, by rw [HS.out], hbr⟩
                case measure => simp [intOf]; omega
              · have hd := ltB_no h1
                have hsucc : ltB (winL xs j wd) q (q + 1 + (r + 1)) = false := ltB_no fun h => h1 fun i h2 h3 => h i h2 (by omega)
                have HS := Lib.hid hsucc
                clear hsucc
                rw [hd]
                go_wp2_with fail
                go_roundw
                case rel => exact ⟨r + 1, by omega, by go_num, by rw [HS.out], hbr⟩
                case measure => simp [intOf]; omega
            · obtain rfl : r = wd - (q + 1) := by omega
              have elast : q + 1 + (wd - (q + 1)) = wd := by omega
              rw [elast]
              have hrow1 := hrow.below hbr
              have hbq1 := Below.nx hbq hbr
              have hsz1 := hbq1.size
              rcases Classical.em (LessTo (winL xs j wd) q wd) with h1 | h1
              · have HB := Lib.hid (lessB_yes (ys := winL xs j wd) (q := q) (by rw [HWL.out]; exact h1))
                have hd := ltB_yes h1
                rw [hd]
                have hrow2 := hrow1.alloc (.cells #[.int .i64 ((j : Int) + q)] 3)
                go_wp2_with ((with_reducible show wpList _ _ _ (⟨some 60, _, _, _, _, _⟩ :: _) _ _); refine wpList_app _ rfl _ _ 22 rfl 3 Try.underlying22 infoInt rfl rfl rfl hrow2 (Rd.one _ _ _) (one_int _) (by omega) (by unfold maxLen; omega) ?_; intro a5 cap5 L5 w5 ow5 kp5 st5)
                have n5 : New wq.heap.size L5 := st5.new hnr (by simp; omega)
                have b5 : Below wq.heap.size wq w5 := kp5.below (hbq1.alloc hsz1 _) hnr (by simp; omega)
                go_roundw
                case rel => exact ⟨q + 1, L5, a5, rn + 1, cap5, by omega, int_eq (by omega), rfl, by rw [lqTo_yes HB.out, ← ints_snoc]; exact ow5, n5, b5⟩
                case measure => simp [intOf]; omega
              · have HB := Lib.hid (lessB_no (ys := winL xs j wd) (q := q) (by rw [HWL.out]; exact h1))
                have hd := ltB_no h1
                rw [hd]
                go_wp2_with fail
                go_roundw
                case rel => exact ⟨q + 1, M, ra, rn, rc, by omega, int_eq (by omega), rfl, by rw [lqTo_no HB.out]; exact hrow1, hnr, hbq1⟩
                case measure => simp [intOf]; omega
        · obtain rfl : wd = q := by omega
          have hb2 := Below.nx hbj hbq
          have hsz := hb2.size
          have hszq := hbj.size
          have og2 := (og.below hbq).alloc (.cells #[.slice ra rn rc] 22)
          go_wp2_with ((with_reducible show wpList _ _ _ (⟨some 64, _, _, _, _, _⟩ :: _) _ _); refine wpList_app _ rfl _ _ 30 rfl 22 Try.underlying30 infoSlW rfl rfl rfl og2.row (Rd.one _ _ _) (one_slice _ _ _) (by omega) (by unfold maxLen; omega) ?_; intro a6 cap6 L6 w6 ow6 kp6 st6)
          have og6 := og2.push (c := ⟨M, ra, rn, rc, lqTo (winL xs j wd) j wd⟩) (hrow.alloc _) (fun i hi hm => by have := og.old i hi; have := hnr i hm; omega) ow6 kp6 st6
          have n6 : New w.heap.size (fp L6 (cs ++ [⟨M, ra, rn, rc, lqTo (winL xs j wd) j wd⟩])) := hnm.push (hnr.mono hszq) st6 (by simp; omega)
          have b6 : Below w.heap.size w w6 := kp6.below (hb2.alloc hsz _) (fun i hi => hnm i (mem_fp.2 (.inl hi))) (by simp; omega)
          go_roundw
          case rel => exact ⟨j + 1, L6, _, a6, cap6, by omega, by go_num, rfl, og6, by rw [List.map_append, HEX.out, lqG_succ]; rfl, n6, b6⟩
          case measure => simp [intOf]; omega
    · obtain rfl : j = winN n wd := by unfold winN at hj ⊢; omega
      go_wp2_with fail
      go_ret
      exact ⟨la, _, lc, rfl, by rw [HV.out, ← HEX.out]; exact og.rd, by rw [HV.out]; exact lqG_small _ _ _ (by omega) (by omega), hbj⟩


end Go.Proofs.Ytkbhfkbphjdgkaa

/- Positions of numbers that are less than all after them, for each window. No condition but lengths. -/
import Derived.Test.YtiiijijbkacneaaWinM
import Derived.Test.YtiiijijbkacneaaHelpG
namespace Go.Proofs.Ytiiijijbkacneaa
open Go.RowKit
set_option linter.unusedVariables false

theorem New.push {B : Nat} {w : World} {L L' : List Nat} {cs : List Cell} {c : Cell} (h : New B (fp L cs)) (hc : New B c.L) (s : Step w L L') (hB : B ≤ w.heap.size) : New B (fp L' (cs ++ [c])) := fun i hi => by
  rcases mem_fp.1 hi with h1 | ⟨d, hd, h1⟩
  · rcases s i h1 with h2 | h2
    · exact h i (mem_fp.2 (.inl h2))
    · omega
  · rcases List.mem_append.1 hd with h2 | h2
    · exact h i (mem_fp.2 (.inr ⟨d, h2, h1⟩))
    · simp at h2; subst h2; exact hc i h1
/-- Number q is less than those behind it up to m. -/
def LessTo (ys : List Int) (q m : Nat) : Prop := ∀ i, q < i → i < m → nth ys q < nth ys i
open Classical in
noncomputable def ltB (ys : List Int) (q m : Nat) : Bool := decide (LessTo ys q m)
open Classical in
theorem ltB_yes {ys : List Int} {q m : Nat} (h : LessTo ys q m) : ltB ys q m = true := decide_eq_true h
open Classical in
theorem ltB_no {ys : List Int} {q m : Nat} (h : ¬ LessTo ys q m) : ltB ys q m = false := decide_eq_false h
open Classical in
noncomputable def lessB (ys : List Int) (q : Nat) : Bool := decide (LessTo ys q ys.length)
open Classical in
theorem lessB_yes {ys : List Int} {q : Nat} (h : LessTo ys q ys.length) : lessB ys q = true := decide_eq_true h
open Classical in
theorem lessB_no {ys : List Int} {q : Nat} (h : ¬ LessTo ys q ys.length) : lessB ys q = false := decide_eq_false h
noncomputable def lqTo (ys : List Int) (at' : Nat) : Nat → List Int
  | 0 => []
  | q + 1 => if lessB ys q = true then lqTo ys at' q ++ [(at' : Int) + q] else lqTo ys at' q
theorem lqTo_yes {ys : List Int} {at' q : Nat} (h : lessB ys q = true) : lqTo ys at' (q + 1) = lqTo ys at' q ++ [(at' : Int) + q] := by rw [lqTo, if_pos h]
theorem lqTo_no {ys : List Int} {at' q : Nat} (h : lessB ys q = false) : lqTo ys at' (q + 1) = lqTo ys at' q := by rw [lqTo, if_neg (by rw [h]; simp)]
theorem lqTo_len (ys : List Int) (at' q : Nat) : (lqTo ys at' q).length ≤ q := by
  induction q with
  | zero => simp [lqTo]
  | succ q ih =>
    rw [lqTo]
    split
    · simp; omega
    · omega
noncomputable def lqG (xs : List Int) (wd m : Nat) : List (List Int) := (List.range m).map fun i => lqTo (winL xs i wd) i wd
theorem lqG_succ (xs : List Int) (wd m : Nat) : lqG xs wd (m + 1) = lqG xs wd m ++ [lqTo (winL xs m wd) m wd] := by unfold lqG; rw [List.range_succ, List.map_append]; rfl
noncomputable def lqV (xs : List Int) (k : Int) : List (List Int) := if okWin xs.length k = true then lqG xs k.toNat (winN xs.length k.toNat) else []
theorem lqG_small (xs : List Int) (wd m : Nat) (h : wd ≤ 24) (hm : m ≤ 1000) : SmallG m (lqG xs wd m) := ⟨hm, fun ys hy => by
  obtain ⟨i, _, rfl⟩ := List.mem_map.1 hy
  have := lqTo_len (winL xs i wd) i wd; omega⟩
theorem lt_minF {zs : List Int} {x : Int} (h : 1 ≤ zs.length) : x < minF zs ↔ ∀ i, i < zs.length → x < nth zs i := by
  constructor
  · intro h1 i hi
    have := minUp_le zs (zs.length - 1) i (by omega)
    unfold minF at h1; omega
  · intro h1
    obtain ⟨i, hi, e⟩ := minUp_mem zs (zs.length - 1)
    unfold minF; rw [e]; exact h1 i (by omega)


set_option maxHeartbeats 2000000 in
theorem ci_LeastQueue (a : Option Addr) (n cap : Nat) (xs : List Int) (k : Int) (w : World) (hr : RdI w a n cap xs) :
    Calls Try.prog 24 #[.slice a n cap, .int .i64 k] w fun e w' => ∃ sa sn sc, e = .returned (.slice sa sn sc) ∧ Gr w' 24 3 w.heap.size sa sn sc (lqV xs k) ∧ SmallG sn (lqV xs k) ∧ Below w.heap.size w w' := by
  have HL := Lib.hid hr.lens
  cases hok : okWin n k
  · have HV := Lib.hid (show lqV xs k = [] by unfold lqV; rw [HL.out, hok]; rfl)
    go_enter Try.func24, Try.ntmps24
    go_wp2_with fail
    refine (c_windows_no a n cap k _ hok).mono ?_
    rintro e w1 ⟨rfl, rfl⟩
    clear hok
    go_wp2_with fail
    go_ret
    exact ⟨_, _, _, rfl, by rw [HV.out]; exact ⟨[], [], OwG.bare _ _ _ _, rfl, fun _ h => by simp [fp] at h⟩, by rw [HV.out]; exact ⟨by omega, fun _ h => by cases h⟩, Below.refl _ _⟩
  obtain ⟨hn, hk1, hk24⟩ := okWin_yes hok
  obtain ⟨wd, rfl⟩ : ∃ wd : Nat, k = wd := ⟨k.toNat, by omega⟩
  have HV := Lib.hid (show lqV xs (wd : Int) = lqG xs wd (winN n wd) by unfold lqV; rw [HL.out, hok]; rfl)
  clear hok
  go_enter Try.func24, Try.ntmps24
  go_wp2_with fail
  refine (c_windows a n cap wd xs _ hr hn (by omega) (by omega)).mono ?_
  rintro e w1 ⟨oa, oc, L0, rfl, how, hnew, hb⟩
  have hm : winN n wd ≤ 25 := by unfold winN; omega
  go_wp2_with fail
  go_loopw [7, 24] (fun l i wr => ∃ j : Nat, ∃ L cs la lc, j ≤ winN n wd ∧ i = .int .i64 j ∧ l = .slice la j lc ∧ OwG wr 24 3 L la j lc cs ∧ cs.map (·.xs) = lqG xs wd j ∧ New w1.heap.size (fp L cs) ∧ Below w1.heap.size w1 wr) (fun _ i _ => winN n wd - (intOf i).toNat)
  case atStart => exact ⟨0, [], [], _, _, by omega, rfl, rfl, OwG.bare _ _ _ _, rfl, fun _ h => by simp [fp] at h, (Below.refl _ _).alloc (Nat.le_refl _) _⟩
  case round =>
    obtain ⟨j, L, cs, la, lc, hj, rfl, rfl, og, hex, hnm, hbj⟩ := hrel
    have HEX := Lib.hid hex
    clear hex
    by_cases hlt : j < winN n wd
    · have hjw : j + wd ≤ n := by unfold winN at hlt; omega
      have hcapn := hr.le
      obtain ⟨g', off, rfl, hg, hc⟩ := (how.below hbj).rd.at' (by omega)
      have c1 := hc j hlt
      rw [List.getElem?_map, List.getElem?_range hlt] at c1
      clear hc
      have c1' : wr.cell? ⟨g', off + j, none⟩ = some (.slice (cutAt cap j a) wd (cap - j)) := c1
      clear c1
      have rw1 := ((hr.below hb).below hbj).win hjw
      have HWL := Lib.hid (winL_len (xs := xs) (i := j) (wd := wd) (by rw [HL.out]; exact hjw))
      obtain ⟨wq, rfl⟩ : ∃ wq : World, wq = wr := ⟨_, rfl⟩
      go_wp2_with fail
      go_loopw [10, 32] (fun l i wr => ∃ q : Nat, ∃ M ra rn rc, q ≤ wd ∧ i = .int .i64 q ∧ l = .slice ra rn rc ∧ Ow wr 3 M ra rn rc (ints (lqTo (winL xs j wd) j q)) ∧ New wq.heap.size M ∧ Below wq.heap.size wq wr) (fun _ i _ => wd - (intOf i).toNat)
      case atStart => exact ⟨0, [], _, _, _, by omega, rfl, rfl, Ow.bare _ _ _, fun _ h => (by cases h), (Below.refl _ _).alloc (Nat.le_refl _) _⟩
      case round =>
        obtain ⟨q, M, ra, rn, rc, hq, rfl, rfl, hrow, hnr, hbq⟩ := hrel
        have hll := lqTo_len (winL xs j wd) j q
        rw [hrow.lens] at hll
        by_cases hqn : q < wd
        · have rw2 := rw1.below hbq
          obtain ⟨b3, off3, e3, _, hc3⟩ := rw2.int (by omega)
          have c3 := hc3 q hqn
          clear hc3
          rw [e3] at rw2
          rw [e3]
          have hsz := hbq.size
          have fin : ∀ (w5 : World) (L5 : List Nat) (a5 : Option Addr) (cap5 : Nat), True := fun _ _ _ _ => trivial
          clear fin
          by_cases hlast : q + 1 = wd
          · have HB := Lib.hid (lessB_yes (ys := winL xs j wd) (q := q) (fun i h1 h2 => by rw [HWL.out] at h2; omega))
            have hrow2 := hrow.alloc (.cells #[.int .i64 ((j : Int) + q)] 3)
            have hl1 : (q : Int) + 1 = (wd : Int) := by omega
            go_wp2_with ((with_reducible show wpList _ _ _ (⟨some 56, _, _, _, _, _⟩ :: _) _ _); refine wpList_app _ rfl _ _ 24 rfl 3 Try.underlying24 infoInt rfl rfl rfl hrow2 (Rd.one _ _ _) (one_int _) (by omega) (by unfold maxLen; omega) ?_; intro a5 cap5 L5 w5 ow5 kp5 st5)
            have n5 : New wq.heap.size L5 := st5.new hnr (by simp; omega)
            have b5 : Below wq.heap.size wq w5 := kp5.below (hbq.alloc hsz _) hnr (by simp; omega)
            go_roundw
            case rel => exact ⟨q + 1, L5, a5, rn + 1, cap5, by omega, by go_num, rfl, by rw [lqTo_yes HB.out, ← ints_snoc]; exact ow5, n5, b5⟩
            case measure => simp [intOf]; omega
          · have hle : q + 1 < wd := by omega
            have rtail : RdI wr (some ⟨b3, off3 + (q + 1), none⟩) (wd - (q + 1)) (cap - j - (q + 1)) ((winL xs j wd).drop (q + 1)) := by
              have h := rw2.from (q + 1) (by omega)
              rw [ints_drop] at h
              unfold cutAt at h
              rw [if_neg (by omega), Option.map_some, Addr.add_lit] at h
              exact h
            have htl : ((winL xs j wd).drop (q + 1)).length = wd - (q + 1) := by rw [List.length_drop, HWL.out]
            have hiff := lt_minF (zs := (winL xs j wd).drop (q + 1)) (x := nth (winL xs j wd) q) (by omega)
            rw [htl] at hiff
            have hd : decide ((q : Int) + 1 = (wd : Int)) = false := decide_eq_false (by omega)
            have hd2 : ¬ (q : Int) + 1 = (wd : Int) := by omega
            have hd3 : ((q : Int) + 1 == (wd : Int)) = false := by simpa using hd2
            have hcj : ¬ cap - j = q + 1 := by omega
            have hi1 : (q : Int) + 1 ≤ (wd : Int) := by omega
            have hi2 : (0 : Int) ≤ (q : Int) + 1 := by omega
            have hi3 : ((q : Int) + 1).toNat = q + 1 := by omega
            by_cases hmin : nth (winL xs j wd) q < minF ((winL xs j wd).drop (q + 1))
            · have HB := Lib.hid (lessB_yes (ys := winL xs j wd) (q := q) (fun i h1 h2 => by
                have h3 := hiff.1 hmin (i - (q + 1)) (by rw [HWL.out] at h2; omega)
                rw [nth_dropL, show q + 1 + (i - (q + 1)) = i by omega] at h3; exact h3))
              have hrow2 := hrow.alloc (.cells #[.int .i64 ((j : Int) + q)] 3)
              clear hiff
              go_wp2_with (first | (go_at_call 48; refine (c_Min (some ⟨b3, off3 + (q + 1), none⟩) (wd - (q + 1)) (cap - j - (q + 1)) _ _ rtail (by omega) (by omega)).mono ?_; rintro e w4 ⟨rfl, rfl⟩) | ((with_reducible show wpList _ _ _ (⟨some 56, _, _, _, _, _⟩ :: _) _ _); refine wpList_app _ rfl _ _ 24 rfl 3 Try.underlying24 infoInt rfl rfl rfl hrow2 (Rd.one _ _ _) (one_int _) (by omega) (by unfold maxLen; omega) ?_; intro a5 cap5 L5 w5 ow5 kp5 st5))
              have n5 : New wq.heap.size L5 := st5.new hnr (by simp; omega)
              have b5 : Below wq.heap.size wq w5 := kp5.below (hbq.alloc hsz _) hnr (by simp; omega)
              go_roundw
              case rel => exact ⟨q + 1, L5, a5, rn + 1, cap5, by omega, by go_num, rfl, by rw [lqTo_yes HB.out, ← ints_snoc]; exact ow5, n5, b5⟩
              case measure => simp [intOf]; omega
            · have HB := Lib.hid (lessB_no (ys := winL xs j wd) (q := q) (fun h => hmin (hiff.2 fun i hi => by
                rw [nth_dropL]; exact h _ (by omega) (by rw [HWL.out]; omega))))
              clear hiff
              go_wp2_with (go_at_call 48; refine (c_Min (some ⟨b3, off3 + (q + 1), none⟩) (wd - (q + 1)) (cap - j - (q + 1)) _ _ rtail (by omega) (by omega)).mono ?_; rintro e w4 ⟨rfl, rfl⟩)
              go_roundw
              case rel => exact ⟨q + 1, M, ra, rn, rc, by omega, by go_num, rfl, by rw [lqTo_no HB.out]; exact hrow, hnr, hbq⟩
              case measure => simp [intOf]; omega
        · obtain rfl : wd = q := by omega
          have hb2 := Below.nx hbj hbq
          have hsz := hb2.size
          have hszq := hbj.size
          have og2 := (og.below hbq).alloc (.cells #[.slice ra rn rc] 24)
          go_wp2_with ((with_reducible show wpList _ _ _ (⟨some 61, _, _, _, _, _⟩ :: _) _ _); refine wpList_app _ rfl _ _ 35 rfl 24 Try.underlying35 infoSlW rfl rfl rfl og2.row (Rd.one _ _ _) (one_slice _ _ _) (by omega) (by unfold maxLen; omega) ?_; intro a6 cap6 L6 w6 ow6 kp6 st6)
          have og6 := og2.push (c := ⟨M, ra, rn, rc, lqTo (winL xs j wd) j wd⟩) (hrow.alloc _) (fun i hi hm => by have := og.old i hi; have := hnr i hm; omega) ow6 kp6 st6
          have n6 : New w1.heap.size (fp L6 (cs ++ [⟨M, ra, rn, rc, lqTo (winL xs j wd) j wd⟩])) := hnm.push (hnr.mono hszq) st6 (by simp; omega)
          have b6 : Below w1.heap.size w1 w6 := kp6.below (hb2.alloc hsz _) (fun i hi => hnm i (mem_fp.2 (.inl hi))) (by simp; omega)
          go_roundw
          case rel => exact ⟨j + 1, L6, _, a6, cap6, by omega, by go_num, rfl, og6, by rw [List.map_append, HEX.out, lqG_succ]; rfl, n6, b6⟩
          case measure => simp [intOf]; omega
    · obtain rfl : j = winN n wd := by omega
      go_wp2_with fail
      go_ret
      exact ⟨la, _, lc, rfl, ⟨L, cs, og, by rw [HV.out, HEX.out], hnm.mono hb.size⟩, by rw [HV.out]; exact lqG_small _ _ _ (by omega) (by omega), Below.nx hb hbj⟩









































































































































end Go.Proofs.Ytiiijijbkacneaa

/- Windows, sorted: numbers in the middle, all windows sorted, smoothing. No condition but lengths. -/
import Derived.Test.YtmbapbkmllefcaaWinQ
import Derived.Test.YtmbapbkmllefcaaValues
import Derived.Test.YtmbapbkmllefcaaTurn
namespace Go.Proofs.Ytmbapbkmllefcaa
open Go.RowKit
set_option linter.unusedVariables false

/-- The number in the middle. -/
def medF (ys : List Int) : Int := nth (srt ys) ((ys.length - 1) / 2)
theorem placeF_srt (p : Nat) (ys : List Int) : placeF p ys = nth (srt ys) p := by
  unfold placeF; rw [show ltI = ltD from rfl, srt_eq]


theorem half_eq (n : Nat) (h : 1 ≤ n) : Int.tdiv ((n : Int) - 1) 2 = (((n - 1) / 2 : Nat) : Int) := by
  rw [show (n : Int) - 1 = ((n - 1 : Nat) : Int) by omega, Int.tdiv_eq_ediv_of_nonneg (by omega)]; omega
theorem half_eq' (n : Nat) : Int.tdiv (n : Int) 2 = ((n / 2 : Nat) : Int) := by
  rw [Int.tdiv_eq_ediv_of_nonneg (by omega)]; omega

theorem c_sortedOf (b off n cap : Nat) (ys : List Int) (w : World) (hr : RdI w (some ⟨b, off, none⟩) n cap ys) (h1 : 1 ≤ n) (h24 : n ≤ 1000) :
    Calls Try.prog 26 #[.func (.func 31) #[] #[.pointer (some ⟨w.heap.size, 0, none⟩)]] (w.alloc (.cells #[.slice (some ⟨b, off, none⟩) n cap] 22)) fun e w' => ∃ sa sc, e = .returned (.slice sa n sc) ∧ OwI w' 3 w.heap.size sa n sc (srt ys) ∧ Below w.heap.size w w' := by
  obtain ⟨b', off', e, hb, hc⟩ := hr.int (by omega)
  simp only [Option.some.injEq, Addr.mk.injEq, and_true] at e
  obtain ⟨rfl, rfl⟩ := e
  have hB0 : Below w.heap.size w (w.alloc (.cells #[.slice (some ⟨b, off, none⟩) n cap] 22)) := (Below.refl _ w).alloc (Nat.le_refl _) _
  refine (c_sortedV w.heap.size b off n cap ys hr.lens (by omega) h24 _ (by simp) (by simp; omega) (World.cell?_alloc_at _ _ _ _ (by simp)) (fun j hj => (hB0.cell (p := ⟨b, off + j, none⟩) hb).trans (hc j hj))).mono ?_
  rintro e w' ⟨sa, sc, rfl, ho, hb'⟩
  exact ⟨sa, sc, rfl, ho.mono (by simp), hB0.trans (hb'.mono (by simp))⟩

theorem c_median (a : Option Addr) (n cap : Nat) (ys : List Int) (w : World) (hr : RdI w a n cap ys) (h1 : 1 ≤ n) (h24 : n ≤ 24) :
    Calls Try.prog 22 #[.slice a n cap] w fun e w' => e = .returned (.int .i64 (medF ys)) ∧ Below w.heap.size w w' := by
  have HL := Lib.hid hr.lens
  obtain ⟨b, off, rfl, hb, _⟩ := hr.int (by omega)
  have hs := c_sortedOf b off n cap ys w hr h1 (by omega)
  have hq := half_eq n h1
  go_enter Try.func22, Try.ntmps22
  go_wp2_with (first | (go_at_call 27; refine (c_values _ _ _ _).mono ?_; rintro e w1 ⟨rfl, rfl⟩) | (go_at_call 26; refine hs.mono ?_; rintro e w2 ⟨sa, sc, rfl, ⟨L, ho, hn⟩, hb2⟩; obtain ⟨g, rfl, rfl, _, hc, _⟩ := ho.int (by have := ho.le; omega); have c1 := hc ((n - 1) / 2) (by omega); have hlt1 : (((n - 1) / 2 : Nat) : Int) < (n : Int) := by omega))
  go_ret
  exact ⟨by unfold medF; rw [HL.out]; rfl, by assumption⟩



theorem ci_WindowMedians (a : Option Addr) (n cap : Nat) (xs : List Int) (k : Int) (w : World) (hr : RdI w a n cap xs) :
    Calls Try.prog 8 #[.slice a n cap, .int .i64 k] w fun e w' => ∃ sa sn sc, e = .returned (.slice sa sn sc) ∧ OwI w' 3 w.heap.size sa sn sc (wmV medF xs k) ∧ sn ≤ 1048576 ∧ Below w.heap.size w w' := by
  go_enter Try.func8, Try.ntmps8
  go_wp2_with fail
  refine (c_ofWindows medF 22 (fun _ _ => by kernel_rfl) (fun a n cap ys w h1 h2 h3 => c_median a n cap ys w h1 h2 h3) a n cap xs k _ hr).mono ?_
  rintro e w' ⟨sa, sn, sc, rfl, h1, h2, h3⟩
  go_wp2
  go_ret
  exact ⟨sa, sn, sc, rfl, h1, h2, h3⟩

theorem cs_WindowMedians (a : Option Addr) (n cap : Nat) (xs : List Int) (k : Int) (w : World) (hr : RdI w a n cap xs) :
    Calls Try.prog 6 #[.slice a n cap, .int .i64 k] w fun e w' => ∃ sa sn sc, e = .returned (.slice sa sn sc) ∧ RdI w' sa sn sc (wmV medF xs k) ∧ sn ≤ 1048576 ∧ Below w.heap.size w w' := by
  have HL := Lib.hid hr.lens
  cases hok : okWin n k
  · go_enter Try.func6, Try.ntmps6
    go_wp2_with (go_at_call 19; refine (c_l23Ok a n cap k _).mono ?_; rw [hok]; rintro e w1 ⟨rfl, rfl⟩)
    have HO := Lib.hid hok
    clear hok
    go_ret
    exact ⟨_, _, _, rfl, by unfold wmV; rw [HL.out, HO.out]; exact Rd.nil _ _ _ (by unfold maxLen; omega), by omega, Below.refl _ _⟩
  obtain ⟨hn, hk1, hk24⟩ := okWin_yes hok
  obtain ⟨wd, rfl⟩ : ∃ wd : Nat, k = wd := ⟨k.toNat, by omega⟩
  have hq := half_eq wd (by omega)
  go_enter Try.func6, Try.ntmps6
  go_wp2_with (go_at_call 19; refine (c_l23Ok a n cap wd _).mono ?_; rw [hok]; rintro e w1 ⟨rfl, rfl⟩)
  have HO := Lib.hid hok
  clear hok
  refine (c_l23Place a n cap wd ((wd - 1) / 2) xs _ hr hn (by omega) (by omega)).mono ?_
  rintro e w' ⟨sa, sc, rfl, h1, h3⟩
  go_wp2_with fail
  go_ret
  have hwm := winMap_congr (g := placeF ((wd - 1) / 2)) (h := medF) (xs := xs) (wd := wd) (k := winN n wd) (fun i hi => by
    have hwl := winL_len (xs := xs) (i := i) (wd := wd) (by unfold winN at hi; rw [HL.out]; omega)
    rw [placeF_srt]; unfold medF; rw [hwl])
  rw [hwm] at h1
  exact ⟨sa, _, sc, rfl, by unfold wmV; rw [HL.out, HO.out]; exact h1.rd', by unfold winN; omega, h3⟩


def swG (xs : List Int) (wd m : Nat) : List (List Int) := (List.range m).map fun i => srt (winL xs i wd)
theorem swG_succ (xs : List Int) (wd m : Nat) : swG xs wd (m + 1) = swG xs wd m ++ [srt (winL xs m wd)] := by unfold swG; rw [List.range_succ, List.map_append]; rfl
def swdV (xs : List Int) (k : Int) : List (List Int) := if okWin xs.length k = true then swG xs k.toNat (winN xs.length k.toNat) else []
theorem swG_small (xs : List Int) (wd m : Nat) (h : xs.length ≤ 24) (hm : m ≤ 1000) : SmallG m (swG xs wd m) := ⟨hm, fun ys hy => by
  obtain ⟨i, _, rfl⟩ := List.mem_map.1 hy
  rw [srt_len]; simp [winL]; omega⟩


set_option maxHeartbeats 1000000 in
theorem ci_SortedWindows (a : Option Addr) (n cap : Nat) (xs : List Int) (k : Int) (w : World) (hr : RdI w a n cap xs) :
    Calls Try.prog 15 #[.slice a n cap, .int .i64 k] w fun e w' => ∃ sa sn sc, e = .returned (.slice sa sn sc) ∧ Gr w' 22 3 w.heap.size sa sn sc (swdV xs k) ∧ SmallG sn (swdV xs k) ∧ Below w.heap.size w w' := by
  have HL := Lib.hid hr.lens
  cases hok : okWin n k
  · have HV := Lib.hid (show swdV xs k = [] by unfold swdV; rw [HL.out, hok]; rfl)
    go_enter Try.func15, Try.ntmps15
    go_wp2_with fail
    refine (c_windows_no a n cap k _ hok).mono ?_
    rintro e w1 ⟨rfl, rfl⟩
    clear hok
    go_wp2_with fail
    go_ret
    exact ⟨_, _, _, rfl, by rw [HV.out]; exact ⟨[], [], OwG.bare _ _ _ _, rfl, fun _ h => by simp [fp] at h⟩, by rw [HV.out]; exact ⟨by omega, fun _ h => by cases h⟩, Below.refl _ _⟩
  obtain ⟨hn, hk1, hk24⟩ := okWin_yes hok
  obtain ⟨wd, rfl⟩ : ∃ wd : Nat, k = wd := ⟨k.toNat, by omega⟩
  have HV := Lib.hid (show swdV xs (wd : Int) = swG xs wd (winN n wd) by unfold swdV; rw [HL.out, hok]; rfl)
  clear hok
  go_enter Try.func15, Try.ntmps15
  go_wp2_with fail
  refine (c_windows a n cap wd xs _ hr hn (by omega) (by omega)).mono ?_
  rintro e w1 ⟨oa, oc, L0, rfl, how, hnew, hb⟩
  have hm : winN n wd ≤ 25 := by unfold winN; omega
  go_wp2_with fail
  go_loopw [7, 21] (fun l i wr => ∃ j : Nat, ∃ L cs la lc, j ≤ winN n wd ∧ i = .int .i64 j ∧ l = .slice la j lc ∧ OwG wr 22 3 L la j lc cs ∧ cs.map (·.xs) = swG xs wd j ∧ New w1.heap.size (fp L cs) ∧ Below w1.heap.size w1 wr) (fun _ i _ => winN n wd - (intOf i).toNat)
  case atStart => exact ⟨0, [], [], _, _, by omega, rfl, rfl, OwG.bare _ _ _ _, rfl, fun _ h => by simp [fp] at h, (Below.refl _ _).alloc (Nat.le_refl _) _⟩
  case round =>
    obtain ⟨j, L, cs, la, lc, hj, rfl, rfl, og, hex, hnm, hbj⟩ := hrel
    have HEX := Lib.hid hex
    clear hex
    by_cases hlt : j < winN n wd
    · have hjw : j + wd ≤ n := by unfold winN at hlt; omega
      have hcapn := hr.le
      obtain ⟨g', off, rfl, hg, hc⟩ := (how.below hbj).rd.at' (by omega)
      have c1 := hc j hlt
      rw [List.getElem?_map, List.getElem?_range hlt] at c1
      clear hc
      have rw1 := ((hr.below hb).below hbj).win hjw
      obtain ⟨b2, off2, e2, _, _⟩ := rw1.int (by omega)
      rw [e2] at rw1
      have c1' : wr.cell? ⟨g', off + j, none⟩ = some (.slice (some ⟨b2, off2, none⟩) wd (cap - j)) := by rw [← e2]; exact c1
      clear c1 e2
      have hs := c_sortedOf b2 off2 wd (cap - j) _ wr rw1 (by omega) (by omega)
      have hszj := hbj.size
      go_wp2_with (first | (go_at_call 27; refine (c_values _ _ _ _).mono ?_; rintro e w2 ⟨rfl, rfl⟩) | (go_at_call 26; refine hs.mono ?_; rintro e w3 ⟨sa, sc, rfl, ⟨M, ho, hnM⟩, hb3⟩; have og3 := (og.below hb3).alloc (.cells #[.slice sa wd sc] 22)) | ((with_reducible show wpList _ _ _ (⟨some 30, _, _, _, _, _⟩ :: _) _ _); refine wpList_app _ rfl _ _ 28 rfl 22 Try.underlying28 infoSlW rfl rfl rfl og3.row (Rd.one _ _ _) (one_slice _ _ _) (by omega) (by unfold maxLen; omega) ?_; intro a6 cap6 L6 w6 ow6 kp6 st6))
      have hb4 := Below.nx hbj hb3
      have hsz4 := hb4.size
      have og6 := og3.push (c := ⟨M, sa, wd, sc, srt (winL xs j wd)⟩) (ho.alloc _) (fun i hi hm => by have := og.old i hi; have := hnM i hm; omega) ow6 kp6 st6
      have n6 : New w1.heap.size (fp L6 (cs ++ [⟨M, sa, wd, sc, srt (winL xs j wd)⟩])) := hnm.push (hnM.mono hszj) st6 (by simp; omega)
      have b6 : Below w1.heap.size w1 w6 := kp6.below (hb4.alloc hsz4 _) (fun i hi => hnm i (mem_fp.2 (.inl hi))) (by simp; omega)
      go_roundw
      case rel => exact ⟨j + 1, L6, _, a6, cap6, by omega, by go_num, rfl, og6, by rw [List.map_append, HEX.out, swG_succ]; rfl, n6, b6⟩
      case measure => simp [intOf]; omega
    · obtain rfl : j = winN n wd := by omega
      go_wp2_with fail
      go_ret
      exact ⟨la, _, lc, rfl, ⟨L, cs, og, by rw [HV.out, HEX.out], hnm.mono hb.size⟩, by rw [HV.out]; exact swG_small _ _ _ (by rw [HL.out]; exact hn) (by omega), Below.nx hb hbj⟩



set_option maxHeartbeats 1000000 in
theorem cs_SortedWindows (a : Option Addr) (n cap : Nat) (xs : List Int) (k : Int) (w : World) (hr : RdI w a n cap xs) :
    Calls Try.prog 14 #[.slice a n cap, .int .i64 k] w fun e w' => ∃ sa sn sc, e = .returned (.slice sa sn sc) ∧ RdG w' sa sn sc (swdV xs k) ∧ SmallG sn (swdV xs k) ∧ Below w.heap.size w w' := by
  have HL := Lib.hid hr.lens
  cases hok : okWin n k
  · have HV := Lib.hid (show swdV xs k = [] by unfold swdV; rw [HL.out, hok]; rfl)
    go_enter Try.func14, Try.ntmps14
    go_wp2_with (go_at_call 19; refine (c_l23Ok a n cap k _).mono ?_; rw [hok]; rintro e w1 ⟨rfl, rfl⟩)
    clear hok
    go_ret
    exact ⟨_, _, _, rfl, by rw [HV.out]; exact RdG.nil _ _ _ (by unfold maxLen; omega), by rw [HV.out]; exact ⟨by omega, fun _ h => by cases h⟩, Below.refl _ _⟩
  obtain ⟨hn, hk1, hk24⟩ := okWin_yes hok
  obtain ⟨wd, rfl⟩ : ∃ wd : Nat, k = wd := ⟨k.toNat, by omega⟩
  have HV := Lib.hid (show swdV xs (wd : Int) = swG xs wd (winN n wd) by unfold swdV; rw [HL.out, hok]; rfl)
  go_enter Try.func14, Try.ntmps14
  go_wp2_with (go_at_call 19; refine (c_l23Ok a n cap wd _).mono ?_; rw [hok]; rintro e w1 ⟨rfl, rfl⟩)
  clear hok
  obtain ⟨w, rfl⟩ : ∃ w : World, w = w1 := ⟨_, rfl⟩
  have hm : winN n wd ≤ 25 := by unfold winN; omega
  go_loopw [5, 6] (fun l i wr => ∃ j : Nat, ∃ L cs la lc, j ≤ winN n wd ∧ i = .int .i64 j ∧ l = .slice la j lc ∧ OwG wr 22 3 L la j lc cs ∧ cs.map (·.xs) = swG xs wd j ∧ New w.heap.size (fp L cs) ∧ Below w.heap.size w wr) (fun _ i _ => n + 1 - (intOf i).toNat)
  case atStart => exact ⟨0, [], [], _, _, by omega, rfl, rfl, OwG.bare _ _ _ _, rfl, fun _ h => by simp [fp] at h, (Below.refl _ _).alloc (Nat.le_refl _) _⟩
  case round =>
    obtain ⟨j, L, cs, la, lc, hj, rfl, rfl, og, hex, hnm, hbj⟩ := hrel
    have HEX := Lib.hid hex
    clear hex
    by_cases hjw : j + wd ≤ n
    · have hlt : j < winN n wd := by unfold winN; omega
      have hrj := hr.below hbj
      have hszj := hbj.size
      go_wp2_with ((with_reducible show wpList _ _ _ (⟨some 26, _, _, _, _, _⟩ :: _) _ _); refine wpList_cut _ rfl (.tmp 21) (.tmp 22) (.tmp 25) 22 rfl 3 Try.underlying22 szInt j (j + wd) rfl rfl (by rfl) rfl (by simp; try omega) hrj (by omega) (by omega) ?_; intro a2 ha2 r2; clear ha2)
      simp only [Nat.add_sub_cancel_left] at *
      have rw1 : RdI wr a2 wd (cap - j) (winL xs j wd) := by rw [ints_take, ints_drop] at r2; exact r2
      clear r2
      have HWL := Lib.hid (winL_len (xs := xs) (i := j) (wd := wd) (by rw [HL.out]; exact hjw))
      refine (c_l08Sort a2 wd (cap - j) (winL xs j wd) _ rw1 (by omega)).mono ?_
      rintro e w3 ⟨sa, sc, rfl, ⟨M, ho, hnM⟩, hb3⟩
      have hso : sortTo ltI (winL xs j wd) wd = srt (winL xs j wd) := by
        have := srt_eq (winL xs j wd)
        rwa [HWL.out] at this
      rw [hso] at ho
      have hb4 := Below.nx hbj hb3
      have hsz4 := hb4.size
      have og3 := (og.below hb3).alloc (.cells #[.slice sa wd sc] 22)
      go_wp2_with ((with_reducible show wpList _ _ _ (⟨some 29, _, _, _, _, _⟩ :: _) _ _); refine wpList_app _ rfl _ _ 28 rfl 22 Try.underlying28 infoSlW rfl rfl rfl og3.row (Rd.one _ _ _) (one_slice _ _ _) (by omega) (by unfold maxLen; omega) ?_; intro a6 cap6 L6 w6 ow6 kp6 st6)
      have og6 := og3.push (c := ⟨M, sa, wd, sc, srt (winL xs j wd)⟩) (ho.alloc _) (fun i hi hm => by have := og.old i hi; have := hnM i hm; omega) ow6 kp6 st6
      have n6 : New w.heap.size (fp L6 (cs ++ [⟨M, sa, wd, sc, srt (winL xs j wd)⟩])) := hnm.push (hnM.mono hszj) st6 (by simp; omega)
      have b6 : Below w.heap.size w w6 := kp6.below (hb4.alloc hsz4 _) (fun i hi => hnm i (mem_fp.2 (.inl hi))) (by simp; omega)
      go_roundw
      case rel => exact ⟨j + 1, L6, _, a6, cap6, by omega, by go_num, rfl, og6, by rw [List.map_append, HEX.out, swG_succ]; rfl, n6, b6⟩
      case measure => simp [intOf]; omega
    · obtain rfl : j = winN n wd := by unfold winN at hj ⊢; omega
      go_wp2_with fail
      go_ret
      exact ⟨la, _, lc, rfl, by rw [HV.out, ← HEX.out]; exact og.rd, by rw [HV.out]; exact swG_small _ _ _ (by rw [HL.out]; exact hn) (by omega), hbj⟩


end Go.Proofs.Ytmbapbkmllefcaa

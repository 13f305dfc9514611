/- Windows, sorted: numbers in the middle, all windows sorted, smoothing. No condition but lengths. -/
import Derived.Test.YtiiijijbkacneaaWinQ
import Derived.Test.YtiiijijbkacneaaValues
import Derived.Test.YtiiijijbkacneaaTurn
namespace Go.Proofs.Ytiiijijbkacneaa
open Go.RowKit
set_option linter.unusedVariables false

/-- The number in the middle. -/
def medF (ys : List Int) : Int := nth (srt ys) ((ys.length - 1) / 2)
theorem placeF_srt (p : Nat) (ys : List Int) : placeF p ys = nth (srt ys) p := by
  unfold placeF; rw [show ltI = ltD from rfl, srt_eq]


theorem half_eq (n : Nat) (h : 1 ≤ n) : Int.tdiv ((n : Int) - 1) 2 = (((n - 1) / 2 : Nat) : Int) := by
  rw [show (n : Int) - 1 = ((n - 1 : Nat) : Int) by omega, Int.tdiv_eq_ediv_of_nonneg (by omega)]; omega
theorem half_eq' (n : Nat) : Int.tdiv (n : Int) 2 = ((n / 2 : Nat) : Int) := by
  rw [Int.tdiv_eq_ediv_of_nonneg (by omega)]; omega

theorem c_sortedOf (b off n cap : Nat) (ys : List Int) (w : World) (hr : RdI w (some ⟨b, off, none⟩) n cap ys) (h1 : 1 ≤ n) (h24 : n ≤ 1000) :
    Calls Try.prog 52 #[.func (.func 66) #[] #[.pointer (some ⟨w.heap.size, 0, none⟩)]] (w.alloc (.cells #[.slice (some ⟨b, off, none⟩) n cap] 24)) fun e w' => ∃ sa sc, e = .returned (.slice sa n sc) ∧ OwI w' 3 w.heap.size sa n sc (srt ys) ∧ Below w.heap.size w w' := by
  obtain ⟨b', off', e, hb, hc⟩ := hr.int (by omega)
  simp only [Option.some.injEq, Addr.mk.injEq, and_true] at e
  obtain ⟨rfl, rfl⟩ := e
  have hB0 : Below w.heap.size w (w.alloc (.cells #[.slice (some ⟨b, off, none⟩) n cap] 24)) := (Below.refl _ w).alloc (Nat.le_refl _) _
  refine (c_sortedV w.heap.size b off n cap ys hr.lens (by omega) h24 _ (by simp) (by simp; omega) (World.cell?_alloc_at _ _ _ _ (by simp)) (fun j hj => (hB0.cell (p := ⟨b, off + j, none⟩) hb).trans (hc j hj))).mono ?_
  rintro e w' ⟨sa, sc, rfl, ho, hb'⟩
  exact ⟨sa, sc, rfl, ho.mono (by simp), hB0.trans (hb'.mono (by simp))⟩

theorem c_median (a : Option Addr) (n cap : Nat) (ys : List Int) (w : World) (hr : RdI w a n cap ys) (h1 : 1 ≤ n) (h24 : n ≤ 24) :
    Calls Try.prog 46 #[.slice a n cap] w fun e w' => e = .returned (.int .i64 (medF ys)) ∧ Below w.heap.size w w' := by
  have HL := Lib.hid hr.lens
  obtain ⟨b, off, rfl, hb, _⟩ := hr.int (by omega)
  have hs := c_sortedOf b off n cap ys w hr h1 (by omega)
  have hq := half_eq n h1
  go_enter Try.func46, Try.ntmps46
  go_wp2_with (first | (go_at_call 53; refine (c_values _ _ _ _).mono ?_; rintro e w1 ⟨rfl, rfl⟩) | (go_at_call 52; refine hs.mono ?_; rintro e w2 ⟨sa, sc, rfl, ⟨L, ho, hn⟩, hb2⟩; obtain ⟨g, rfl, rfl, _, hc, _⟩ := ho.int (by have := ho.le; omega); have c1 := hc ((n - 1) / 2) (by omega); have hlt1 : (((n - 1) / 2 : Nat) : Int) < (n : Int) := by omega))
  go_ret
  exact ⟨by unfold medF; rw [HL.out]; rfl, by assumption⟩



theorem ci_WindowMedians (a : Option Addr) (n cap : Nat) (xs : List Int) (k : Int) (w : World) (hr : RdI w a n cap xs) :
    Calls Try.prog 21 #[.slice a n cap, .int .i64 k] w fun e w' => ∃ sa sn sc, e = .returned (.slice sa sn sc) ∧ OwI w' 3 w.heap.size sa sn sc (wmV medF xs k) ∧ sn ≤ 1048576 ∧ Below w.heap.size w w' := by
  go_enter Try.func21, Try.ntmps21
  go_wp2_with fail
  refine (c_ofWindows medF 46 (fun _ _ => by kernel_rfl) (fun a n cap ys w h1 h2 h3 => c_median a n cap ys w h1 h2 h3) a n cap xs k _ hr).mono ?_
  rintro e w' ⟨sa, sn, sc, rfl, h1, h2, h3⟩
  go_wp2
  go_ret
  exact ⟨sa, sn, sc, rfl, h1, h2, h3⟩





























def swG (xs : List Int) (wd m : Nat) : List (List Int) := (List.range m).map fun i => srt (winL xs i wd)
theorem swG_succ (xs : List Int) (wd m : Nat) : swG xs wd (m + 1) = swG xs wd m ++ [srt (winL xs m wd)] := by unfold swG; rw [List.range_succ, List.map_append]; rfl
def swdV (xs : List Int) (k : Int) : List (List Int) := if okWin xs.length k = true then swG xs k.toNat (winN xs.length k.toNat) else []
theorem swG_small (xs : List Int) (wd m : Nat) (h : xs.length ≤ 24) (hm : m ≤ 1000) : SmallG m (swG xs wd m) := ⟨hm, fun ys hy => by
  obtain ⟨i, _, rfl⟩ := List.mem_map.1 hy
  rw [srt_len]; simp [winL]; omega⟩


set_option maxHeartbeats 1000000 in
theorem ci_SortedWindows (a : Option Addr) (n cap : Nat) (xs : List Int) (k : Int) (w : World) (hr : RdI w a n cap xs) :
    Calls Try.prog 25 #[.slice a n cap, .int .i64 k] w fun e w' => ∃ sa sn sc, e = .returned (.slice sa sn sc) ∧ Gr w' 24 3 w.heap.size sa sn sc (swdV xs k) ∧ SmallG sn (swdV xs k) ∧ Below w.heap.size w w' := by
  have HL := Lib.hid hr.lens
  cases hok : okWin n k
  · have HV := Lib.hid (show swdV xs k = [] by unfold swdV; rw [HL.out, hok]; rfl)
    go_enter Try.func25, Try.ntmps25
    go_wp2_with fail
    refine (c_windows_no a n cap k _ hok).mono ?_
    rintro e w1 ⟨rfl, rfl⟩
    clear hok
    go_wp2_with fail
    go_ret
    exact ⟨_, _, _, rfl, by rw [HV.out]; exact ⟨[], [], OwG.bare _ _ _ _, rfl, fun _ h => by simp [fp] at h⟩, by rw [HV.out]; exact ⟨by omega, fun _ h => by cases h⟩, Below.refl _ _⟩
  obtain ⟨hn, hk1, hk24⟩ := okWin_yes hok
  obtain ⟨wd, rfl⟩ : ∃ wd : Nat, k = wd := ⟨k.toNat, by omega⟩
  have HV := Lib.hid (show swdV xs (wd : Int) = swG xs wd (winN n wd) by unfold swdV; rw [HL.out, hok]; rfl)
  clear hok
  go_enter Try.func25, Try.ntmps25
  go_wp2_with fail
  refine (c_windows a n cap wd xs _ hr hn (by omega) (by omega)).mono ?_
  rintro e w1 ⟨oa, oc, L0, rfl, how, hnew, hb⟩
  have hm : winN n wd ≤ 25 := by unfold winN; omega
  go_wp2_with fail
  go_loopw [7, 21] (fun l i wr => ∃ j : Nat, ∃ L cs la lc, j ≤ winN n wd ∧ i = .int .i64 j ∧ l = .slice la j lc ∧ OwG wr 24 3 L la j lc cs ∧ cs.map (·.xs) = swG xs wd j ∧ New w1.heap.size (fp L cs) ∧ Below w1.heap.size w1 wr) (fun _ i _ => winN n wd - (intOf i).toNat)
  case atStart => exact ⟨0, [], [], _, _, by omega, rfl, rfl, OwG.bare _ _ _ _, rfl, fun _ h => by simp [fp] at h, (Below.refl _ _).alloc (Nat.le_refl _) _⟩
  case round =>
    obtain ⟨j, L, cs, la, lc, hj, rfl, rfl, og, hex, hnm, hbj⟩ := hrel
    have HEX := Lib.hid hex
    clear hex
    by_cases hlt : j < winN n wd
    · have hjw : j + wd ≤ n := by unfold winN at hlt; omega
      have hcapn := hr.le
      obtain ⟨g', off, rfl, hg, hc⟩ := (how.below hbj).rd.at' (by omega)
      have c1 := hc j hlt
      rw [List.getElem?_map, List.getElem?_range hlt] at c1
      clear hc
      have rw1 := ((hr.below hb).below hbj).win hjw
      obtain ⟨b2, off2, e2, _, _⟩ := rw1.int (by omega)
      rw [e2] at rw1
      have c1' : wr.cell? ⟨g', off + j, none⟩ = some (.slice (some ⟨b2, off2, none⟩) wd (cap - j)) := by rw [← e2]; exact c1
      clear c1 e2
      have hs := c_sortedOf b2 off2 wd (cap - j) _ wr rw1 (by omega) (by omega)
      have hszj := hbj.size
      go_wp2_with (first | (go_at_call 53; refine (c_values _ _ _ _).mono ?_; rintro e w2 ⟨rfl, rfl⟩) | (go_at_call 52; refine hs.mono ?_; rintro e w3 ⟨sa, sc, rfl, ⟨M, ho, hnM⟩, hb3⟩; have og3 := (og.below hb3).alloc (.cells #[.slice sa wd sc] 24)) | ((with_reducible show wpList _ _ _ (⟨some 30, _, _, _, _, _⟩ :: _) _ _); refine wpList_app _ rfl _ _ 35 rfl 24 Try.underlying35 infoSlW rfl rfl rfl og3.row (Rd.one _ _ _) (one_slice _ _ _) (by omega) (by unfold maxLen; omega) ?_; intro a6 cap6 L6 w6 ow6 kp6 st6))
      have hb4 := Below.nx hbj hb3
      have hsz4 := hb4.size
      have og6 := og3.push (c := ⟨M, sa, wd, sc, srt (winL xs j wd)⟩) (ho.alloc _) (fun i hi hm => by have := og.old i hi; have := hnM i hm; omega) ow6 kp6 st6
      have n6 : New w1.heap.size (fp L6 (cs ++ [⟨M, sa, wd, sc, srt (winL xs j wd)⟩])) := hnm.push (hnM.mono hszj) st6 (by simp; omega)
      have b6 : Below w1.heap.size w1 w6 := kp6.below (hb4.alloc hsz4 _) (fun i hi => hnm i (mem_fp.2 (.inl hi))) (by simp; omega)
      go_roundw
      case rel => exact ⟨j + 1, L6, _, a6, cap6, by omega, by go_num, rfl, og6, by rw [List.map_append, HEX.out, swG_succ]; rfl, n6, b6⟩
      case measure => simp [intOf]; omega
    · obtain rfl : j = winN n wd := by omega
      go_wp2_with fail
      go_ret
      exact ⟨la, _, lc, rfl, ⟨L, cs, og, by rw [HV.out, HEX.out], hnm.mono hb.size⟩, by rw [HV.out]; exact swG_small _ _ _ (by rw [HL.out]; exact hn) (by omega), Below.nx hb hbj⟩



























































end Go.Proofs.Ytiiijijbkacneaa

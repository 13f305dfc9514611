/- One number for each window: ranks, least and greatest numbers. No condition but lengths. -/
import Derived.Test.YtiiijijbkacneaaWinC
import Derived.Test.YtiiijijbkacneaaSort2
import Derived.Test.YtiiijijbkacneaaSrtL
namespace Go.Proofs.Ytiiijijbkacneaa
open Go.RowKit
set_option linter.unusedVariables false

/-- g of each of the first k windows. -/
def winMap (g : List Int → Int) (xs : List Int) (wd k : Nat) : List Int := (List.range k).map fun i => g (winL xs i wd)
theorem winMap_succ (g : List Int → Int) (xs : List Int) (wd k : Nat) : winMap g xs wd (k + 1) = winMap g xs wd k ++ [g (winL xs k wd)] := by unfold winMap; rw [List.range_succ, List.map_append]; rfl
def wmV (g : List Int → Int) (xs : List Int) (k : Int) : List Int := if okWin xs.length k = true then winMap g xs k.toNat (winN xs.length k.toNat) else []


set_option maxHeartbeats 1000000 in
theorem c_ofWindows (g : List Int → Int) (K : Nat) (hcf : ∀ args w, (callFunc K args).run Try.prog w = .ok (.enter K args) w)
    (hf : ∀ a n cap ys w, RdI w a n cap ys → 1 ≤ n → n ≤ 24 → Calls Try.prog K #[.slice a n cap] w fun e w' => e = .returned (.int .i64 (g ys)) ∧ Below w.heap.size w w')
    (a : Option Addr) (n cap : Nat) (xs : List Int) (k : Int) (w : World) (hr : RdI w a n cap xs) :
    Calls Try.prog 45 #[.slice a n cap, .int .i64 k, .func (.func K) #[] #[]] w fun e w' => ∃ sa sn sc, e = .returned (.slice sa sn sc) ∧ OwI w' 3 w.heap.size sa sn sc (wmV g xs k) ∧ sn ≤ 1048576 ∧ Below w.heap.size w w' := by
  have HL := Lib.hid hr.lens
  have HF := Lib.hid hf
  clear hf
  cases hok : okWin n k
  · go_enter Try.func45, Try.ntmps45
    go_wp2_with fail
    refine (c_windows_no a n cap k _ hok).mono ?_
    rintro e w1 ⟨rfl, rfl⟩
    have HO := Lib.hid hok
    clear hok
    go_wp2_with fail
    go_ret
    exact ⟨_, _, _, rfl, by unfold wmV; rw [HL.out, HO.out]; exact ⟨[], Ow.bare _ _ _, fun _ h => (by cases h)⟩, by omega, Below.refl _ _⟩
  obtain ⟨hn, hk1, hk24⟩ := okWin_yes hok
  obtain ⟨wd, rfl⟩ : ∃ wd : Nat, k = wd := ⟨k.toNat, by omega⟩
  have HO := Lib.hid hok
  clear hok
  go_enter Try.func45, Try.ntmps45
  go_wp2_with fail
  refine (c_windows a n cap wd xs _ hr hn (by omega) (by omega)).mono ?_
  rintro e w1 ⟨oa, oc, L, rfl, how, hnew, hb⟩
  have hm : winN n wd ≤ 25 := by unfold winN; omega
  go_wp2_with fail
  go_loopw [9, 23] (fun l i wr => ∃ j : Nat, ∃ M la lc, j ≤ winN n wd ∧ i = .int .i64 j ∧ l = .slice la j lc ∧ Ow wr 3 M la j lc (ints (winMap g xs wd j)) ∧ New w1.heap.size M ∧ Below w1.heap.size w1 wr) (fun _ i _ => winN n wd - (intOf i).toNat)
  case atStart => exact ⟨0, [], _, _, by omega, rfl, rfl, Ow.bare _ _ _, fun _ h => (by cases h), (Below.refl _ _).alloc (Nat.le_refl _) _⟩
  case round =>
    obtain ⟨j, M, la, lc, hj, rfl, rfl, hom, hnm, hbj⟩ := hrel
    by_cases hlt : j < winN n wd
    · have hjw : j + wd ≤ n := by unfold winN at hlt; omega
      obtain ⟨g', off, rfl, hg, hc⟩ := (how.below hbj).rd.at' (by omega)
      have c1 := hc j hlt
      rw [List.getElem?_map, List.getElem?_range hlt] at c1
      clear hc
      have c1' : wr.cell? ⟨g', off + j, none⟩ = some (.slice (cutAt cap j a) wd (cap - j)) := c1
      clear c1
      have rw1 := ((hr.below hb).below hbj).win hjw
      go_wp2_with fail
      refine (HF.out _ wd (cap - j) _ _ rw1 (by omega) (by omega)).mono ?_
      rintro e w2 ⟨rfl, b2⟩
      have hb2 := Below.nx hbj b2
      have hsz := hb2.size
      have hom2 := (hom.below b2).alloc (.cells #[.int .i64 (g (winL xs j wd))] 3)
      go_wp2_with (at_builtin; refine wpList_app _ rfl _ _ 24 rfl 3 Try.underlying24 infoInt rfl rfl rfl hom2 (Rd.one _ _ _) (one_int _) (by omega) (by unfold maxLen; omega) ?_; intro a3 cap3 L3 w3 ow3 kp3 st3)
      have n3 : New w1.heap.size L3 := st3.new hnm (by simp; omega)
      have b3 : Below w1.heap.size w1 w3 := kp3.below (hb2.alloc hsz _) hnm (by simp; omega)
      go_roundw
      case rel => exact ⟨j + 1, L3, a3, cap3, by omega, by go_num, rfl, by rw [ints_snoc, ← winMap_succ] at ow3; exact ow3, n3, b3⟩
      case measure => simp [intOf]; omega
    · obtain rfl : j = winN n wd := by omega
      go_wp2_with fail
      go_ret
      exact ⟨la, _, lc, rfl, ⟨M, by unfold wmV; rw [HL.out, HO.out]; exact hom, hnm.mono hb.size⟩, by omega, Below.nx hb hbj⟩


def lastB (ys : List Int) (x : Int) : Bool := decide (x < nth ys (ys.length - 1))
def rkF (ys : List Int) : Int := cntP (lastB ys) ys ys.length

set_option maxHeartbeats 400000 in
theorem c_WindowRanks1 (a : Option Addr) (n cap : Nat) (ys : List Int) (w : World) (hr : RdI w a n cap ys) (h1 : 1 ≤ n) (h24 : n ≤ 24) :
    Calls Try.prog 54 #[.slice a n cap] w fun e w' => e = .returned (.int .i64 (rkF ys)) ∧ Below w.heap.size w w' := by
  have HL := Lib.hid hr.lens
  go_enter Try.func54, Try.ntmps54
  go_wp2
  go_loopw [3, 8] (fun v i wr => ∃ q : Nat, q ≤ n ∧ i = .int .i64 q ∧ v = .int .i64 (cntP (lastB ys) ys q) ∧ Below w.heap.size w wr) (fun _ i _ => n - (intOf i).toNat)
  case atStart => exact ⟨0, by omega, rfl, rfl, Below.refl _ _⟩
  case round =>
    obtain ⟨q, hq, rfl, rfl, hb⟩ := hrel
    have hcl := cntP_le (lastB ys) ys q
    by_cases hlt : q < n
    · obtain ⟨b, off, rfl, _, hc⟩ := (hr.below hb).int (by omega)
      have c1 := hc q hlt
      have c2 := hc (n - 1) (by omega)
      have e1 : ((n : Int) - 1).toNat = n - 1 := by omega
      have e2 : (n : Int) - 1 = ((n - 1 : Nat) : Int) := by omega
      clear hc
      by_cases h : nth ys q < nth ys (n - 1)
      · have HIT := Lib.hid (cntP_hit (p := lastB ys) (ys := ys) (j := q) (by simp only [lastB]; rw [HL.out]; exact decide_eq_true h))
        go_wp2
        go_roundw
        case rel => exact ⟨q + 1, by omega, by go_num, int_eq (by rw [HIT.out]; omega), hb⟩
        case measure => simp [intOf]; omega
      · have HIT := Lib.hid (cntP_miss (p := lastB ys) (ys := ys) (j := q) (by simp only [lastB]; rw [HL.out]; exact decide_eq_false h))
        go_wp2
        go_roundw
        case rel => exact ⟨q + 1, by omega, by go_num, int_eq (by rw [HIT.out]), hb⟩
        case measure => simp [intOf]; omega
    · obtain rfl : n = q := by omega
      go_wp2
      go_ret
      exact ⟨ret_int (by unfold rkF; rw [HL.out]), hb⟩

theorem ci_WindowRanks (a : Option Addr) (n cap : Nat) (xs : List Int) (k : Int) (w : World) (hr : RdI w a n cap xs) :
    Calls Try.prog 26 #[.slice a n cap, .int .i64 k] w fun e w' => ∃ sa sn sc, e = .returned (.slice sa sn sc) ∧ OwI w' 3 w.heap.size sa sn sc (wmV rkF xs k) ∧ sn ≤ 1048576 ∧ Below w.heap.size w w' := by
  go_enter Try.func26, Try.ntmps26
  go_wp2_with fail
  refine (c_ofWindows rkF 54 (fun _ _ => by kernel_rfl) (fun a n cap ys w h1 h2 h3 => c_WindowRanks1 a n cap ys w h1 h2 h3) a n cap xs k _ hr).mono ?_
  rintro e w' ⟨sa, sn, sc, rfl, h1, h2, h3⟩
  go_wp2
  go_ret
  exact ⟨sa, sn, sc, rfl, h1, h2, h3⟩













































































end Go.Proofs.Ytiiijijbkacneaa

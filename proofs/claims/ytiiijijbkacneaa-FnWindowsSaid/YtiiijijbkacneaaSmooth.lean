/- Numbers replaced by those in the middle of their windows. No condition but lengths. -/
import Derived.Test.YtiiijijbkacneaaWinS
namespace Go.Proofs.Ytiiijijbkacneaa
open Go.RowKit
set_option linter.unusedVariables false

def smG (xs : List Int) (wd : Nat) : Nat → List Int
  | 0 => xs
  | i + 1 => (smG xs wd i).set (i + wd / 2) (medF (winL xs i wd))
theorem smG_len (xs : List Int) (wd k : Nat) : (smG xs wd k).length = xs.length := by
  induction k with
  | zero => rfl
  | succ k ih => rw [smG, List.length_set, ih]
def smV (xs : List Int) (k : Int) : List Int := if okWin xs.length k = true ∧ k.toNat % 2 ≠ 0 then smG xs k.toNat (winN xs.length k.toNat) else []
theorem smV_no1 {xs : List Int} {k : Int} (h : okWin xs.length k = false) : smV xs k = [] := by unfold smV; rw [if_neg (by rw [h]; simp)]
theorem smV_no2 {xs : List Int} {wd : Nat} (h : wd % 2 = 0) : smV xs (wd : Int) = [] := by unfold smV; rw [if_neg (by rw [Int.toNat_natCast]; exact fun e => e.2 h)]
theorem smV_yes {xs : List Int} {wd : Nat} (h : okWin xs.length (wd : Int) = true) (h2 : wd % 2 ≠ 0) : smV xs (wd : Int) = smG xs wd (winN xs.length wd) := by unfold smV; rw [if_pos ⟨h, by rw [Int.toNat_natCast]; exact h2⟩]; rfl
theorem rem_eq (n : Nat) : Int.tmod (n : Int) 2 = ((n % 2 : Nat) : Int) := by
  rw [Int.tmod_eq_emod_of_nonneg (by omega)]; omega


set_option maxHeartbeats 1000000 in
theorem ci_SmoothWith (a : Option Addr) (n cap : Nat) (xs : List Int) (k : Int) (w : World) (hr : RdI w a n cap xs) :
    Calls Try.prog 27 #[.slice a n cap, .int .i64 k] w fun e w' => ∃ sa sn sc, e = .returned (.slice sa sn sc) ∧ OwI w' 3 w.heap.size sa sn sc (smV xs k) ∧ sn ≤ 1048576 ∧ Below w.heap.size w w' := by
  have HL := Lib.hid hr.lens
  cases hok : okWin n k
  · have HV := Lib.hid (smV_no1 (xs := xs) (k := k) (by rw [HL.out]; exact hok))
    go_enter Try.func27, Try.ntmps27
    go_wp2_with fail
    refine (c_windows_no a n cap k _ hok).mono ?_
    rintro e w1 ⟨rfl, rfl⟩
    clear hok
    go_wp2_with fail
    go_ret
    exact ⟨_, _, _, rfl, by rw [HV.out]; exact ⟨[], Ow.bare _ _ _, fun _ h => by cases h⟩, by omega, Below.refl _ _⟩
  obtain ⟨hn, hk1, hk24⟩ := okWin_yes hok
  obtain ⟨wd, rfl⟩ : ∃ wd : Nat, k = wd := ⟨k.toNat, by omega⟩
  have HO := Lib.hid hok
  clear hok
  have hrem := rem_eq wd
  by_cases hodd : wd % 2 = 0
  · have HV := Lib.hid (smV_no2 (xs := xs) hodd)
    rw [hodd] at hrem
    go_enter Try.func27, Try.ntmps27
    go_wp2_with fail
    refine (c_windows a n cap wd xs _ hr hn (by omega) (by omega)).mono ?_
    rintro e w1 ⟨oa, oc, L0, rfl, how, hnew, hb⟩
    go_wp2_with fail
    go_ret
    exact ⟨_, _, _, rfl, by rw [HV.out]; exact ⟨[], Ow.bare _ _ _, fun _ h => by cases h⟩, by omega, hb⟩
  have HV := Lib.hid (smV_yes (xs := xs) (by rw [HL.out]; exact HO.out) hodd)
  have hrem2 : Int.tmod (wd : Int) 2 = 1 := by rw [hrem]; omega
  clear hrem
  go_enter Try.func27, Try.ntmps27
  go_wp2_with fail
  refine (c_windows a n cap wd xs _ hr hn (by omega) (by omega)).mono ?_
  rintro e w1 ⟨pa, pc, L0, rfl, how, hnew, hb⟩
  go_wp2_with fail
  clear hrem2
  refine (c_Clone a n cap xs _ (hr.below hb) (by omega)).mono ?_
  rintro e w2 ⟨oa, oc, rfl, ⟨M, hout, hnm⟩, hb2⟩
  have hm : winN n wd ≤ 25 := by unfold winN; omega
  have how2 := how.below hb2
  have hb02 := Below.nx hb hb2
  have hapP : Apart L0 M := fun i hi hm => by have h1 := how.old i hi; have h2 := hnm i hm; omega
  go_wp2_with fail
  go_loopw [27] (fun i wr => ∃ j : Nat, j ≤ winN n wd ∧ i = .int .i64 j ∧ Ow wr 3 M oa n oc (ints (smG xs wd j)) ∧ Keeps M w2 wr) (fun i _ => winN n wd - (intOf i).toNat)
  case atStart => exact ⟨0, by omega, rfl, hout, Keeps.refl _ _⟩
  case round =>
    clear hout
    obtain ⟨j, hj, rfl, hout, kq⟩ := hrel
    have hb1r : Below w1.heap.size w1 wr := kq.below hb2 hnm hb2.size
    have hbr : Below w.heap.size w wr := Below.nx hb hb1r
    by_cases hlt : j < winN n wd
    · have hjw : j + wd ≤ n := by unfold winN at hlt; omega
      obtain ⟨g', off, rfl, hg, hc⟩ := (how2.keep kq hapP).rd.at' (by omega)
      have c1 := hc j hlt
      rw [List.getElem?_map, List.getElem?_range hlt] at c1
      clear hc
      have c1' : wr.cell? ⟨g', off + j, none⟩ = some (.slice (cutAt cap j a) wd (cap - j)) := c1
      clear c1
      have rw1 := (hr.below hbr).win hjw
      have hpn : j + wd / 2 < n := by omega
      have HS := Lib.hid (show smG xs wd (j + 1) = (smG xs wd j).set (j + wd / 2) (medF (winL xs j wd)) from rfl)
      obtain ⟨g, rfl, rfl, hgl, _, _⟩ := hout.int (by have := hout.le; omega)
      go_wp2_with (go_at_call 46; refine (c_median (cutAt cap j a) wd (cap - j) _ _ rw1 (by omega) (by omega)).mono ?_; rintro e w3 ⟨rfl, hb3⟩; have hout3 := hout.below hb3; obtain ⟨g3, _, e3, _, hoc, hof⟩ := hout3.int (by have := hout3.le; omega); simp only [Option.some.injEq, Addr.mk.injEq, and_true] at e3; subst e3; have c2 := hoc (j + wd / 2) hpn; have f2 := hof (j + wd / 2); clear hoc hof)
      go_roundw
      case rel => exact ⟨j + 1, by omega, by go_num, by rw [HS.out, ← ints_set]; exact hout3.set (j + wd / 2) _, (kq.trans (Keeps.of_below hb3 _) (Step.refl _ _)).trans (Keeps.setCell _ _ _ _) (Step.refl _ _)⟩
      case measure => simp [intOf]; omega
    · obtain rfl : j = winN n wd := by omega
      go_wp2_with fail
      go_ret
      exact ⟨oa, n, oc, rfl, ⟨M, by rw [HV.out, HL.out]; exact hout, hnm.mono hb.size⟩, by omega, hbr⟩











































































end Go.Proofs.Ytiiijijbkacneaa

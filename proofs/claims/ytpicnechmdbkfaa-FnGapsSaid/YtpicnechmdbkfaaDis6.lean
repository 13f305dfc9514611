/- Measures of disorder, sixth part: exchanges, by cycles. No condition but lengths. -/
import Derived.Test.YtpicnechmdbkfaaDis4
import Derived.Test.YtpicnechmdbkfaaBool
import Derived.Deep.LoopGhost
namespace Go.Proofs.Ytpicnechmdbkfaa
open Go.RowKit

def cntF (bs : List Bool) : Nat := (bs.filter fun b => !b).length
theorem cntF_le (bs : List Bool) : cntF bs ≤ bs.length := List.length_filter_le _ _
theorem cntF_set (bs : List Bool) (q : Nat) (h : q < bs.length) (hg : getB bs q = false) : cntF (bs.set q true) + 1 = cntF bs := by
  induction bs generalizing q with
  | nil => simp at h
  | cons b bs ih =>
    cases q with
    | zero =>
      simp [getB] at hg
      subst hg
      simp [cntF]
    | succ q =>
      have := ih q (by simpa using h) (by simpa [getB] using hg)
      cases b <;> simp [cntF] at this ⊢ <;> omega
def markF (o : List Int) : Nat → List Bool → Nat → List Bool
  | 0, bs, _ => bs
  | f + 1, bs, k => if getB bs k = true then bs else markF o f (bs.set k true) (nth o k).toNat
theorem markF_seen (o : List Int) (f : Nat) (bs : List Bool) (k : Nat) (h : getB bs k = true) : markF o f bs k = bs := by
  cases f with
  | zero => rfl
  | succ f => simp only [markF]; rw [if_pos h]
theorem markF_len (o : List Int) (f : Nat) (bs : List Bool) (k : Nat) : (markF o f bs k).length = bs.length := by
  induction f generalizing bs k with
  | zero => rfl
  | succ f ih =>
    simp only [markF]
    split
    · rfl
    · rw [ih]; simp
def cycF (o : List Int) (n : Nat) : Nat → List Bool × Nat
  | 0 => (List.replicate n false, 0)
  | i + 1 => (markF o (n + 1) (cycF o n i).1 i, if getB (cycF o n i).1 i = true then (cycF o n i).2 else (cycF o n i).2 + 1)
theorem cycF_fst (o : List Int) (n i : Nat) : (cycF o n (i + 1)).1 = markF o (n + 1) (cycF o n i).1 i := rfl
theorem cycF_snd (o : List Int) (n i : Nat) : (cycF o n (i + 1)).2 = if getB (cycF o n i).1 i = true then (cycF o n i).2 else (cycF o n i).2 + 1 := rfl
theorem cycF_len (o : List Int) (n i : Nat) : (cycF o n i).1.length = n := by
  induction i with
  | zero => simp [cycF]
  | succ i ih => rw [cycF_fst, markF_len, ih]
theorem cycF_le (o : List Int) (n i : Nat) : (cycF o n i).2 ≤ i := by
  induction i with
  | zero => simp [cycF]
  | succ i ih => rw [cycF_snd]; split <;> omega
def keyAt (xs o : List Int) (j : Nat) : Int := nth xs (nth o j).toNat
def noDup (xs o : List Int) (n : Nat) : Prop := ∀ j, 1 ≤ j → j < n → keyAt xs o j ≠ keyAt xs o (j - 1)
open Classical in
noncomputable def exV (xs : List Int) : Int := if xs.length ≤ 12 then (if noDup xs (ordL xs xs.length) xs.length then (xs.length : Int) - (cycF (ordL xs xs.length) xs.length xs.length).2 else -1) else -1























































































































































set_option maxHeartbeats 2000000 in
theorem ci_ExchangesNeeded (a : Option Addr) (n cap : Nat) (xs : List Int) (w : World) (hr : RdI w a n cap xs) :
    Calls Try.prog 21 #[.slice a n cap] w fun e w' => e = .returned (.int .i64 (exV xs)) ∧ Below w.heap.size w w' := by
  have hl := Lib.hid hr.lens
  by_cases h12 : n ≤ 12
  case neg =>
    go_enter Try.func21, Try.ntmps21
    go_wp2_with (go_at_call 37; refine (c_isTwelve false _ _ _ _ (by simpa using h12)).mono ?_; rintro e w' ⟨rfl, rfl⟩)
    go_ret
    exact ⟨ret_int (by unfold exV; rw [hl.out, if_neg h12]), Below.refl _ _⟩
  go_enter Try.func21, Try.ntmps21
  go_wp2_with (go_at_call 37; refine (c_isTwelve true _ _ _ _ (by simpa using h12)).mono ?_; rintro e w' ⟨rfl, rfl⟩)
  refine (c_stable a n cap xs _ hr (by omega)).mono ?_
  rintro e w1 ⟨ai, ci, rfl, ⟨L, ho, hnew⟩, hb1⟩
  have hrd : RdI w1 ai n ci (ordL xs n) := ho.rd
  have hr1 := hr.below hb1
  have hmk := run_make_row' (P := Try.prog) 54 4 (.bool false) 1 Try.underlying54 infoBool rfl .i64 .i64 n (by omega) (by omega)
  go_wp2_with fail
  go_loopw [4] (fun i wr => ∃ k : Nat, 1 ≤ k ∧ k ≤ max n 1 ∧ i = .int .i64 k ∧ (∀ j, 1 ≤ j → j < k → keyAt xs (ordL xs n) j ≠ keyAt xs (ordL xs n) (j - 1)) ∧ Below w1.heap.size w1 wr) (fun i _ => max n 1 - (intOf i).toNat)
  case atStart => exact ⟨1, by omega, by omega, by simp, by omega, Below.refl _ _⟩
  case round =>
    obtain ⟨k, hk1, hk, rfl, hall, hb⟩ := hrel
    have HA := Lib.hid hall
    clear hall
    by_cases hlt : k < n
    · obtain ⟨b, off, rfl, hbl, hc⟩ := (hrd.below hb).int (by omega)
      obtain ⟨b', off', rfl, hbl', hc'⟩ := (hr1.below hb).int (by omega)
      obtain ⟨p, hp, hpe⟩ := pos_of (lt := ltK xs) (n := n) (k := n) (j := k) (by omega) (by omega)
      obtain ⟨q, hq, hqe⟩ := pos_of (lt := ltK xs) (n := n) (k := n) (j := k - 1) (by omega) (by omega)
      have c1 : wr.cell? ⟨b, off + k, none⟩ = some (.int .i64 (p : Int)) := by rw [hc k hlt]; unfold ordL; rw [hpe]
      have c2 : wr.cell? ⟨b, off + (k - 1), none⟩ = some (.int .i64 (q : Int)) := by rw [hc (k - 1) (by omega)]; unfold ordL; rw [hqe]
      have c3 := hc' p hp
      have c4 := hc' q hq
      have kp : keyAt xs (ordL xs n) k = nth xs p := by unfold keyAt ordL; rw [hpe]; rfl
      have kq : keyAt xs (ordL xs n) (k - 1) = nth xs q := by unfold keyAt ordL; rw [hqe]; rfl
      have KP := Lib.hid kp
      have KQ := Lib.hid kq
      clear hc hc' hpe hqe kp kq
      by_cases heq : nth xs p = nth xs q
      · rw [heq] at c3
        have HEQ := Lib.hid heq
        clear heq
        go_wp2_with fail
        go_quiet (fail)
        go_wp2_with fail
        go_ret
        exact ⟨ret_int (by
          unfold exV; rw [hl.out, if_pos h12, if_neg]
          intro h; exact h k hk1 hlt (by rw [KP.out, KQ.out, HEQ.out])), by first | exact Below.nx hb1 hb | exact Below.nx hb1 (hb.trans (below_drewN (Below.refl _ _) _))⟩
      · have h1 : (nth xs p == nth xs q) = false := by simpa using heq
        have h2 : (nth xs q == nth xs p) = false := by simpa using fun e => heq e.symm
        go_wp2_with fail
        go_quiet (fail)
        go_wp2_with fail
        go_roundw
        case rel => exact ⟨k + 1, by omega, by omega, by go_num, fun j h3 h4 => by
          rcases Nat.lt_or_ge j k with h | h
          · exact HA.out j h3 h
          · obtain rfl : j = k := by omega
            rw [KP.out, KQ.out]; exact heq, by first | exact hb | exact hb.trans (below_drewN (Below.refl _ _) _)⟩
        case measure => simp [intOf]; omega
    · have hnd : noDup xs (ordL xs n) n := fun j h1 h2 => HA.out j h1 (by omega)
      have HND := Lib.hid hnd
      clear hnd
      go_wp2_with fail
      obtain ⟨wz, rfl⟩ : ∃ wz : World, wz = wr := ⟨_, rfl⟩
      have hbz := Below.nx hb1 hb
      have hz := hb.size
      have hown : Ow (wz.alloc (.cells (madeCells #[.bool false] n) 4)) 4 [wz.heap.size] (some ⟨wz.heap.size, 0, none⟩) n n (bools (cycF (ordL xs n) n 0).1) := Ow.new' _ _ _ _ _ (size_madeCells _ _) (by rw [toList_madeCells_one]; simp [cycF, bools]) (by unfold maxLen; omega)
      have hby : Below w1.heap.size w1 (wz.alloc (.cells (madeCells #[.bool false] n) 4)) := hb.alloc hz _
      go_loopw [5, 41] (fun v i wr => ∃ k : Nat, k ≤ n ∧ i = .int .i64 k ∧ v = .int .i64 ((cycF (ordL xs n) n k).2 : Int) ∧ Ow wr 4 [wz.heap.size] (some ⟨wz.heap.size, 0, none⟩) n n (bools (cycF (ordL xs n) n k).1) ∧ Below w1.heap.size w1 wr) (fun _ i _ => n - (intOf i).toNat)
      case atStart => exact ⟨0, by omega, rfl, int_eq (by simp [cycF]), hown, hby⟩
      case round =>
        obtain ⟨k, hk, rfl, rfl, how, hbk⟩ := hrel
        have hcl := cycF_len (ordL xs n) n k
        have hcc := cycF_le (ordL xs n) n k
        have HCL := Lib.hid hcl
        clear hcl
        by_cases hlt : k < n
        · obtain ⟨g, e1, _, hg, hoc, hof⟩ := how.bool (by omega)
          obtain rfl : wz.heap.size = g := by simpa using e1
          have c1 := hoc k hlt
          clear hoc hof e1
          have inner : ∀ (wo : World) (fr : Int), wo = wr → True := fun _ _ _ => trivial
          clear inner
          cases hgk : getB (cycF (ordL xs n) n k).1 k
          all_goals
            rw [hgk] at c1
            have HGK := Lib.hid hgk
            clear hgk
            go_wp2_with fail
            obtain ⟨wo, rfl⟩ : ∃ wo : World, wo = wr := ⟨_, rfl⟩
            go_loopg [8] (n + 1) (fun f j wr => ∃ q : Nat, ∃ bs : List Bool, q < n ∧ j = .int .i64 q ∧ bs.length = n ∧ cntF bs < f ∧ markF (ordL xs n) f bs q = markF (ordL xs n) (n + 1) (cycF (ordL xs n) n k).1 k ∧ Ow wr 4 [wz.heap.size] (some ⟨wz.heap.size, 0, none⟩) n n (bools bs) ∧ Below w1.heap.size w1 wr)
            case atStart => exact ⟨k, _, hlt, rfl, HCL.out, by have := cntF_le (cycF (ordL xs n) n k).1; rw [HCL.out] at this; omega, rfl, how, hbk⟩
            case round =>
              obtain ⟨q, bs, hq, rfl, hbl, hcf, hmf, how2, hbq⟩ := hrel
              have HMF := Lib.hid hmf
              have HBL := Lib.hid hbl
              clear hmf hbl
              obtain ⟨g, e1, _, hg2, hoc, hof⟩ := how2.bool (by omega)
              obtain rfl : wz.heap.size = g := by simpa using e1
              have c2 := hoc q hq
              have f2 := hof q
              clear hoc hof e1
              obtain ⟨b, off, rfl, hbb, hc⟩ := (hrd.below hbq).int (by omega)
              obtain ⟨p, hp, hpe⟩ := pos_of (lt := ltK xs) (n := n) (k := n) (j := q) (by omega) (by omega)
              have c3 : wr.cell? ⟨b, off + q, none⟩ = some (.int .i64 (p : Int)) := by rw [hc q hq]; unfold ordL; rw [hpe]
              have hne : b ≠ wz.heap.size := by
                obtain ⟨b', off', e, h1, _⟩ := hrd.int (by omega)
                simp at e
                omega
              have HPE := Lib.hid hpe
              clear hc hpe
              cases hgq : getB bs q
              · rw [hgq] at c2
                have HGQ := Lib.hid hgq
                clear hgq
                obtain ⟨f, rfl⟩ : ∃ f, gk = f + 1 := ⟨gk - 1, by omega⟩
                go_wp2_with fail
                go_roundg f
                case measure => omega
                case rel =>
                  refine ⟨p, bs.set q true, hp, rfl, by simpa using HBL.out, ?_, ?_, ?_, hbq.setCell (by show w1.heap.size ≤ wz.heap.size; omega) _⟩
                  · have := cntF_set bs q (by rw [HBL.out]; exact hq) HGQ.out; omega
                  · rw [← HMF.out]
                    simp only [markF]
                    rw [if_neg (by rw [HGQ.out]; simp)]
                    congr 1
                    unfold ordL
                    rw [HPE.out]; rfl
                  · have h := how2.set q (.bool true)
                    rw [bools_set] at h
                    exact h
              · rw [hgq] at c2
                have HGQ := Lib.hid hgq
                clear hgq
                have hfin : (cycF (ordL xs n) n (k + 1)).1 = bs := by
                  rw [cycF_fst, ← HMF.out]
                  exact markF_seen _ _ _ _ HGQ.out
                have HFIN := Lib.hid hfin
                clear hfin
                go_wp2_with fail
                go_roundw
                case rel => exact ⟨k + 1, by omega, by go_num, int_eq (by rw [cycF_snd, HGK.out]; simp; try omega), by rw [HFIN.out]; exact how2, hbq⟩
                case measure => simp [intOf]; omega
        · obtain rfl : k = n := by omega
          go_wp2_with fail
          go_ret
          exact ⟨ret_int (by unfold exV; rw [hl.out, if_pos h12, if_pos HND.out]), Below.nx hb1 hbk⟩

end Go.Proofs.Ytpicnechmdbkfaa

/- The greatest distance and the orders at a distance: the program's walks over the map. No condition. -/
import Derived.Test.YtfnkddplmpcbgaaDistM
import Derived.Maps.RangeWalk
namespace Go.Proofs.Ytfnkddplmpcbgaa
open Go.RowKit Go.Maps
set_option linter.unusedVariables false
set_option linter.unusedSimpArgs false

def maxD (es : List Ent) : Nat := (en es (es.length - 1)).2
def cntD (es : List Ent) (j : Nat) : Nat := es.countP fun e => e.2 == j
def mfV (x : Int) : Int := if 0 ≤ x ∧ x ≤ 5 then (maxD (dst x.toNat) : Int) else -1
def cdV (x f : Int) : Int := if (0 ≤ x ∧ x ≤ 5) ∧ 0 ≤ f ∧ f ≤ 10 then (cntD (dst x.toNat) f.toNat : Int) else -1
theorem mfV_no {x : Int} (h : ¬ (0 ≤ x ∧ x ≤ 5)) : mfV x = -1 := by unfold mfV; rw [if_neg h]
theorem mfV_yes {n : Nat} (h : n ≤ 5) : mfV (n : Int) = maxD (dst n) := by unfold mfV; rw [if_pos (by omega), Int.toNat_natCast]
theorem cdV_no {x f : Int} (h : ¬ ((0 ≤ x ∧ x ≤ 5) ∧ 0 ≤ f ∧ f ≤ 10)) : cdV x f = -1 := by unfold cdV; rw [if_neg h]
theorem cdV_yes {n f : Nat} (h : n ≤ 5) (hf : f ≤ 10) : cdV (n : Int) (f : Int) = cntD (dst n) f := by unfold cdV; rw [if_pos (by omega), Int.toNat_natCast, Int.toNat_natCast]
theorem Bf.max {n : Nat} {es : List Ent} {a j : Nat} (h : Bf n es a j) (i : Nat) (hi : i < es.length) : (en es i).2 ≤ maxD es := h.mono i (es.length - 1) (by omega) (by omega)
theorem Keeps.of_grown0 {w w' : World} (h : w.grownBy w' none) : Keeps [] w w' := ⟨h.os, h.tape, h.output, h.size, fun k hk hn => h.block k hk (by simp)⟩

/-- What has come of the entries, of those with a distance. -/
def cntL (es : List Ent) (left : Lit → Bool) (f : Nat) : Nat := es.countP fun e => !(left (.int .i64 (keyF 1 e.1))) && e.2 == f
theorem cntL_start (es : List Ent) (f : Nat) : cntL es (has (mapD es)) f = 0 := by
  unfold cntL
  rw [List.countP_eq_zero]
  intro e he
  have : has (mapD es) (.int .i64 (keyF 1 e.1)) = true := (has_mapD es _).2 ⟨e, he, rfl⟩
  simp [this]
theorem cntL_end (es : List Ent) (left : Lit → Bool) (f : Nat) (h : ∀ kl, left kl = false) : cntL es left f = cntD es f := by
  unfold cntL cntD
  apply List.countP_congr
  intro e _
  simp [h]
theorem sameKey_int (a b : Int) : (Lit.int .i64 a).sameKey (.int .i64 b) = (a == b) := by
  by_cases h : a = b
  · subst h; simp [Lit.sameKey]
  · rw [sameKey_ne (by intro h2; simp at h2; exact h h2)]; simp [h]
theorem cntL_step (f : Nat) (left : Lit → Bool) (x : Int) (hl : left (.int .i64 x) = true) : ∀ (es : List Ent), es.Pairwise (fun e g => keyF 1 e.1 ≠ keyF 1 g.1) → ∀ e0 ∈ es, (keyF 1 e0.1 : Int) = x →
    cntL es (fun z => left z && !z.sameKey (.int .i64 x)) f = cntL es left f + (if e0.2 = f then 1 else 0) := by
  intro es
  induction es with
  | nil => intro _ e0 he; cases he
  | cons e es ih =>
    intro hp e0 he hk
    have hp2 := List.pairwise_cons.1 hp
    unfold cntL at *
    rw [List.countP_cons, List.countP_cons]
    simp only [sameKey_int] at *
    rcases List.mem_cons.1 he with h1 | h1
    · subst h1
      have other : es.countP (fun e => !(left (.int .i64 (keyF 1 e.1)) && !((keyF 1 e.1 : Int) == x)) && e.2 == f) = es.countP (fun e => !(left (.int .i64 (keyF 1 e.1))) && e.2 == f) := by
        apply List.countP_congr
        intro g hg
        have hne := hp2.1 g hg
        have : ((keyF 1 g.1 : Int) == x) = false := by simp; omega
        simp [this]
      rw [other, hk, hl]
      by_cases h2 : e0.2 = f <;> simp [h2]
    · have hne : ((keyF 1 e.1 : Int) == x) = false := by have := hp2.1 e0 h1; simp; omega
      rw [ih hp2.2 e0 h1 hk, hne]
      by_cases h2 : e0.2 = f <;> simp [h2] <;> omega


set_option maxHeartbeats 1000000 in
theorem ci_MostFlips (x : Int) (w : World) : Calls Try.prog 9 #[.int .i64 x] w fun e w' => e = .returned (.int .i64 (mfV x)) ∧ Below w.heap.size w w' := by
  by_cases hx : 0 ≤ x ∧ x ≤ 5
  case neg =>
    have HV := Lib.hid (mfV_no hx)
    by_cases h0 : x < 0
    all_goals
      go_enter Try.func9, Try.ntmps9
      go_wp2
      go_ret
      exact ⟨by rw [HV.out]; rfl, Below.refl _ _⟩
  obtain ⟨n, rfl⟩ : ∃ n : Nat, x = n := ⟨x.toNat, by omega⟩
  have hn : n ≤ 5 := by omega
  have HV := Lib.hid (mfV_yes hn)
  have BF := Lib.hid (dst_ok n (by omega))
  go_enter Try.func9, Try.ntmps9
  go_wp2_with fail
  refine (c_distances n _ (by omega)).mono ?_
  rintro e w1 ⟨B, rfl, hB, om, b1⟩
  generalize dst n = es at *
  have HP := Lib.hid (BF.out.pw (by omega))
  go_wp2_with (at_range; refine wpList_range_own _ rfl _ 43 rfl 3 3 lawI Try.underlying43 _ B _ _ rfl om ?_; intro w2 hrg0 hg0 hs0)
  go_frame
  have b2 : Below w.heap.size w w2 := (Keeps.of_grown0 hg0).below b1 (fun _ h => by cases h) b1.size
  have hsz := b1.size
  go_loopw [3] (fun m wr => ∃ (left : Lit → Bool) (cnt mv : Nat), m = .int .i64 mv ∧ wr.ranges Try.prog 3 (plainElem (H := Unit) Try.prog 3) B w1.heap.size es.length (mapD es) left cnt ∧ mv ≤ maxD es ∧ (∀ i, i < es.length → left (.int .i64 (keyF 1 (en es i).1)) = false → (en es i).2 ≤ mv) ∧ Below w.heap.size w wr) (fun _ wr => wr.rangeLeft B w1.heap.size)
  case atStart => exact ⟨_, _, 0, rfl, hrg0, by omega, fun i hi h => (by
    rw [(has_mapD es _).2 ⟨en es i, by rw [en_eq hi]; exact List.getElem_mem hi, rfl⟩] at h; cases h), b2⟩
  case round =>
    clear hrg0 hg0 b2
    obtain ⟨left, cnt, mv, rfl, hrg, hmv, hle, hb⟩ := hrel
    have HLE := Lib.hid hle
    clear hle
    go_wp2_with (first
      | (at_next; refine wpList_next_ranges_ii _ rfl _ rfl 3 3 .i64 .i64 lawI Try.underlying3 Try.underlying3 B w1.heap.size es.length _ _ _ rfl hrg ?_ ?_)
      | go_in)
    · intro _ hl0
      have HM := Lib.hid (show maxD es = mv by
        have h1 := HLE.out (es.length - 1) (by have := BF.out.pos; omega) (hl0 _)
        unfold maxD at *; omega)
      go_wp2
      go_ret
      exact ⟨by rw [HV.out, HM.out]; rfl, hb⟩
    · intro x c w3 cnt3 hwx hwc hlx hat hrg3 hlt hg3 hs3 hen
      have hhas : has (mapD es) (.int .i64 x) = true := has_true_of_atKey hat
      obtain ⟨e0, he0, hk0⟩ := (has_mapD es _).1 hhas
      obtain ⟨i0, hi0, rfl⟩ := List.mem_iff_getElem.1 he0
      have hc0 := BF.out.val (by omega) hi0 (.lit (.int .i64 0))
      rw [en_eq hi0, hk0, hat] at hc0
      simp at hc0
      have hmx := BF.out.max i0 hi0
      rw [en_eq hi0] at hmx
      have hbd := en_le BF.out i0 hi0
      have hbl := BF.out.bound (by omega)
      have h8 : 8 ^ n ≤ 8 ^ 6 := Nat.pow_le_pow_right (by omega) (by omega)
      rw [en_eq hi0] at hbd
      obtain ⟨d, hd⟩ : ∃ d : Nat, es[i0].2 = d := ⟨_, rfl⟩
      rw [hd] at hc0 hmx hbd
      subst hc0
      have HI := Lib.hid (show ∀ i, i < es.length → (left (.int .i64 (keyF 1 (en es i).1)) && !(Lit.int .i64 (keyF 1 (en es i).1)).sameKey (.int .i64 x)) = false → (en es i).2 ≤ (if mv < d then d else mv) from fun i hi h => by
        rw [sameKey_int] at h
        cases hl : left (.int .i64 (keyF 1 (en es i).1))
        · have := HLE.out i hi hl; split <;> omega
        · rw [hl] at h
          simp at h
          have hii : i = i0 := by
            rcases Nat.lt_trichotomy i i0 with h1 | h1 | h1
            · have := List.pairwise_iff_getElem.1 HP.out i i0 hi hi0 h1; rw [en_eq hi] at h; omega
            · exact h1
            · have := List.pairwise_iff_getElem.1 HP.out i0 i hi0 hi h1; rw [en_eq hi] at h; omega
          subst hii
          rw [en_eq hi0, hd]; split <;> omega)
      have b3 : Below w.heap.size w w3 := (Keeps.of_grown hg3).below hb (fun i hi => by simp at hi; omega) hb.size
      clear hat hhas hk0 he0 hd
      go_wp2
      go_roundw
      case rel => exact ⟨_, cnt3, if mv < d then d else mv, int_eq (by split <;> rfl), hrg3, by split <;> omega, HI.out, b3⟩
      case measure => rw [hrg3.left_eq, hrg.left_eq]; exact hlt



set_option maxHeartbeats 1000000 in
theorem ci_CountAtDistance (x f : Int) (w : World) : Calls Try.prog 11 #[.int .i64 x, .int .i64 f] w fun e w' => e = .returned (.int .i64 (cdV x f)) ∧ Below w.heap.size w w' := by
  by_cases hx : 0 ≤ x ∧ x ≤ 5
  case neg =>
    have HV := Lib.hid (cdV_no (x := x) (f := f) (fun h => hx h.1))
    by_cases h0 : x < 0
    all_goals
      go_enter Try.func11, Try.ntmps11
      go_wp2
      go_ret
      exact ⟨by rw [HV.out]; rfl, Below.refl _ _⟩
  by_cases hf : 0 ≤ f ∧ f ≤ 10
  case neg =>
    have HV := Lib.hid (cdV_no (x := x) (f := f) (fun h => hf h.2))
    by_cases h0 : f < 0
    all_goals
      go_enter Try.func11, Try.ntmps11
      go_wp2
      go_ret
      exact ⟨by rw [HV.out]; rfl, Below.refl _ _⟩
  obtain ⟨n, rfl⟩ : ∃ n : Nat, x = n := ⟨x.toNat, by omega⟩
  obtain ⟨g, rfl⟩ : ∃ g : Nat, f = g := ⟨f.toNat, by omega⟩
  have hn : n ≤ 5 := by omega
  have hg : g ≤ 10 := by omega
  have HV := Lib.hid (cdV_yes hn hg)
  have BF := Lib.hid (dst_ok n (by omega))
  go_enter Try.func11, Try.ntmps11
  go_wp2_with fail
  refine (c_distances n _ (by omega)).mono ?_
  rintro e w1 ⟨B, rfl, hB, om, b1⟩
  generalize dst n = es at *
  have HP := Lib.hid (BF.out.pw (by omega))
  go_wp2_with (at_range; refine wpList_range_own _ rfl _ 43 rfl 3 3 lawI Try.underlying43 _ B _ _ rfl om ?_; intro w2 hrg0 hg0 hs0)
  go_frame
  have b2 : Below w.heap.size w w2 := (Keeps.of_grown0 hg0).below b1 (fun _ h => by cases h) b1.size
  have hsz := b1.size
  have hbl := BF.out.bound (by omega)
  have h8 : 8 ^ n ≤ 8 ^ 6 := Nat.pow_le_pow_right (by omega) (by omega)
  have h86 : es.length ≤ 262144 := by omega
  clear hbl h8
  go_loopw [5] (fun m wr => ∃ (left : Lit → Bool) (cnt : Nat), m = .int .i64 (cntL es left g) ∧ wr.ranges Try.prog 3 (plainElem (H := Unit) Try.prog 3) B w1.heap.size es.length (mapD es) left cnt ∧ Below w.heap.size w wr) (fun _ wr => wr.rangeLeft B w1.heap.size)
  case atStart => exact ⟨_, _, int_eq (by rw [cntL_start]; rfl), hrg0, b2⟩
  case round =>
    clear hrg0 hg0 b2
    obtain ⟨left, cnt, rfl, hrg, hb⟩ := hrel
    go_wp2_with (first
      | (at_next; refine wpList_next_ranges_ii _ rfl _ rfl 3 3 .i64 .i64 lawI Try.underlying3 Try.underlying3 B w1.heap.size es.length _ _ _ rfl hrg ?_ ?_)
      | go_in)
    · intro _ hl0
      have HM := Lib.hid (cntL_end es left g hl0)
      go_wp2
      go_ret
      exact ⟨by rw [HV.out, ← HM.out]; rfl, hb⟩
    · intro x c w3 cnt3 hwx hwc hlx hat hrg3 hlt hg3 hs3 hen
      have hhas : has (mapD es) (.int .i64 x) = true := has_true_of_atKey hat
      obtain ⟨e0, he0, hk0⟩ := (has_mapD es _).1 hhas
      have hst := cntL_step g left x hlx es HP.out e0 he0 hk0
      obtain ⟨i0, hi0, rfl⟩ := List.mem_iff_getElem.1 he0
      have hc0 := BF.out.val (by omega) hi0 (.lit (.int .i64 0))
      rw [en_eq hi0, hk0, hat] at hc0
      simp at hc0
      have hcl : cntL es left g ≤ es.length := List.countP_le_length
      have HST := Lib.hid hst
      obtain ⟨d, hd⟩ : ∃ d : Nat, es[i0].2 = d := ⟨_, rfl⟩
      rw [hd] at hc0
      subst hc0
      have HD := Lib.hid hd
      have b3 : Below w.heap.size w w3 := (Keeps.of_grown hg3).below hb (fun i hi => by simp at hi; omega) hb.size
      clear hat hhas hk0 he0 hd hst
      by_cases hdg : d = g
      · have hb1 : ((d : Int) == (g : Int)) = true := by simp [hdg]
        have HDG := Lib.hid hdg
        clear hdg
        go_wp2
        go_roundw
        case rel => exact ⟨_, cnt3, int_eq (by rw [HST.out, HD.out, if_pos HDG.out]; rfl), hrg3, b3⟩
        case measure => rw [hrg3.left_eq, hrg.left_eq]; exact hlt
      · have hb1 : ((d : Int) == (g : Int)) = false := by simp; omega
        have HDG := Lib.hid hdg
        clear hdg
        go_wp2
        go_roundw
        case rel => exact ⟨_, cnt3, int_eq (by rw [HST.out, HD.out, if_neg HDG.out]; rfl), hrg3, b3⟩
        case measure => rw [hrg3.left_eq, hrg.left_eq]; exact hlt


end Go.Proofs.Ytfnkddplmpcbgaa

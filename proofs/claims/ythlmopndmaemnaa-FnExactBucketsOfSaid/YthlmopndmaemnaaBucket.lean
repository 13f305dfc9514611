/- Records by their times: the program's and the reference's (printed by bucket.py). No condition but lengths. -/
import Derived.Test.YthlmopndmaemnaaRun1
import Derived.Test.YthlmopndmaemnaaHelpG
import Derived.Test.YthlmopndmaemnaaFlip
import Derived.Deep.RegionLaw
import Derived.Deep.OwnRows
namespace Go.Proofs.Ythlmopndmaemnaa
open Go.RowKit
set_option linter.unusedVariables false
set_option linter.unusedSimpArgs false

theorem infoSlB : (Try.prog.info? 22).map (fun i => (i.zero, i.size, i.bytes)) = some (some (.slice none 0 0), 1, 24) := by kernel_rfl
theorem OwG.drew {w : World} {T Ti : TypeId} {L : List Nat} {a : Option Addr} {n cap : Nat} {cs : List Cell} (h : OwG w T Ti L a n cap cs) : OwG w.drew T Ti L a n cap cs := h.keep (Keeps.drew [] w) (fun _ _ h => by cases h)

def mxT (xs : List Int) : Nat → Int
  | 0 => 0
  | k + 1 => if mxT xs k < nth xs k then nth xs k else mxT xs k
theorem mxT_bd {xs : List Int} {k : Nat} (h : ∀ j, j < k → 0 ≤ nth xs j ∧ nth xs j ≤ 1000) : 0 ≤ mxT xs k ∧ mxT xs k ≤ 1000 := by
  induction k with
  | zero => simp [mxT]
  | succ k ih =>
    have h1 := ih (fun j hj => h j (by omega))
    have h2 := h k (by omega)
    simp only [mxT]; split <;> omega
theorem mxT_ge {xs : List Int} {k j : Nat} (h : j < k) : nth xs j ≤ mxT xs k := by
  induction k with
  | zero => omega
  | succ k ih =>
    simp only [mxT]
    rcases Nat.lt_or_ge j k with h1 | h1
    · have := ih h1; split <;> omega
    · obtain rfl : j = k := by omega
      split <;> omega
/-- The buckets when k records are laid in. -/
def bkG (xs : List Int) (s m : Nat) : Nat → List (List Int)
  | 0 => List.replicate m []
  | k + 1 => (bkG xs s m k).set ((nth xs k).toNat / s) ((bkG xs s m k).getD ((nth xs k).toNat / s) [] ++ [(k : Int)])
theorem bkG_len (xs : List Int) (s m k : Nat) : (bkG xs s m k).length = m := by
  induction k with
  | zero => simp [bkG]
  | succ k ih => rw [bkG, List.length_set, ih]
theorem bkG_row (xs : List Int) (s m k : Nat) : ∀ ys ∈ bkG xs s m k, ys.length ≤ k := by
  induction k with
  | zero => intro ys h; simp [bkG] at h; simp [h]
  | succ k ih =>
    intro ys h
    rw [bkG] at h
    rcases List.mem_or_eq_of_mem_set h with h1 | h1
    · have := ih ys h1; omega
    · subst h1
      rw [List.length_append, List.length_singleton]
      have : ((bkG xs s m k).getD ((nth xs k).toNat / s) []).length ≤ k := by
        rw [List.getD]
        cases e : (bkG xs s m k)[(nth xs k).toNat / s]? with
        | none => simp
        | some z => exact ih z (List.mem_of_getElem? e)
      omega
def bkV (xs : List Int) (k : Int) : List (List Int) :=
  if okTimesOk xs = true ∧ (1 ≤ k ∧ k ≤ 1000) ∧ mxT xs xs.length ≤ 40 * k then bkG xs k.toNat ((mxT xs xs.length).toNat / k.toNat + 1) xs.length else []
theorem bkV_no {xs : List Int} {k : Int} (h : ¬ (okTimesOk xs = true ∧ (1 ≤ k ∧ k ≤ 1000) ∧ mxT xs xs.length ≤ 40 * k)) : bkV xs k = [] := by unfold bkV; rw [if_neg h]
theorem bkV_yes {xs : List Int} {s g n : Nat} (hn : xs.length = n) (h : okTimesOk xs = true) (h1 : 1 ≤ s) (h2 : s ≤ 1000) (hg : mxT xs n = (g : Int)) (h3 : g ≤ 40 * s) : bkV xs (s : Int) = bkG xs s (g / s + 1) n := by
  unfold bkV
  rw [hn, hg, if_pos ⟨h, by omega, by omega⟩]; simp
theorem bkG_small (xs : List Int) (s m k : Nat) (hm : m ≤ 1000) (hk : k ≤ 1000) : SmallG m (bkG xs s m k) := ⟨hm, fun ys hy => by have := bkG_row xs s m k ys hy; omega⟩
theorem OwG.made (w : World) (m : Nat) (hm : m ≤ 1000) : OwG (w.alloc (.cells (madeCells #[.slice none 0 0] m) 22)) 22 3 [w.heap.size] (some ⟨w.heap.size, 0, none⟩) m m (List.replicate m ⟨[], none, 0, 0, []⟩) := by
  refine ⟨Ow.new' _ _ _ _ _ (size_madeCells _ _) (by rw [toList_madeCells_one, List.map_replicate]; rfl) (by unfold maxLen; omega), fun c hc => ?_, fun c hc => ?_, ?_⟩
  · obtain ⟨_, rfl⟩ := List.mem_replicate.1 hc
    exact Ow.bare _ _ _
  · obtain ⟨_, rfl⟩ := List.mem_replicate.1 hc
    intro _ _ h; cases h
  · rw [List.pairwise_iff_getElem]
    intro i j hi hj _ k hk
    simp at hk
theorem map_setXs {cs : List Cell} {l : List (List Int)} (h : cs.map (·.xs) = l) {j : Nat} {c c' : Cell} (hc : cs[j]? = some c) {x : Int} (hx : c'.xs = c.xs ++ [x]) : (cs.set j c').map (·.xs) = l.set j (l.getD j [] ++ [x]) := by
  subst h
  rw [List.map_set, hx]
  congr 2
  rw [List.getD, List.getElem?_map, hc]; rfl


set_option maxHeartbeats 2000000 in
theorem ci_BucketsOf (a : Option Addr) (n cap : Nat) (xs : List Int) (k : Int) (w : World) (hr : RdI w a n cap xs) :
    Calls Try.prog 10 #[.slice a n cap, .int .i64 k] w fun e w' => ∃ sa sn sc, e = .returned (.slice sa sn sc) ∧ Gr w' 22 3 w.heap.size sa sn sc (bkV xs k) ∧ SmallG sn (bkV xs k) ∧ Below w.heap.size w w' := by
  have HL := Lib.hid hr.lens
  cases hok : okTimesOk xs
  · have HV := Lib.hid (bkV_no (xs := xs) (k := k) (by rw [hok]; simp))
    go_enter Try.func10, Try.ntmps10
    go_wp2_with (go_at_call 27; refine (ci_TimesOk a n cap xs _ hr).mono ?_; rw [hok]; rintro e w1 ⟨rfl, hb⟩)
    go_ret
    exact ⟨_, _, _, rfl, by rw [HV.out]; exact ⟨[], [], OwG.bare _ _ _ _, rfl, fun _ h => by simp [fp] at h⟩, by rw [HV.out]; exact ⟨by omega, fun _ h => by cases h⟩, by assumption⟩
  have HOK := Lib.hid hok
  obtain ⟨hn, hbd⟩ := okTimesOk_at hok
  rw [HL.out] at hn hbd
  by_cases hk : 1 ≤ k ∧ k ≤ 1000
  case neg =>
    have HV := Lib.hid (bkV_no (xs := xs) (k := k) (fun h => hk h.2.1))
    have HK := Lib.hid hk
    by_cases hk1 : k < 1
    · have hd1 : decide (k < 1) = true := decide_eq_true hk1
      go_enter Try.func10, Try.ntmps10
      go_wp2_with (go_at_call 27; refine (ci_TimesOk a n cap xs _ hr).mono ?_; rw [hok]; rintro e w1 ⟨rfl, hb⟩)
      go_ret
      exact ⟨_, _, _, rfl, by rw [HV.out]; exact ⟨[], [], OwG.bare _ _ _ _, rfl, fun _ h => by simp [fp] at h⟩, by rw [HV.out]; exact ⟨by omega, fun _ h => by cases h⟩, by assumption⟩
    · have hd1 : decide (k < 1) = false := decide_eq_false hk1
      have hd2 : decide (1000 < k) = true := decide_eq_true (by have := HK.out; omega)
      clear hk
      go_enter Try.func10, Try.ntmps10
      go_wp2_with (go_at_call 27; refine (ci_TimesOk a n cap xs _ hr).mono ?_; rw [hok]; rintro e w1 ⟨rfl, hb⟩)
      go_ret
      exact ⟨_, _, _, rfl, by rw [HV.out]; exact ⟨[], [], OwG.bare _ _ _ _, rfl, fun _ h => by simp [fp] at h⟩, by rw [HV.out]; exact ⟨by omega, fun _ h => by cases h⟩, by assumption⟩
  obtain ⟨s, rfl⟩ : ∃ s : Nat, k = s := ⟨k.toNat, by omega⟩
  obtain ⟨hs1, hs2⟩ : 1 ≤ s ∧ s ≤ 1000 := by omega
  have hd1 : decide ((s : Int) < 1) = false := decide_eq_false (by omega)
  have hd2 : decide ((1000 : Int) < (s : Int)) = false := decide_eq_false (by omega)
  clear hk
  go_enter Try.func10, Try.ntmps10
  go_wp2_with fail
  refine (ci_TimesOk a n cap xs _ hr).mono ?_
  rw [hok]
  rintro e w1 ⟨rfl, hb0⟩
  clear hok
  go_wp2_with fail
  clear hd1 hd2
  go_loopw [5, 24] (fun v i wr => ∃ k : Nat, k ≤ n ∧ i = .int .i64 k ∧ v = .int .i64 (mxT xs k) ∧ Below w.heap.size w wr) (fun _ i _ => n - (intOf i).toNat)
  case atStart => exact ⟨0, by omega, rfl, rfl, hb0⟩
  case round =>
    clear hb0
    obtain ⟨k, hk, rfl, rfl, hb⟩ := hrel
    by_cases hlt : k < n
    · obtain ⟨b, off, rfl, _, hc⟩ := (hr.below hb).int (by omega)
      have c1 := hc k hlt
      clear hc
      go_wp2_with fail
      go_roundw
      case rel => exact ⟨k + 1, by omega, by go_num, rfl, hb⟩
      case measure => simp [intOf]; omega
    · obtain rfl : k = n := by omega
      have hmb := mxT_bd (xs := xs) (k := k) hbd
      obtain ⟨g, hg⟩ : ∃ g : Nat, mxT xs k = (g : Int) := ⟨(mxT xs k).toNat, by omega⟩
      have HG := Lib.hid hg
      rw [hg] at hmb ⊢
      clear hg
      by_cases h40 : g ≤ 40 * s
      case neg =>
        have HV := Lib.hid (bkV_no (xs := xs) (k := (s : Int)) (fun h => h40 (by have h3 := h.2.2; rw [HL.out, HG.out] at h3; omega)))
        go_wp2_with fail
        go_ret
        exact ⟨_, _, _, rfl, by rw [HV.out]; exact ⟨[], [], OwG.bare _ _ _ _, rfl, fun _ h => by simp [fp] at h⟩, by rw [HV.out]; exact ⟨by omega, fun _ h => by cases h⟩, by assumption⟩
      have HV := Lib.hid (bkV_yes HL.out HOK.out hs1 hs2 HG.out h40)
      obtain ⟨q, hq⟩ : ∃ q : Nat, q = g / s := ⟨_, rfl⟩
      have hq40 : q ≤ 40 := by rw [hq]; exact Nat.div_le_of_le_mul (by rw [Nat.mul_comm]; exact h40)
      have HQ := Lib.hid hq
      have hqd : Int.tdiv (g : Int) (s : Int) = (q : Int) := by rw [hq, ← Int.ofNat_tdiv]
      have hqd2 : (g : Int) / (s : Int) = (q : Int) := by rw [hq]; exact (Int.natCast_ediv g s).symm
      clear hq
      obtain ⟨m, hm⟩ : ∃ m : Nat, m = q + 1 := ⟨_, rfl⟩
      have hm1 : (q : Int) + 1 = (m : Int) := by omega
      have hmk := run_make_row' (P := Try.prog) 23 22 (.slice none 0 0) 24 Try.underlying23 infoSlB rfl .i64 .i64 m (by omega) (by omega)
      have HV2 := Lib.hid (show bkV xs (s : Int) = bkG xs s m k by rw [HV.out, ← HQ.out, hm])
      have hmq := Lib.hid hm
      clear hm
      go_wp2_with fail
      clear hqd hqd2
      obtain ⟨wz, rfl⟩ : ∃ wz : World, wz = wr := ⟨_, rfl⟩
      have hown := OwG.made wz m (by have := hmq.out; omega)
      have hby : Below wz.heap.size wz (wz.alloc (.cells (madeCells #[.slice none 0 0] m) 22)) := (Below.refl _ _).alloc (Nat.le_refl _) _
      go_loopw [43] (fun i wr => ∃ j : Nat, ∃ cs, j ≤ k ∧ i = .int .i64 j ∧ OwG wr 22 3 [wz.heap.size] (some ⟨wz.heap.size, 0, none⟩) m m cs ∧ cs.map (·.xs) = bkG xs s m j ∧ New wz.heap.size (fp [wz.heap.size] cs) ∧ Below wz.heap.size wz wr) (fun i _ => k - (intOf i).toNat)
      case atStart => exact ⟨0, _, by omega, rfl, hown, by simp [bkG], (fun i hi => by
        rcases mem_fp.1 hi with h | ⟨c, hc, h⟩
        · simp at h; omega
        · obtain ⟨_, rfl⟩ := List.mem_replicate.1 hc
          cases h), hby⟩
      case round =>
        clear hown hby
        obtain ⟨j, cs, hj, rfl, og, hex, hnew, hbj⟩ := hrel
        have HEX := Lib.hid hex
        clear hex
        have hszj := hbj.size
        by_cases hjk : j < k
        · obtain ⟨b, off, rfl, _, hc⟩ := ((hr.below hb).below hbj).int (by omega)
          have c1 := hc j hjk
          have hge := mxT_ge (xs := xs) hjk
          have hbdj := hbd j hjk
          rw [HG.out] at hge
          obtain ⟨t, ht⟩ : ∃ t : Nat, nth xs j = (t : Int) := ⟨(nth xs j).toNat, by omega⟩
          obtain ⟨p, hp⟩ : ∃ p : Nat, p = t / s := ⟨_, rfl⟩
          have hpm : p < m := by
            have h1 : t / s ≤ g / s := Nat.div_le_div_right (by omega)
            have h2 := hmq.out
            have h3 := HQ.out
            omega
          have hpd : Int.tdiv (t : Int) (s : Int) = (p : Int) := by rw [hp, ← Int.ofNat_tdiv]
          have hpd2 : (t : Int) / (s : Int) = (p : Int) := by rw [hp]; exact (Int.natCast_ediv t s).symm
          have HBK := Lib.hid (show bkG xs s m (j + 1) = (bkG xs s m j).set p ((bkG xs s m j).getD p [] ++ [(j : Int)]) by rw [bkG, ht, Int.toNat_natCast, hp])
          rw [ht] at c1 hge
          clear hc ht hp hbdj
          obtain ⟨g2, e1, _, hgl, hgc, hgf⟩ := og.addr (by omega)
          obtain rfl : wz.heap.size = g2 := by simpa using e1
          obtain ⟨⟨cL, ca, cn, cc, cx⟩, hcj⟩ : ∃ c, cs[p]? = some c := ⟨_, List.getElem?_eq_getElem (by rw [og.len]; exact hpm)⟩
          have hcc := hgc _ _ hcj
          have hic := og.cells _ (List.mem_of_getElem? hcj)
          have hcn : cn ≤ 30 := by
            have h1 : cx.length = cn := hic.lens
            have h2 := bkG_row xs s m j cx (by rw [← HEX.out]; exact List.mem_map.2 ⟨_, List.mem_of_getElem? hcj, rfl⟩)
            omega
          have HCJ := Lib.hid hcj
          have hs0 : ((s : Int) == 0) = false := by simp; omega
          have hs00 : ¬ s = 0 := by omega
          have hwp : IntKind.i64.wrap (p : Int) = (p : Int) := by rw [IntKind.wrap_i64]; omega
          have hb8 : (cn + 1) * 8 ≤ 140737488355328 := by omega
          have hb9 : cn + 1 ≤ maxLen := by unfold maxLen; omega
          have hpm2 : (p : Int) < (m : Int) := by omega
          clear hcj hgc e1
          go_wp2_with fail
          go_region_law (refine step_appG rfl (.tmp 57) (.tmp 59) 22 rfl 3 Try.underlying22 infoInt rfl (by simp [Act.eval, Act.put]) (by simp [Act.eval, Act.put]) (xa := some ⟨wr.heap.size, 0, none⟩) (m := 1) (xcap := 1) (hic.alloc _).drew (Rd.one _ _ _).drew (one_int (j : Int)) hb8 hb9 ?_; intro a2 cap2 L2 w2 hc2 ow2 kp2 st2; obtain ⟨hc3, hf3, og3, nw3, bl3⟩ := (og.drew).appAt hnew (hbj.trans (below_drewN (Below.refl _ _) 1)) hszj HCJ.out ow2 kp2 st2)
          all_goals go_wp2_with fail
          all_goals
            go_roundw
            case rel => exact ⟨j + 1, _, by omega, by go_num, og3, by rw [HBK.out]; exact map_setXs HEX.out HCJ.out rfl, nw3, bl3⟩
            case measure => simp [intOf]; omega
        · obtain rfl : j = k := by omega
          go_wp2_with fail
          go_ret
          exact ⟨_, m, m, rfl, by rw [HV2.out]; exact ⟨_, cs, og, HEX.out, hnew.mono hb.size⟩, by rw [HV2.out]; exact bkG_small _ _ _ _ (by have := hmq.out; omega) (by omega), Below.nx hb hbj⟩



set_option maxHeartbeats 2000000 in
theorem cs_BucketsOf (a : Option Addr) (n cap : Nat) (xs : List Int) (k : Int) (w : World) (hr : RdI w a n cap xs) :
    Calls Try.prog 8 #[.slice a n cap, .int .i64 k] w fun e w' => ∃ sa sn sc, e = .returned (.slice sa sn sc) ∧ RdG w' sa sn sc (bkV xs k) ∧ SmallG sn (bkV xs k) ∧ Below w.heap.size w w' := by
  have HL := Lib.hid hr.lens
  cases hok : okTimesOk xs
  · have HV := Lib.hid (bkV_no (xs := xs) (k := k) (by rw [hok]; simp))
    go_enter Try.func8, Try.ntmps8
    go_wp2_with (go_at_call 25; refine (cs_TimesOk a n cap xs _ hr).mono ?_; rw [hok]; rintro e w1 ⟨rfl, hb⟩)
    go_ret
    exact ⟨_, _, _, rfl, by rw [HV.out]; exact RdG.nil _ _ _ (by unfold maxLen; omega), by rw [HV.out]; exact ⟨by omega, fun _ h => by cases h⟩, by assumption⟩
  have HOK := Lib.hid hok
  obtain ⟨hn, hbd⟩ := okTimesOk_at hok
  rw [HL.out] at hn hbd
  by_cases hk : 1 ≤ k ∧ k ≤ 1000
  case neg =>
    have HV := Lib.hid (bkV_no (xs := xs) (k := k) (fun h => hk h.2.1))
    have HK := Lib.hid hk
    clear hk
    go_enter Try.func8, Try.ntmps8
    go_wp2_with (first | (go_at_call 25; refine (cs_TimesOk a n cap xs _ hr).mono ?_; rw [hok]; rintro e w1 ⟨rfl, hb⟩) | (go_at_call 26; refine (c_l01In false _ _ _ _ (decide_eq_false HK.out)).mono ?_; rintro e w2 ⟨rfl, rfl⟩))
    go_ret
    exact ⟨_, _, _, rfl, by rw [HV.out]; exact RdG.nil _ _ _ (by unfold maxLen; omega), by rw [HV.out]; exact ⟨by omega, fun _ h => by cases h⟩, by assumption⟩
  obtain ⟨s, rfl⟩ : ∃ s : Nat, k = s := ⟨k.toNat, by omega⟩
  obtain ⟨hs1, hs2⟩ : 1 ≤ s ∧ s ≤ 1000 := by omega
  have HK := Lib.hid hk
  clear hk
  go_enter Try.func8, Try.ntmps8
  go_wp2_with fail
  refine (cs_TimesOk a n cap xs _ hr).mono ?_
  rw [hok]
  rintro e w1 ⟨rfl, hb0⟩
  clear hok
  go_wp2_with (go_at_call 26; refine (c_l01In true _ _ _ _ (decide_eq_true HK.out)).mono ?_; rintro e w2 ⟨rfl, rfl⟩)
  go_loopw [5, 21] (fun v i wr => ∃ k : Nat, k ≤ n ∧ i = .int .i64 k ∧ v = .int .i64 (mxT xs k) ∧ Below w.heap.size w wr) (fun _ i _ => n - (intOf i).toNat)
  case atStart => exact ⟨0, by omega, rfl, rfl, hb0⟩
  case round =>
    clear hb0
    obtain ⟨k, hk, rfl, rfl, hb⟩ := hrel
    by_cases hlt : k < n
    · obtain ⟨b, off, rfl, _, hc⟩ := (hr.below hb).int (by omega)
      have c1 := hc k hlt
      clear hc
      go_wp2_with fail
      go_roundw
      case rel => exact ⟨k + 1, by omega, by go_num, rfl, hb⟩
      case measure => simp [intOf]; omega
    · obtain rfl : k = n := by omega
      have hmb := mxT_bd (xs := xs) (k := k) hbd
      obtain ⟨g, hg⟩ : ∃ g : Nat, mxT xs k = (g : Int) := ⟨(mxT xs k).toNat, by omega⟩
      have HG := Lib.hid hg
      rw [hg] at hmb ⊢
      clear hg
      by_cases h40 : g ≤ 40 * s
      case neg =>
        have HV := Lib.hid (bkV_no (xs := xs) (k := (s : Int)) (fun h => h40 (by have h3 := h.2.2; rw [HL.out, HG.out] at h3; omega)))
        go_wp2_with fail
        go_ret
        exact ⟨_, _, _, rfl, by rw [HV.out]; exact RdG.nil _ _ _ (by unfold maxLen; omega), by rw [HV.out]; exact ⟨by omega, fun _ h => by cases h⟩, by assumption⟩
      have HV := Lib.hid (bkV_yes HL.out HOK.out hs1 hs2 HG.out h40)
      obtain ⟨q, hq⟩ : ∃ q : Nat, q = g / s := ⟨_, rfl⟩
      have hq40 : q ≤ 40 := by rw [hq]; exact Nat.div_le_of_le_mul (by rw [Nat.mul_comm]; exact h40)
      have HQ := Lib.hid hq
      have hqd : Int.tdiv (g : Int) (s : Int) = (q : Int) := by rw [hq, ← Int.ofNat_tdiv]
      have hqd2 : (g : Int) / (s : Int) = (q : Int) := by rw [hq]; exact (Int.natCast_ediv g s).symm
      clear hq
      obtain ⟨m, hm⟩ : ∃ m : Nat, m = q + 1 := ⟨_, rfl⟩
      have hm1 : (q : Int) + 1 = (m : Int) := by omega
      have hmk := run_make_row' (P := Try.prog) 23 22 (.slice none 0 0) 24 Try.underlying23 infoSlB rfl .i64 .i64 m (by omega) (by omega)
      have HV2 := Lib.hid (show bkV xs (s : Int) = bkG xs s m k by rw [HV.out, ← HQ.out, hm])
      have hmq := Lib.hid hm
      clear hm
      go_wp2_with fail
      clear hqd hqd2
      obtain ⟨wz, rfl⟩ : ∃ wz : World, wz = wr := ⟨_, rfl⟩
      have hown := OwG.made wz m (by have := hmq.out; omega)
      have hby : Below wz.heap.size wz (wz.alloc (.cells (madeCells #[.slice none 0 0] m) 22)) := (Below.refl _ _).alloc (Nat.le_refl _) _
      go_loopw [40] (fun i wr => ∃ j : Nat, ∃ cs, j ≤ k ∧ i = .int .i64 j ∧ OwG wr 22 3 [wz.heap.size] (some ⟨wz.heap.size, 0, none⟩) m m cs ∧ cs.map (·.xs) = bkG xs s m j ∧ New wz.heap.size (fp [wz.heap.size] cs) ∧ Below wz.heap.size wz wr) (fun i _ => k - (intOf i).toNat)
      case atStart => exact ⟨0, _, by omega, rfl, hown, by simp [bkG], (fun i hi => by
        rcases mem_fp.1 hi with h | ⟨c, hc, h⟩
        · simp at h; omega
        · obtain ⟨_, rfl⟩ := List.mem_replicate.1 hc
          cases h), hby⟩
      case round =>
        clear hown hby
        obtain ⟨j, cs, hj, rfl, og, hex, hnew, hbj⟩ := hrel
        have HEX := Lib.hid hex
        clear hex
        have hszj := hbj.size
        by_cases hjk : j < k
        · obtain ⟨b, off, rfl, _, hc⟩ := ((hr.below hb).below hbj).int (by omega)
          have c1 := hc j hjk
          have hge := mxT_ge (xs := xs) hjk
          have hbdj := hbd j hjk
          rw [HG.out] at hge
          obtain ⟨t, ht⟩ : ∃ t : Nat, nth xs j = (t : Int) := ⟨(nth xs j).toNat, by omega⟩
          obtain ⟨p, hp⟩ : ∃ p : Nat, p = t / s := ⟨_, rfl⟩
          have hpm : p < m := by
            have h1 : t / s ≤ g / s := Nat.div_le_div_right (by omega)
            have h2 := hmq.out
            have h3 := HQ.out
            omega
          have hpd : Int.tdiv (t : Int) (s : Int) = (p : Int) := by rw [hp, ← Int.ofNat_tdiv]
          have hpd2 : (t : Int) / (s : Int) = (p : Int) := by rw [hp]; exact (Int.natCast_ediv t s).symm
          have HBK := Lib.hid (show bkG xs s m (j + 1) = (bkG xs s m j).set p ((bkG xs s m j).getD p [] ++ [(j : Int)]) by rw [bkG, ht, Int.toNat_natCast, hp])
          rw [ht] at c1 hge
          clear hc ht hp hbdj
          obtain ⟨g2, e1, _, hgl, hgc, hgf⟩ := og.addr (by omega)
          obtain rfl : wz.heap.size = g2 := by simpa using e1
          obtain ⟨⟨cL, ca, cn, cc, cx⟩, hcj⟩ : ∃ c, cs[p]? = some c := ⟨_, List.getElem?_eq_getElem (by rw [og.len]; exact hpm)⟩
          have hcc := hgc _ _ hcj
          have hic := og.cells _ (List.mem_of_getElem? hcj)
          have hcn : cn ≤ 30 := by
            have h1 : cx.length = cn := hic.lens
            have h2 := bkG_row xs s m j cx (by rw [← HEX.out]; exact List.mem_map.2 ⟨_, List.mem_of_getElem? hcj, rfl⟩)
            omega
          have HCJ := Lib.hid hcj
          have hs0 : ((s : Int) == 0) = false := by simp; omega
          have hs00 : ¬ s = 0 := by omega
          have hwp : IntKind.i64.wrap (p : Int) = (p : Int) := by rw [IntKind.wrap_i64]; omega
          have hb8 : (cn + 1) * 8 ≤ 140737488355328 := by omega
          have hb9 : cn + 1 ≤ maxLen := by unfold maxLen; omega
          have hpm2 : (p : Int) < (m : Int) := by omega
          clear hcj hgc e1
          go_wp2_with fail
          go_region_law (refine step_appG rfl (.tmp 54) (.tmp 56) 22 rfl 3 Try.underlying22 infoInt rfl (by simp [Act.eval, Act.put]) (by simp [Act.eval, Act.put]) (xa := some ⟨wr.heap.size, 0, none⟩) (m := 1) (xcap := 1) (hic.alloc _).drew (Rd.one _ _ _).drew (one_int (j : Int)) hb8 hb9 ?_; intro a2 cap2 L2 w2 hc2 ow2 kp2 st2; obtain ⟨hc3, hf3, og3, nw3, bl3⟩ := (og.drew).appAt hnew (hbj.trans (below_drewN (Below.refl _ _) 1)) hszj HCJ.out ow2 kp2 st2)
          all_goals go_wp2_with fail
          all_goals
            go_roundw
            case rel => exact ⟨j + 1, _, by omega, by go_num, og3, by rw [HBK.out]; exact map_setXs HEX.out HCJ.out rfl, nw3, bl3⟩
            case measure => simp [intOf]; omega
        · obtain rfl : j = k := by omega
          go_wp2_with fail
          go_ret
          exact ⟨_, m, m, rfl, by rw [HV2.out, ← HEX.out]; exact og.rd, by rw [HV2.out]; exact bkG_small _ _ _ _ (by have := hmq.out; omega) (by omega), Below.nx hb hbj⟩


end Go.Proofs.Ythlmopndmaemnaa

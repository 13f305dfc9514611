/- Merging the runs of a list two by two: the program's and the reference's. No condition but lengths. -/
import Derived.Test.YtaffokicnabkiaaMerge
import Derived.Test.YtaffokicnabkiaaRis
import Derived.Test.YtaffokicnabkiaaSplit
import Derived.Test.YtaffokicnabkiaaFlip
import Derived.Deep.RegionLaw
namespace Go.Proofs.Ytaffokicnabkiaa
open Go.RowKit
set_option linter.unusedVariables false
set_option linter.unusedSimpArgs false

theorem OwG.drewM {w : World} {T Ti : TypeId} {L : List Nat} {a : Option Addr} {n cap : Nat} {cs : List Cell} (h : OwG w T Ti L a n cap cs) : OwG w.drew T Ti L a n cap cs := h.keep (Keeps.drew [] w) (fun _ _ h => by cases h)
theorem New.pushM {B : Nat} {w : World} {L L' : List Nat} {cs : List Cell} {c : Cell} (h : New B (fp L cs)) (hc : New B c.L) (s : Step w L L') (hB : B ≤ w.heap.size) : New B (fp L' (cs ++ [c])) := fun i hi => by
  rcases mem_fp.1 hi with h1 | ⟨d, hd, h1⟩
  · rcases s i h1 with h2 | h2
    · exact h i (mem_fp.2 (.inl h2))
    · omega
  · rcases List.mem_append.1 hd with h2 | h2
    · exact h i (mem_fp.2 (.inr ⟨d, h2, h1⟩))
    · simp at h2; subst h2; exact hc i h1
theorem addL_new (l : List (List Int)) (x : Int) : addL (l ++ [[]]) x = l ++ [[x]] := by
  unfold addL
  have e : (l ++ [[]]).length - 1 = l.length := by simp
  rw [e]
  have e2 : (l ++ [([] : List Int)]).getD l.length [] = [] := by simp [List.getD]
  rw [e2, List.set_append_right _ _ (Nat.le_refl _)]
  simp
theorem risL_ne (xs : List Int) (k : Nat) : ∀ r ∈ risL xs k, 0 < r.length := by
  induction k with
  | zero => intro r h; simp [risL] at h
  | succ k ih =>
    intro r hr
    by_cases h : starts xs k
    · rw [risL_hit h, addL_new] at hr
      rcases List.mem_append.1 hr with h1 | h1
      · exact ih r h1
      · simp at h1; subst h1; simp
    · rw [risL_miss h] at hr
      rcases mem_addL hr with h1 | h1
      · exact ih r h1
      · subst h1; simp
theorem mgS_ne : ∀ l : List (List Int), (∀ r ∈ l, 0 < r.length) → ∀ r ∈ mgS l, 0 < r.length
  | [], h => by intro r hr; simp [mgS] at hr
  | [x], h => by intro r hr; simp [mgS] at hr; exact h r (by simp [hr])
  | x :: y :: s, h => by
    intro r hr
    simp only [mgS, List.mem_cons] at hr
    rcases hr with rfl | hr
    · rw [srt_len, List.length_append]; have := h x (by simp); omega
    · exact mgS_ne s (fun q hq => h q (by simp [hq])) r hr
theorem take_two {rs : List (List Int)} {j : Nat} (h : j + 1 < rs.length) : rs.take (j + 2) = rs.take j ++ [rs.getD j [], rs.getD (j + 1) []] := by
  have h1 := List.take_add_one (l := rs) (i := j)
  have h2 := List.take_add_one (l := rs) (i := j + 1)
  rw [List.getElem?_eq_getElem (show j < rs.length by omega)] at h1
  rw [List.getElem?_eq_getElem h] at h2
  have e1 : rs.getD j [] = rs[j] := by rw [List.getD, List.getElem?_eq_getElem (show j < rs.length by omega)]; rfl
  have e2 : rs.getD (j + 1) [] = rs[j + 1] := by rw [List.getD, List.getElem?_eq_getElem h]; rfl
  rw [e1, e2]
  refine h2.trans ?_
  rw [h1, List.append_assoc]; rfl
theorem take_odd {rs : List (List Int)} {j : Nat} (h : j + 1 = rs.length) : rs.take (j + 2) = rs.take j ++ [rs.getD j []] := by
  rw [List.take_of_length_le (by omega)]
  have h1 := List.take_add_one (l := rs) (i := j)
  rw [List.take_of_length_le (by omega), List.getElem?_eq_getElem (show j < rs.length by omega)] at h1
  rw [List.getD, List.getElem?_eq_getElem (show j < rs.length by omega)]
  exact h1
theorem getD_row {rs : List (List Int)} {j : Nat} (h : j < rs.length) : rs.getD j [] ∈ rs := by
  rw [List.getD, List.getElem?_eq_getElem h]; exact List.getElem_mem h


set_option maxHeartbeats 2000000 in
theorem ci_MergeRuns (a : Option Addr) (n cap : Nat) (xs : List Int) (w : World) (hr : RdI w a n cap xs) :
    Calls Try.prog 19 #[.slice a n cap] w fun e w' => ∃ sa sn sc, e = .returned (.tuple #[.slice sa sn sc, .int .i64 (mrN xs)]) ∧ OwI w' 3 w.heap.size sa sn sc (mrV xs) ∧ sn ≤ 1048576 ∧ Below w.heap.size w w' := by
  have HL := Lib.hid hr.lens
  by_cases h16 : n ≤ 16
  case neg =>
    have HV := Lib.hid (show mrV xs = [] ∧ mrN xs = -1 by unfold mrV mrN; rw [HL.out, if_neg h16, if_neg h16]; exact ⟨rfl, rfl⟩)
    go_enter Try.func19, Try.ntmps19
    go_wp2
    go_ret2
    exact ⟨_, _, _, by rw [HV.out.2]; rfl, by rw [HV.out.1]; exact ⟨[], Ow.bare _ _ _, fun _ h => by cases h⟩, by omega, Below.refl _ _⟩
  have hN := finM_le 16 (risL xs n)
  have HV := Lib.hid (show (finM 16 (risL xs n)).1 = mrV xs by unfold mrV; rw [HL.out, if_pos h16])
  have HN := Lib.hid (show (((finM 16 (risL xs n)).2 : Nat) : Int) = mrN xs by unfold mrN; rw [HL.out, if_pos h16])
  go_enter Try.func19, Try.ntmps19
  go_wp2_with fail
  refine (c_rising a n cap xs _ hr h16).mono ?_
  rintro e w1 ⟨ra, rn, rc, rfl, ⟨L0, cs0, og0, hex0, hnew0⟩, hb0⟩
  have hrd0 : RdG w1 ra rn rc (risL xs n) := by rw [← hex0]; exact og0.rd
  have HTOT := Lib.hid (risL_total xs n)
  have HNE := Lib.hid (risL_ne xs n)
  have HLEN := Lib.hid (show (risL xs n).length ≤ 17 by rw [risL_len]; have := runsTo_le xs n; omega)
  clear og0 hex0 hnew0
  obtain ⟨R, hR⟩ : ∃ R, R = risL xs n := ⟨_, rfl⟩
  rw [← hR] at HTOT HNE HLEN hrd0 HV HN hN
  clear hR
  obtain ⟨N, hNN⟩ : ∃ N, (finM 16 R).2 = N := ⟨_, rfl⟩
  obtain ⟨V, hVV⟩ : ∃ V, (finM 16 R).1 = V := ⟨_, rfl⟩
  rw [hNN] at HN hN
  rw [hVV] at HV
  have HNN := Lib.hid hNN
  have HVV := Lib.hid hVV
  clear hNN hVV
  go_wp2_with fail
  go_loopw [4, 5] (fun l i wr => ∃ f k : Nat, ∃ rs ra rn rc, rs.length ≤ f + 1 ∧ (finM f rs).1 = V ∧ (finM f rs).2 + k = N ∧ rs.flatten.length = n ∧ (∀ r ∈ rs, 0 < r.length) ∧ rs.length ≤ 17 ∧ i = .int .i64 k ∧ l = .slice ra rn rc ∧ RdG wr ra rn rc rs ∧ Below w.heap.size w wr) (fun l _ _ => match l with | .slice _ m _ => m | _ => 0)
  case atStart => exact ⟨16, 0, R, ra, rn, rc, HLEN.out, HVV.out, HNN.out, HTOT.out, HNE.out, HLEN.out, rfl, rfl, hrd0, hb0⟩
  case round =>
    clear hrd0 hb0
    obtain ⟨f, k, rs, ra, rn, rc, hf, hv, hnk, htot, hne, hl17, rfl, rfl, hrd, hb⟩ := hrel
    have hlen := hrd.len
    have HF := Lib.hid hf
    have HV1 := Lib.hid hv
    have HN1 := Lib.hid hnk
    have HT1 := Lib.hid htot
    have HNE1 := Lib.hid hne
    have hk16 : k ≤ 16 := by omega
    have hrn17 : rn ≤ 17 := by omega
    have HLN := Lib.hid hlen
    clear hf hv hnk htot hne hl17 hlen
    by_cases h1 : rn ≤ 1
    · have HS := Lib.hid (finM_stop (f := f) (rs := rs) (by rw [HLN.out]; exact h1))
      have hd : decide ((1 : Int) < (rn : Int)) = false := decide_eq_false (by omega)
      have HVF := Lib.hid (show rs.flatten = mrV xs by rw [← HV.out, ← HV1.out, HS.out])
      have HNF := Lib.hid (show (k : Int) = mrN xs by rw [← HN.out, ← HN1.out, HS.out]; simp)
      go_wp2_with fail
      refine (c_Concat ra rn rc n rs _ hrd (by omega) HT1.out (by omega)).mono ?_
      rintro e w3 ⟨oa, oc, rfl, ho, hb3⟩
      go_wp2_with fail
      go_ret2
      exact ⟨oa, n, oc, by rw [← HNF.out]; rfl, by rw [← HVF.out]; exact ho.mono hb.size, by omega, Below.nx hb hb3⟩
    · obtain ⟨f', rfl⟩ : ∃ f', f = f' + 1 := ⟨f - 1, by have := HF.out; have := HLN.out; omega⟩
      have HG := Lib.hid (finM_go (f := f') (rs := rs) (by rw [HLN.out]; exact h1))
      have hd : decide ((1 : Int) < (rn : Int)) = true := decide_eq_true (by omega)
      go_wp2_with fail
      obtain ⟨wq, rfl⟩ : ∃ wq : World, wq = wr := ⟨_, rfl⟩
      go_loopw [6, 7] (fun l i wr => ∃ j : Nat, ∃ L cs la m lc, j % 2 = 0 ∧ j ≤ rn + 1 ∧ i = .int .i64 j ∧ l = .slice la m lc ∧ OwG wr 22 3 L la m lc cs ∧ cs.map (·.xs) = mgS (rs.take j) ∧ New wq.heap.size (fp L cs) ∧ Below wq.heap.size wq wr) (fun _ i _ => rn + 2 - (intOf i).toNat)
      case atStart => exact ⟨0, [], [], _, _, _, rfl, by omega, rfl, rfl, OwG.bare _ _ _ _, by simp [mgS], (fun i hi => by simp [fp] at hi), (Below.refl _ _).alloc (Nat.le_refl _) _⟩
      case round =>
        obtain ⟨j, L, cs, la, m, lc, hj2, hj, rfl, rfl, og, hex, hnew, hbq⟩ := hrel
        have hm : m ≤ 20 := by
          have h := congrArg List.length hex
          rw [List.length_map, og.len, mgS_len, List.length_take] at h
          omega
        have HEX := Lib.hid hex
        clear hex
        have hszq := hbq.size
        by_cases hjr : j < rn
        · obtain ⟨b, off, r1a, r1n, r1c, rfl, hbl, hcell0, hrow1⟩ := hrd.at' hjr
          have hcell := (hbq.cell (p := ⟨b, off + j, none⟩) hbl).trans hcell0
          have hrow1' := hrow1.below hbq
          have hr1n : r1n ≤ 16 := by
            have h1 := row_le_flatten (getD_row (rs := rs) (j := j) (by rw [HLN.out]; exact hjr))
            rw [HT1.out, hrow1.lens] at h1; omega
          have hr1p : 0 < r1n := by
            have h1 := HNE1.out _ (getD_row (rs := rs) (j := j) (by rw [HLN.out]; exact hjr))
            rwa [hrow1.lens] at h1
          by_cases hj1 : j + 1 < rn
          · obtain ⟨b', off', r2a, r2n, r2c, e2, _, hcell2, hrow2⟩ := hrd.at' hj1
            simp only [Option.some.injEq, Addr.mk.injEq, and_true] at e2
            obtain ⟨rfl, rfl⟩ := e2
            have hcell3 := (hbq.cell (p := ⟨b, off + (j + 1), none⟩) hbl).trans hcell2
            have hr2n : r2n ≤ 16 := by
              have h1 := row_le_flatten (getD_row (rs := rs) (j := j + 1) (by rw [HLN.out]; exact hj1))
              rw [HT1.out, hrow2.lens] at h1; omega
            have HM := Lib.hid (show mgS (rs.take (j + 2)) = mgS (rs.take j) ++ [srt (rs.getD j [] ++ rs.getD (j + 1) [])] by
              rw [take_two (by rw [HLN.out]; exact hj1), mgS_two _ _ _ (by rw [List.length_take, HLN.out, Nat.min_eq_left (by omega)]; exact hj2)])
            clear hcell0 hcell2
            have hlt1 : (j : Int) + 1 < (rn : Int) := by omega
            go_wp2_with (first | (go_at_call 39; refine (c_Clone r1a r1n r1c _ _ hrow1' (by omega)).mono ?_; rintro e w4 ⟨ca, cc, rfl, ⟨M1, ho1, hn1⟩, hb1⟩; have og3 := og.below hb1; have hrow2' := (hrow2.below hbq).below hb1; have hcell4 := (hb1.cell (p := ⟨b, off + (j + 1), none⟩) (Nat.lt_of_lt_of_le hbl hszq)).trans hcell3) | ((with_reducible show wpList _ _ _ (⟨some 40, _, _, _, _, _⟩ :: _) _ _); refine wpList_app _ rfl _ _ 22 rfl 3 Try.underlying22 infoInt rfl rfl rfl ho1 hrow2' (one_ints _) (by omega) (by unfold maxLen; omega) ?_; intro a5 cap5 M5 w5 ow5 kp5 st5; rw [ints_append] at ow5; have og4 := og3.keep kp5 (fun i hi hm => by have h1 := og.old i hi; have h2 := hn1 i hm; omega); have n5 : New wr.heap.size M5 := st5.new hn1 hb1.size; obtain ⟨g5, _, rfl, hg5l, _⟩ := ow5.at' (by have := ow5.le; omega)) | (go_at_call 40; refine (c_Sort (some ⟨g5, 0, none⟩) (r1n + r2n) cap5 M5 _ _ ow5 ⟨g5, 0, rfl, hg5l⟩ (by omega)).mono ?_; rintro e w6 ⟨rfl, ow6, k6⟩; have og6 := (og4.keep k6 (fun i hi hm => by have h1 := og.old i hi; have h2 := n5 i hm; omega)).alloc (.cells #[.slice (some ⟨g5, 0, none⟩) (r1n + r2n) cap5] 22)) | ((with_reducible show wpList _ _ _ (⟨some 46, _, _, _, _, _⟩ :: _) _ _); refine wpList_app _ rfl _ _ 32 rfl 22 Try.underlying32 infoSl rfl rfl rfl og6.row (Rd.one _ _ _) (one_slice _ _ _) (by omega) (by unfold maxLen; omega) ?_; intro a7 cap7 L7 w7 ow7 kp7 st7))
            have hs1 := hb1.size
            have hs5 := kp5.size
            have hs6 := k6.size
            have og7 := og6.push (c := ⟨M5, some ⟨g5, 0, none⟩, r1n + r2n, cap5, srt (rs.getD j [] ++ rs.getD (j + 1) [])⟩) (ow6.alloc _) (fun i hi hm => by have h1 := og.old i hi; have h2 := n5 i hm; omega) ow7 kp7 st7
            have n7 : New wq.heap.size (fp L7 (cs ++ [⟨M5, some ⟨g5, 0, none⟩, r1n + r2n, cap5, srt (rs.getD j [] ++ rs.getD (j + 1) [])⟩])) := hnew.pushM (n5.mono hszq) st7 (by simp; omega)
            have b4 := Below.nx hbq hb1
            have b5 : Below wq.heap.size wq w5 := kp5.below b4 (hn1.mono hszq) b4.size
            have b6 : Below wq.heap.size wq w6 := k6.below b5 (n5.mono hszq) b5.size
            have b7 : Below wq.heap.size wq w7 := kp7.below (b6.alloc b6.size _) (fun i hi => hnew i (mem_fp.2 (.inl hi))) (by simp; omega)
            go_roundw
            case rel => exact ⟨j + 2, L7, _, a7, _, cap7, by omega, by omega, by go_num, rfl, og7, by rw [HM.out, List.map_append, HEX.out]; rfl, n7, b7⟩
            case measure => simp [intOf]; omega
          · have HM := Lib.hid (show mgS (rs.take (j + 2)) = mgS (rs.take j) ++ [rs.getD j []] by
              rw [take_odd (by rw [HLN.out]; omega), mgS_one _ _ (by rw [List.length_take, HLN.out, Nat.min_eq_left (by omega)]; exact hj2)])
            clear hcell0
            have hlt1 : ¬ (j : Int) + 1 < (rn : Int) := by omega
            go_wp2_with (first | (go_at_call 39; refine (c_Clone r1a r1n r1c _ _ hrow1' (by omega)).mono ?_; rintro e w4 ⟨ca, cc, rfl, ⟨M1, ho1, hn1⟩, hb1⟩; have og3 := (og.below hb1).alloc (.cells #[.slice ca r1n cc] 22)) | ((with_reducible show wpList _ _ _ (⟨some 46, _, _, _, _, _⟩ :: _) _ _); refine wpList_app _ rfl _ _ 32 rfl 22 Try.underlying32 infoSl rfl rfl rfl og3.row (Rd.one _ _ _) (one_slice _ _ _) (by omega) (by unfold maxLen; omega) ?_; intro a7 cap7 L7 w7 ow7 kp7 st7))
            have hs1 := hb1.size
            have og7 := og3.push (c := ⟨M1, ca, r1n, cc, rs.getD j []⟩) (ho1.alloc _) (fun i hi hm => by have h1 := og.old i hi; have h2 := hn1 i hm; omega) ow7 kp7 st7
            have n7 : New wq.heap.size (fp L7 (cs ++ [⟨M1, ca, r1n, cc, rs.getD j []⟩])) := hnew.pushM (hn1.mono hszq) st7 (by simp; omega)
            have b4 := Below.nx hbq hb1
            have b7 : Below wq.heap.size wq w7 := kp7.below (b4.alloc b4.size _) (fun i hi => hnew i (mem_fp.2 (.inl hi))) (by simp; omega)
            go_roundw
            case rel => exact ⟨j + 2, L7, _, a7, _, cap7, by omega, by omega, by go_num, rfl, og7, by rw [HM.out, List.map_append, HEX.out]; rfl, n7, b7⟩
            case measure => simp [intOf]; omega
        · have HA := Lib.hid (show rs.take j = rs by rw [List.take_of_length_le (by rw [HLN.out]; omega)])
          have hmm : m < rn := by
            have h := congrArg List.length HEX.out
            rw [List.length_map, og.len, mgS_len, HA.out, HLN.out] at h
            omega
          go_wp2_with fail
          go_roundw
          case rel => exact ⟨f', k + 1, mgS rs, la, m, lc, by rw [mgS_len]; have := HF.out; omega, by rw [← HV1.out, HG.out], by rw [← HN1.out, HG.out]; simp; omega, by rw [(mgS_perm rs).length_eq]; exact HT1.out, mgS_ne rs HNE1.out, by rw [mgS_len, HLN.out]; omega, by go_num, rfl, by rw [← HA.out, ← HEX.out]; exact og.rd, Below.nx hb hbq⟩
          case measure => simp; omega


theorem mgS_pos {l : List (List Int)} (h : 0 < l.length) : 0 < (mgS l).length := by rw [mgS_len]; omega













































































































































































end Go.Proofs.Ytaffokicnabkiaa

/- Runs that a store writes: the program (printed by rep.py). No condition but lengths. -/
import Derived.Test.YtaffokicnabkiaaDelI
import Derived.Test.YtaffokicnabkiaaMergeR
import Derived.Deep.RegionLaw
import Derived.Deep.Cut
import Derived.Deep.CutRange
namespace Go.Proofs.Ytaffokicnabkiaa
open Go.RowKit
set_option linter.unusedVariables false
set_option linter.unusedSimpArgs false

theorem Rd.keepR {w w' : World} {a : Option Addr} {m cap B : Nat} {vs : List Value} {L : List Nat} (h : Rd w a m cap vs) (k : Keeps L w w') (hB : New B L) (hz : ∀ ad, a = some ad → ad.block < B ∨ m = 0) : Rd w' a m cap vs := by
  rcases Nat.eq_zero_or_pos m with h0 | h0
  · exact ⟨h.len, h.le, h.max, fun hp => by omega⟩
  · exact h.keep k (fun ad had hm => by
      rcases hz ad had with h1 | h1
      · have := hB _ hm; omega
      · omega)
/-- How many numbers are still to come. -/
def rstN (n room k : Nat) : Nat := n - (room + k)
theorem rstN_eq (n room k : Nat) : rstN n room k = n - (room + k) := rfl
def lenV (v : Value) : Nat := match v with | .slice _ m _ => m | _ => 0
theorem lenV_slice (a : Option Addr) (m c : Nat) : lenV (.slice a m c) = m := rfl
theorem lastR_atI {out : List (List Int)} {r : List Int} (h : out.getD (out.length - 1) [] = r) : lastR out = nth r (r.length - 1) := by unfold lastR; rw [h]


set_option maxRecDepth 100000 in
set_option maxHeartbeats 4000000 in
theorem ci_ReplacementRuns (a : Option Addr) (n cap : Nat) (xs : List Int) (k0 : Int) (w : World) (hr : RdI w a n cap xs) :
    Calls Try.prog 26 #[.slice a n cap, .int .i64 k0] w fun e w' => ∃ sa sn sc, e = .returned (.slice sa sn sc) ∧ Gr w' 22 3 w.heap.size sa sn sc (rrV xs k0) ∧ SmallG sn (rrV xs k0) ∧ Below w.heap.size w w' := by
  have HL := Lib.hid hr.lens
  by_cases h16 : n ≤ 16
  case neg =>
    have HV := Lib.hid (rrV_no (xs := xs) (room := k0) (fun h => h16 (by rw [← HL.out]; exact h.1)))
    have hd : decide ((16 : Int) < (n : Int)) = true := decide_eq_true (by omega)
    go_enter Try.func26, Try.ntmps26
    go_wp2_with fail
    go_ret
    exact ⟨_, _, _, rfl, by rw [HV.out]; exact ⟨[], [], OwG.bare _ _ _ _, rfl, fun _ h => by simp [fp] at h⟩, by rw [HV.out]; exact ⟨by omega, fun _ h => by cases h⟩, Below.refl _ _⟩
  have hd : decide ((16 : Int) < (n : Int)) = false := decide_eq_false (by omega)
  by_cases hk1 : k0 < 1
  · have HV := Lib.hid (rrV_no (xs := xs) (room := k0) (fun h => by omega))
    have hd1 : decide (k0 < 1) = true := decide_eq_true hk1
    go_enter Try.func26, Try.ntmps26
    go_wp2_with fail
    go_ret
    exact ⟨_, _, _, rfl, by rw [HV.out]; exact ⟨[], [], OwG.bare _ _ _ _, rfl, fun _ h => by simp [fp] at h⟩, by rw [HV.out]; exact ⟨by omega, fun _ h => by cases h⟩, Below.refl _ _⟩
  have hd1 : decide (k0 < 1) = false := decide_eq_false hk1
  by_cases hk8 : 8 < k0
  · have HV := Lib.hid (rrV_no (xs := xs) (room := k0) (fun h => by omega))
    have hd2 : decide (8 < k0) = true := decide_eq_true hk8
    go_enter Try.func26, Try.ntmps26
    go_wp2_with fail
    go_ret
    exact ⟨_, _, _, rfl, by rw [HV.out]; exact ⟨[], [], OwG.bare _ _ _ _, rfl, fun _ h => by simp [fp] at h⟩, by rw [HV.out]; exact ⟨by omega, fun _ h => by cases h⟩, Below.refl _ _⟩
  have hd2 : decide (8 < k0) = false := decide_eq_false hk8
  obtain ⟨room, rfl⟩ : ∃ room : Nat, k0 = room := ⟨k0.toNat, by omega⟩
  have hr1 : 1 ≤ room := by omega
  have hr8 : room ≤ 8 := by omega
  have HV := Lib.hid (rrV_yes (xs := xs) (by rw [HL.out]; exact h16) hr1 hr8)
  clear hk1 hk8
  obtain ⟨m0, hm0⟩ : ∃ m0 : Nat, m0 = min room n := ⟨_, rfl⟩
  have hmin1 : (if (n : Int) < (room : Int) then (n : Int) else (room : Int)) = (m0 : Int) := by split <;> omega
  have hmin2 : (if (room : Int) < (n : Int) then (room : Int) else (n : Int)) = (m0 : Int) := by split <;> omega
  have hmin3 : min (room : Int) (n : Int) = (m0 : Int) := by omega
  have hm0r : m0 ≤ room := by omega
  have hm0n : m0 ≤ n := by omega
  have HM0 := Lib.hid hm0
  clear hm0
  have hcap := hr.le
  have hmx := hr.max
  unfold maxLen at hmx
  go_enter Try.func26, Try.ntmps26
  go_wp2_with (first | ((with_reducible show wpList _ _ _ (⟨some 29, _, _, _, _, _⟩ :: _) _ _); refine wpList_upto _ rfl (.tmp 24) (.tmp 28) 22 rfl 3 Try.underlying22 szInt m0 rfl rfl (by first | rfl | omega) (by omega) ?_) | (go_at_call 39; refine (c_Clone a m0 cap (xs.take m0) _ (by have h := (hr.keep (Keeps.alloc [] _ (.cells #[] 22)) (fun _ _ h => by cases h)).head m0 (by omega); rwa [ints_take] at h) (by omega)).mono ?_; rintro e w1 ⟨sa0, sc0, rfl, ⟨M0, hst0, hnM0⟩, hb1⟩; have hb0 : Below w.heap.size w w1 := ((Below.refl w.heap.size w).alloc (Nat.le_refl _) _).trans (hb1.mono (by simp)); have hr2 := hr.below hb0) | ((with_reducible show wpList _ _ _ (⟨some 34, _, _, _, _, _⟩ :: _) _ _); refine wpList_from _ rfl (.tmp 31) (.tmp 33) 22 rfl 3 Try.underlying22 szInt m0 rfl rfl rfl hr2 (by omega) ?_; intro a3 ha3 r3; have HA3 := Lib.hid ha3; clear ha3))
  clear hd hd1 hd2 hmin1 hmin2 hmin3
  have HT0 := Lib.hid (show xs.take m0 = xs.take room by
    rcases Nat.lt_or_ge room n with h | h
    · rw [HM0.out, Nat.min_eq_left (by omega)]
    · rw [HM0.out, Nat.min_eq_right h, List.take_of_length_le (by rw [HL.out]; exact Nat.le_refl _), List.take_of_length_le (by rw [HL.out]; exact h)])
  have HD0 := Lib.hid (show xs.drop m0 = xs.drop (room + 0) by
    rcases Nat.lt_or_ge room n with h | h
    · rw [HM0.out, Nat.min_eq_left (by omega)]; rfl
    · rw [HM0.out, Nat.min_eq_right h, List.drop_of_length_le (by rw [HL.out]; exact Nat.le_refl _), List.drop_of_length_le (by rw [HL.out]; omega)])
  have hN0 : n - m0 = rstN n room 0 := by rw [rstN_eq]; have := HM0.out; omega
  rw [ints_drop, HD0.out, hN0] at r3
  rw [hN0]
  go_loopw [5, 6, 7] (fun o s r wr => ∃ k : Nat, ∃ L cs oa on oc M sa sn sc st la lc, k ≤ n ∧ o = .slice oa on oc ∧ s = .slice sa sn sc ∧ r = .slice la (rstN n room k) lc ∧ OwG wr 22 3 L oa on oc cs ∧ cs.map (·.xs) = (rp xs room k).1 ∧ Ow wr 3 M sa sn sc (ints st) ∧ srt st = (rp xs room k).2 ∧ RdI wr la (rstN n room k) lc (xs.drop (room + k)) ∧ (∀ ad, la = some ad → ad.block < w.heap.size ∨ rstN n room k = 0) ∧ New w.heap.size (fp L cs) ∧ New w.heap.size M ∧ Apart (fp L cs) M ∧ Below w.heap.size w wr) (fun _ s r _ => lenV s + lenV r)
  case atStart =>
    refine ⟨0, [], [], _, _, _, M0, sa0, m0, sc0, xs.take m0, a3, _, by omega, rfl, rfl, rfl, OwG.bare _ _ _ _, rfl, hst0, by rw [HT0.out]; rfl, r3, fun ad had => ?_, (fun i hi => by simp [fp] at hi), hnM0.mono (by simp), (fun i hi => by simp [fp] at hi), hb0⟩
    rcases Nat.lt_or_ge room n with h | h
    · obtain ⟨b, off, e, hbl, _⟩ := hr.int (by omega)
      left
      rw [HA3.out, e] at had
      unfold cutAt at had
      split at had
      · simp only [Option.some.injEq] at had; subst had; exact hbl
      · rw [Option.map_some, Addr.add_lit] at had
        simp only [Option.some.injEq] at had; subst had; exact hbl
    · right; rw [rstN_eq]; omega
  case round =>
    clear hst0 hnM0 hb0 hb1 hr2 r3 hN0
    obtain ⟨k, L, cs, oa, on, oc, M, sa, sn, sc, st, la, lc, hk, rfl, rfl, rfl, og, hex, hst, hsS, hl, hla, hnG, hnM, hap, hb⟩ := hrel
    obtain ⟨z, hz⟩ : ∃ z, z = rstN n room k := ⟨_, rfl⟩
    rw [← hz] at hl hla ⊢
    have HZ := Lib.hid (show z = n - (room + k) by rw [hz, rstN_eq])
    clear hz
    have hlenS := rp_len xs room hr1 k (by rw [HL.out]; exact hk)
    rw [HL.out] at hlenS
    have hsn : sn = min room (n - k) := by rw [← hlenS, ← hsS, srt_len, hst.lens]
    have hsn8 : sn ≤ 8 := by omega
    have hrows := rp_rows xs room k
    have hol := rp_outlen xs room k
    have HRP := Lib.hid (show rp xs room (k + 1) = (putR (rp xs room k).1 (rpF (rp xs room k).1 (rp xs room k).2) (nth (rp xs room k).2 (rpP (rp xs room k).1 (rp xs room k).2)), srt (rmAt (rp xs room k).2 (rpP (rp xs room k).1 (rp xs room k).2) ++ (xs.drop (room + k)).take 1)) from rfl)
    have HSRT := Lib.hid (rp_srt xs room k)
    obtain ⟨O, hO⟩ : ∃ O, O = (rp xs room k).1 := ⟨_, rfl⟩
    obtain ⟨S, hS⟩ : ∃ S, S = (rp xs room k).2 := ⟨_, rfl⟩
    rw [← hO] at hex hrows hol HRP
    rw [← hS] at hsS hlenS HRP HSRT
    have HOL := Lib.hid (show O.length = on by rw [← hex, List.length_map, og.len])
    have HRES := Lib.hid (show k = n → O = (rp xs room n).1 from fun e => by rw [hO, e])
    rw [HOL.out] at hol
    have HEX := Lib.hid hex
    have HSS := Lib.hid hsS
    have HLS := Lib.hid (show S.length = sn by rw [hlenS, hsn])
    have HROWS := Lib.hid hrows
    have HSN := Lib.hid hsn
    have HLA := Lib.hid hla
    clear hO hS hex hsS hlenS hrows hsn hla
    have hszb := hb.size
    by_cases hkn : k < n
    · have hsp : 0 < sn := by have := HSN.out; omega
      have hsp2 : (0 : Int) < (sn : Int) := by omega
      obtain ⟨g, rfl, rfl, hgl, _, _⟩ := hst.at' (by have := hst.le; omega)
      have hgB : w.heap.size ≤ g := hnM g (by simp)
      have HSRTC := Lib.hid (c_Sort (some ⟨g, 0, none⟩) sn sc [g] st wr hst ⟨g, 0, rfl, hgl⟩ (by omega))
      -- A: no row yet, or B: a last row
      rcases Nat.eq_zero_or_pos on with h0 | h0
      · subst h0
        have HPK := Lib.hid (show pkO O S = none by unfold pkO; rw [if_pos HOL.out])
        go_wp2_with (first | (go_at_call 40; refine HSRTC.out.mono ?_; rintro e w2 ⟨rfl, ow2, k2⟩; rw [HSS.out] at ow2; have og2 := og.keep k2 hap; have b2 : Below w.heap.size w w2 := k2.below hb hnM hszb) | ((with_reducible show wpList _ _ _ (⟨some 66, _, _, _, _, _⟩ :: _) _ _); refine wpList_app _ rfl _ _ 32 rfl 22 Try.underlying32 infoSl rfl rfl rfl ((og2.alloc _).alloc _).row (Rd.one' _ _ _ _ (by simp)) (one_slice _ _ _) (by omega) (by unfold maxLen; omega) ?_; intro a1 cap1 L1 w3 ow1 kp1 st1; obtain ⟨g6, rfl, rfl, ogT, nT, bT, hgcT, hgfT, hglT⟩ := og2.pushNew hnG b2 b2.size (c := ⟨[], some ⟨w2.heap.size, 0, none⟩, 0, 0, []⟩) (Ow.bare _ _ _) (fun _ h => by cases h) ow1 kp1 st1))
        have HPP := Lib.hid (show rpP O S = 0 by unfold rpP; rw [HPK.out]; rfl)
        have HFF := Lib.hid (show rpF O S = false by unfold rpF; rw [HPK.out]; rfl)
        have apT : Apart (fp [g6] (cs ++ [⟨[], some ⟨w2.heap.size, 0, none⟩, 0, 0, []⟩])) [g] := fun i hi hm => by
          simp at hm; subst hm
          rcases mem_fp.1 hi with h1 | ⟨d, hd, h1⟩
          · rcases st1 i h1 with h2 | h2
            · exact hap i (mem_fp.2 (.inl h2)) (by simp)
            · simp at h2; have := ow2.old i (by simp); omega
          · rcases List.mem_append.1 hd with h3 | h3
            · exact hap i (mem_fp.2 (.inr ⟨d, h3, h1⟩)) (by simp)
            · simp at h3; subst h3; cases h1
        have owS := ((ow2.alloc (.cells #[] 3)).alloc (.cells #[.slice (some ⟨w2.heap.size, 0, none⟩) 0 0] 22)).keep kp1 (fun i hi hm => hap i (mem_fp.2 (.inl hm)) hi)
        have hnL : New w.heap.size L := fun i hi => hnG i (mem_fp.2 (.inl hi))
        have hlT := ((((hl.keepR k2 hnM HLA.out).keepR (Keeps.alloc [] _ (.cells #[] 3)) (fun _ h => by cases h) HLA.out).keepR (Keeps.alloc [] _ (.cells #[.slice (some ⟨w2.heap.size, 0, none⟩) 0 0] 22)) (fun _ h => by cases h) HLA.out).keepR kp1 hnL HLA.out)
        have hcjT := Lib.hid (show (cs ++ [⟨[], some ⟨w2.heap.size, 0, none⟩, 0, 0, []⟩])[0]? = some (⟨[], some ⟨w2.heap.size, 0, none⟩, 0, 0, []⟩ : Cell) by
          have h1 := HOL.out
          rw [← HEX.out, List.length_map] at h1
          rw [List.getElem?_append_right (by omega), show 0 - cs.length = 0 by omega]; rfl)
        have HMP := Lib.hid (fun (c' : Cell) (hx : c'.xs = ([] : List Int) ++ [nth S 0]) => show ((cs ++ [(⟨[], some ⟨w2.heap.size, 0, none⟩, 0, 0, []⟩ : Cell)]).set 0 c').map (fun x : Cell => x.xs) = (rp xs room (k + 1)).1 by
          have h1 := HOL.out
          have h2 := map_addL (cs := cs ++ [⟨[], some ⟨w2.heap.size, 0, none⟩, 0, 0, []⟩]) (l := O ++ [[]]) (by rw [List.map_append, HEX.out]; rfl) (j := 0) (by rw [List.length_append, List.length_singleton, h1]) hcjT.out (c' := c') (x := nth S 0) hx
          rw [h2, addL_new, HRP.out, HFF.out, HPP.out]; rfl)
        have hicT : Ow w3 3 [] (some ⟨w2.heap.size, 0, none⟩) 0 0 (ints ([] : List Int)) := Ow.bare _ _ _
        have hgc1 := hgcT
        obtain ⟨g9, e9, _, _, hoS, _⟩ := owS.int (by have := owS.le; omega)
        obtain rfl : g = g9 := by simpa using e9
        have c2 := hoS 0 (by omega)
        clear hoS e9
        have hb8 : (0 + 1) * 8 ≤ 140737488355328 := by omega
        have hb9 : 0 + 1 ≤ maxLen := by unfold maxLen; omega
        have hb18 : (sn - 1 + 1) * 8 ≤ 140737488355328 := by omega
        have hb19 : sn - 1 + 1 ≤ maxLen := by unfold maxLen; omega
        have hgg : g6 ≠ g := fun e => apT g6 (mem_fp.2 (.inl (by simp))) (by simp [e])
        have hcLg : Apart [g] (([] : List Nat)) := fun i hi hm => apT i (mem_fp.2 (.inr ⟨_, List.mem_of_getElem? hcjT.out, hm⟩)) hi
        have HLT := Lib.hid hlT
        clear hlT hl
        go_cut [5] from 35 to 98 (fun o wx => o = .slice (some ⟨g6, 0, none⟩) 1 cap1 ∧ ∃ csF, OwG wx 22 3 [g6] (some ⟨g6, 0, none⟩) 1 cap1 csF ∧ csF.map (fun x : Cell => x.xs) = (rp xs room (k + 1)).1 ∧ Ow wx 3 [g] (some ⟨g, 0, none⟩) sn sc (ints S) ∧ New w.heap.size (fp [g6] csF) ∧ Below w.heap.size w wx ∧ Apart (fp [g6] csF) [g] ∧ RdI wx la z lc (xs.drop (room + k)))
        case first =>
          go_region_law (refine step_appG rfl (.tmp 75) (.tmp 80) 22 rfl 3 Try.underlying22 infoInt rfl (by simp [Act.eval, Act.put]) (by simp [Act.eval, Act.put]) (xa := some ⟨w3.heap.size, 0, none⟩) (m := 1) (xcap := 1) (hicT.alloc _).drew (Rd.one _ _ _).drew (one_int (nth S 0)) hb8 hb9 ?_; intro a8 cap8 L8 w8 hc8 ow8 kp8 st8; obtain ⟨hc9, hf9, og9, nw9, bl9⟩ := (ogT.drewM).appAt nT (bT.trans (below_drewN (Below.refl _ _) 1)) bT.size hcjT.out ow8 kp8 st8)
          all_goals
            have kp9 := Keeps.setCell w8 g6 0 (.slice a8 (0 + 1) cap8)
            have ow9 := (((owS.alloc (.cells #[.int .i64 (nth S 0)] 3)).drew).keep kp8 hcLg).keep kp9 (fun i hi hm => by simp at hi hm; omega)
            have ap9 := Apart.step apT (OwG.updStep (c' := ⟨L8, a8, 0 + 1, cap8, ([] : List Int) ++ [nth S 0]⟩) hcjT.out st8) ((owS.alloc (.cells #[.int .i64 (nth S 0)] 3)).drew).old
            have ncL : New w.heap.size (([] : List Nat)) := fun i hi => nT i (mem_fp.2 (.inr ⟨_, List.mem_of_getElem? hcjT.out, hi⟩))
            have hl9 := ((((HLT.out.keepR (Keeps.alloc [] _ (.cells #[.int .i64 (nth S 0)] 3)) (fun _ h => by cases h) HLA.out).drew).keepR kp8 ncL HLA.out).keepR kp9 (fun i hi => by simp at hi; subst hi; exact nT _ (mem_fp.2 (.inl (by simp)))) HLA.out)
            go_wp2_with fail
            go_meet
            exact ⟨rfl, _, og9, HMP.out _ rfl, ow9, nw9, bl9, ap9, hl9⟩
        case rest =>
          obtain ⟨rfl, csF, og9, hmF, ow9, nw9, bl9, ap9, hl9⟩ := hcut
          have HMF := Lib.hid hmF
          have HLW := Lib.hid hl9
          clear hmF hl9 ogT nT bT apT owS hicT
          by_cases hre : 0 < z
          · have HRE := Lib.hid (show room + k < n by have := HZ.out; omega)
            go_wp2_with (go_at_call 47; refine (c_DeleteA (some ⟨g, 0, none⟩) sn sc 0 _ _ [g] S _ ow9 (by omega) (by omega) (by omega) (by omega)).mono ?_; rintro e wD ⟨rfl, owD, kD⟩; have ogD := og9.keep kD ap9; have bD := kD.below bl9 hnM bl9.size; have hlD := HLW.out.keepR kD hnM HLA.out; obtain ⟨bb, off, rfl, hbb, hcR⟩ := hlD.int (by omega); have c4 := hcR 0 (by omega); rw [nth_dropL, Nat.add_zero, Nat.add_zero] at c4; clear hcR)
            have hi1 : (1 : Int) ≤ (lc : Int) := by have := hlD.le; omega
            have hi2 : (1 : Int) ≤ (z : Int) := by omega
            have hbbw : bb < w.heap.size := by
              rcases HLA.out _ rfl with h | h
              · exact h
              · omega
            have hszD := bD.size
            have hsza : w.heap.size ≤ ((wD.alloc (.cells #[.int .i64 (nth xs (room + k))] 3)).drew).heap.size := Nat.le_trans hszD (by show wD.heap.size ≤ (wD.alloc (.cells #[.int .i64 (nth xs (room + k))] 3)).heap.size; simp)
            have HDK := Lib.hid (show (xs.drop (room + k)).take 1 = [nth xs (room + k)] by rw [drop_nth (by rw [HL.out]; exact HRE.out)]; rfl)
            by_cases hlc : lc = 1
            · subst hlc
              obtain rfl : z = 1 := by have := hlD.le; omega
              have HCUT0 := Lib.hid (show RdI wD (some ⟨bb, off, none⟩) (1 - 1) (1 - 1) (xs.drop (room + k + 1)) by
                have h := hlD.from 1 (by omega)
                rw [ints_drop, List.drop_drop] at h
                unfold cutAt at h
                rw [if_pos rfl] at h
                exact h)
              go_region_law (refine step_appG rfl (.tmp 91) (.tmp 95) 22 rfl 3 Try.underlying22 infoInt rfl (by simp [Act.eval, Act.put]) (by simp [Act.eval, Act.put]) (xa := some ⟨wD.heap.size, 0, none⟩) (m := 1) (xcap := 1) (owD.alloc _).drew (Rd.one _ _ _).drew (one_int (nth xs (room + k))) hb18 hb19 ?_; intro a10 cap10 L10 w10 hc10 ow10 kp10 st10)
              all_goals
                have HCUT := Lib.hid (((HCUT0.out.keepR (Keeps.alloc [] _ (.cells #[.int .i64 (nth xs (room + k))] 3)) (fun _ h => by cases h) (fun ad had => .inl (show ad.block < w.heap.size by simp only [Option.some.injEq] at had; subst had; exact hbbw))).drew).keepR kp10 hnM (fun ad had => .inl (show ad.block < w.heap.size by simp only [Option.some.injEq] at had; subst had; exact hbbw)))
                have ogD2 := (ogD.alloc (.cells #[.int .i64 (nth xs (room + k))] 3)).drewM
                have ogF := ogD2.keep kp10 ap9
                have nL10 : New w.heap.size L10 := st10.new hnM hsza
                have apF := (Apart.step ap9.symm st10 ogD2.old).symm
                have bF : Below w.heap.size w w10 := kp10.below ((bD.alloc hszD _).trans (below_drewN (Below.refl _ _) 1)) hnM hsza
                rw [ints_snoc] at ow10
                clear c4 hi1 hi2 hc10
                go_wp2_with fail
                go_roundw
                case rel =>
                  (repeat apply Exists.intro)
                  refine ⟨?_, rfl⟩
                  exact ⟨k + 1, _, _, some ⟨g6, 0, none⟩, _, _, L10, a10, sn - 1 + 1, cap10, rmAt S 0 ++ [nth xs (room + k)], some ⟨bb, off, none⟩, 0, by omega, rfl, rfl, congrArg (fun z => Value.slice (some ⟨bb, off, none⟩) z 0) (show (0 : Nat) = rstN n room (k + 1) by rw [rstN_eq]; have := HZ.out; omega), ogF, HMF.out, ow10, by rw [HRP.out, HPP.out, HDK.out], by rw [show rstN n room (k + 1) = 1 - 1 by rw [rstN_eq]; have := HZ.out; omega, show room + (k + 1) = room + k + 1 by omega]; exact HCUT.out, fun ad had => .inl (by simp only [Option.some.injEq] at had; subst had; exact hbbw), nw9, nL10, apF, bF⟩
                case measure => simp [lenV, Act.put]; omega
            · have HCUT0 := Lib.hid (show RdI wD (some ⟨bb, off + 1, none⟩) (z - 1) (lc - 1) (xs.drop (room + k + 1)) by
                have h := hlD.from 1 (by omega)
                rw [ints_drop, List.drop_drop] at h
                unfold cutAt at h
                rw [if_neg hlc, Option.map_some, Addr.add_lit] at h
                exact h)
              go_region_law (refine step_appG rfl (.tmp 91) (.tmp 95) 22 rfl 3 Try.underlying22 infoInt rfl (by simp [Act.eval, Act.put]) (by simp [Act.eval, Act.put]) (xa := some ⟨wD.heap.size, 0, none⟩) (m := 1) (xcap := 1) (owD.alloc _).drew (Rd.one _ _ _).drew (one_int (nth xs (room + k))) hb18 hb19 ?_; intro a10 cap10 L10 w10 hc10 ow10 kp10 st10)
              all_goals
                have HCUT := Lib.hid (((HCUT0.out.keepR (Keeps.alloc [] _ (.cells #[.int .i64 (nth xs (room + k))] 3)) (fun _ h => by cases h) (fun ad had => .inl (show ad.block < w.heap.size by simp only [Option.some.injEq] at had; subst had; exact hbbw))).drew).keepR kp10 hnM (fun ad had => .inl (show ad.block < w.heap.size by simp only [Option.some.injEq] at had; subst had; exact hbbw)))
                have ogD2 := (ogD.alloc (.cells #[.int .i64 (nth xs (room + k))] 3)).drewM
                have ogF := ogD2.keep kp10 ap9
                have nL10 : New w.heap.size L10 := st10.new hnM hsza
                have apF := (Apart.step ap9.symm st10 ogD2.old).symm
                have bF : Below w.heap.size w w10 := kp10.below ((bD.alloc hszD _).trans (below_drewN (Below.refl _ _) 1)) hnM hsza
                rw [ints_snoc] at ow10
                clear c4 hi1 hi2 hc10
                go_wp2_with fail
                go_roundw
                case rel =>
                  (repeat apply Exists.intro)
                  refine ⟨?_, rfl⟩
                  exact ⟨k + 1, _, _, some ⟨g6, 0, none⟩, _, _, L10, a10, sn - 1 + 1, cap10, rmAt S 0 ++ [nth xs (room + k)], some ⟨bb, off + 1, none⟩, lc - 1, by omega, rfl, rfl, congrArg (fun y => Value.slice (some ⟨bb, off + 1, none⟩) y (lc - 1)) (show z - 1 = rstN n room (k + 1) by rw [rstN_eq]; have := HZ.out; omega), ogF, HMF.out, ow10, by rw [HRP.out, HPP.out, HDK.out], by rw [show rstN n room (k + 1) = z - 1 by rw [rstN_eq]; have := HZ.out; omega, show room + (k + 1) = room + k + 1 by omega]; exact HCUT.out, fun ad had => .inl (by simp only [Option.some.injEq] at had; subst had; exact hbbw), nw9, nL10, apF, bF⟩
                case measure => simp [lenV, Act.put]; omega
          · obtain rfl : z = 0 := by omega
            have HRE := Lib.hid (show ¬ room + k < n by have := HZ.out; omega)
            clear hre
            go_wp2_with (go_at_call 47; refine (c_DeleteA (some ⟨g, 0, none⟩) sn sc 0 _ _ [g] S _ ow9 (by omega) (by omega) (by omega) (by omega)).mono ?_; rintro e wD ⟨rfl, owD, kD⟩; have ogD := og9.keep kD ap9; have bD := kD.below bl9 hnM bl9.size)
            go_roundw
            case rel =>
              exact ⟨k + 1, _, _, some ⟨g6, 0, none⟩, _, _, [g], some ⟨g, 0, none⟩, sn - 1, sc, rmAt S 0, la, lc, by omega, rfl, rfl, by congr 1; rw [rstN_eq]; have := HRE.out; omega, ogD, HMF.out, owD, by rw [HRP.out, HPP.out, List.drop_of_length_le (by rw [HL.out]; have := HRE.out; omega)]; simp, ⟨by have h1 := HL.out; have := HRE.out; simp [rstN_eq]; omega, by rw [rstN_eq]; have := HRE.out; omega, HLT.out.max, fun h => by rw [rstN_eq] at h; have := HRE.out; omega⟩, fun ad had => .inr (by rw [rstN_eq]; have := HRE.out; omega), nw9, hnM, ap9, bD⟩
            case measure => simp [lenV, Act.put]; omega
      · obtain ⟨q, rfl⟩ : ∃ q, on = q + 1 := ⟨on - 1, by omega⟩
        obtain ⟨⟨cL, ca, cn, cc, cx⟩, hcj⟩ : ∃ c, cs[q]? = some c := ⟨_, List.getElem?_eq_getElem (by have := og.len; omega)⟩
        have hxO : O.getD q [] = cx := by rw [← HEX.out, List.getD, List.getElem?_map, hcj]; rfl
        have hmemO : cx ∈ O := by rw [← HEX.out]; exact List.mem_map.2 ⟨_, List.mem_of_getElem? hcj, rfl⟩
        obtain ⟨hcp, hck⟩ := HROWS.out cx hmemO
        have hcxn : cx.length = cn := (og.cells _ (List.mem_of_getElem? hcj)).lens
        obtain ⟨r, rfl⟩ : ∃ r, cn = r + 1 := ⟨cn - 1, by omega⟩
        have hr16 : r ≤ 16 := by omega
        have HLAST := Lib.hid (show lastR O = nth cx r by rw [lastR_atI (r := cx) (by rw [HOL.out]; exact hxO), hcxn]; rfl)
        obtain ⟨gc, rfl, rfl, _, _, _⟩ := (og.cells _ (List.mem_of_getElem? hcj)).int (Nat.lt_of_lt_of_le (Nat.succ_pos r) (og.cells _ (List.mem_of_getElem? hcj)).le)
        obtain ⟨g6, rfl, rfl, _, _, _⟩ := og.addr (by omega)
        have HCJ := Lib.hid hcj
        clear hcj hxO hmemO hcp hck hcxn
        have hmf : ∀ (fn : Fn) (first cp : Array Value) (w : World), (Instr.makeFunc fn first cp).run Try.prog w = .ok (.func fn first cp) w := fun _ _ _ _ => rfl
        have hwq : IntKind.i64.wrap (q : Int) = (q : Int) := by rw [IntKind.wrap_i64]; omega
        have hwr : IntKind.i64.wrap (r : Int) = (r : Int) := by rw [IntKind.wrap_i64]; omega
        have hq0 : (0 : Int) < (q : Int) + 1 := by omega
        have hqlt : (q : Int) < (q : Int) + 1 := by omega
        have hrlt : (r : Int) < (r : Int) + 1 := by omega
        go_wp2_with (go_at_call 40; refine HSRTC.out.mono ?_; rintro e w2 ⟨rfl, ow2, k2⟩; rw [HSS.out] at ow2; have og2 := og.keep k2 hap; have b2 : Below w.heap.size w w2 := k2.below hb hnM hszb; obtain ⟨g6', e1, _, _, hgc, hgf⟩ := og2.addr (by omega); have e1' := List.head_eq_of_cons_eq e1; subst e1'; have hcc := hgc q _ HCJ.out; obtain ⟨gc', e2, _, _, hec, _⟩ := (og2.cells _ (List.mem_of_getElem? HCJ.out)).int (Nat.lt_of_lt_of_le (Nat.succ_pos r) (og2.cells _ (List.mem_of_getElem? HCJ.out)).le); have e2' := List.head_eq_of_cons_eq e2; subst e2'; have hel := hec r (Nat.lt_succ_self r); clear hgc hec e1 e2)
        try simp only at hcc hel
        have hwq1 : IntKind.i64.wrap ((q : Int) + 1) = (q : Int) + 1 := by rw [IntKind.wrap_i64]; omega
        have hq1 : (0 : Int) ≤ (q : Int) + 1 := by omega
        go_cut [10] from 44 to 57 (fun o wx => o = .pointer (some ⟨w2.heap.size, 0, none⟩) ∧ wx = (w2.alloc (.cells #[.int .i64 (nth cx r)] 3)).drew)
        case first =>
          go_region_law (fail)
          all_goals
            go_wp2_with fail
            go_meet
            exact ⟨rfl, rfl⟩
        case rest =>
          obtain ⟨rfl, rfl⟩ := hcut
          obtain ⟨w5, hw5⟩ : ∃ w5, w5 = (w2.alloc (.cells #[.int .i64 (nth cx r)] 3)).drew := ⟨_, rfl⟩
          have ow5 : Ow w5 3 [g] (some ⟨g, 0, none⟩) sn sc (ints S) := by rw [hw5]; exact (ow2.alloc _).drew
          have og5 : OwG w5 22 3 [g6] (some ⟨g6, 0, none⟩) (q + 1) oc cs := by rw [hw5]; exact (og2.alloc _).drewM
          have b5 : Below w.heap.size w w5 := by rw [hw5]; exact (b2.alloc b2.size _).trans (below_drewN (Below.refl _ _) 1)
          have hl5 : RdI w5 la z lc (xs.drop (room + k)) := by rw [hw5]; exact ((hl.keepR k2 hnM HLA.out).keepR (Keeps.alloc [] _ _) (fun _ h => by cases h) HLA.out).drew
          have hv5 : w5.cell? ⟨w2.heap.size, 0, none⟩ = some (.int .i64 (nth cx r)) := by rw [hw5]; exact (show (w2.alloc _).cell? _ = _ from World.cell?_alloc_at _ _ _ _ (by simp))
          have HIG := Lib.hid (c_IdxGe (some ⟨g, 0, none⟩) sn sc w2.heap.size (nth cx r) S w5 ow5.rd hv5 (by omega))
          rw [← hw5]
          clear hw5 hv5
          cases hpk : pk (nth cx r) S sn with
          | some j =>
            have HPI := Lib.hid (pkI_some hpk)
            have hjn := (pk_some hpk).1
            have HPK := Lib.hid (show pkO O S = some j by unfold pkO; rw [if_neg (by rw [HOL.out]; omega), HLAST.out, HLS.out]; exact hpk)
            have HPP := Lib.hid (show rpP O S = j by unfold rpP; rw [HPK.out]; rfl)
            have HFF := Lib.hid (show rpF O S = true by unfold rpF; rw [HPK.out]; rfl)
            clear hpk
            go_wp2_with (go_at_call 45; refine HIG.out.mono ?_; rw [HPI.out]; rintro e w6 ⟨rfl, rfl⟩)
            have ogT := og5
            have nT := hnG
            have bT := b5
            obtain ⟨g6', e9, _, _, hgcT0, hgfT0⟩ := og5.addr (by omega)
            have e9' := List.head_eq_of_cons_eq e9
            subst e9'
            have hgcT := hgcT0 q _ HCJ.out
            have hgfT := hgfT0 q
            clear hgcT0 hgfT0 e9
            have apT := hap
            have owS := ow5
            have hlT := hl5
            have hcjT := HCJ
            have HMP := Lib.hid (fun (c' : Cell) (hx : c'.xs = cx ++ [nth S j]) => show (cs.set q c').map (fun x : Cell => x.xs) = (rp xs room (k + 1)).1 by
              have h2 := map_addL HEX.out (j := q) (by rw [HOL.out]) HCJ.out (c' := c') (x := nth S j) hx
              rw [h2, HRP.out, HFF.out, HPP.out]; rfl)
            have hicT : Ow w5 3 [gc] (some ⟨gc, 0, none⟩) (r + 1) cc (ints cx) := og5.cells _ (List.mem_of_getElem? HCJ.out)
            clear hl5
            obtain ⟨g9, e9, _, _, hoS, _⟩ := owS.int (by have := owS.le; omega)
            obtain rfl : g = g9 := by simpa using e9
            have c2 := hoS j (by omega)
            clear hoS e9
            have hb8 : ((r + 1) + 1) * 8 ≤ 140737488355328 := by omega
            have hb9 : (r + 1) + 1 ≤ maxLen := by unfold maxLen; omega
            have hb18 : (sn - 1 + 1) * 8 ≤ 140737488355328 := by omega
            have hb19 : sn - 1 + 1 ≤ maxLen := by unfold maxLen; omega
            have hgg : g6 ≠ g := fun e => apT g6 (mem_fp.2 (.inl (by simp))) (by simp [e])
            have hcLg : Apart [g] ([gc]) := fun i hi hm => apT i (mem_fp.2 (.inr ⟨_, List.mem_of_getElem? hcjT.out, hm⟩)) hi
            have HLT := Lib.hid hlT
            clear hlT hl
            go_cut [5] from 35 to 98 (fun o wx => o = .slice (some ⟨g6, 0, none⟩) (q + 1) oc ∧ ∃ csF, OwG wx 22 3 [g6] (some ⟨g6, 0, none⟩) (q + 1) oc csF ∧ csF.map (fun x : Cell => x.xs) = (rp xs room (k + 1)).1 ∧ Ow wx 3 [g] (some ⟨g, 0, none⟩) sn sc (ints S) ∧ New w.heap.size (fp [g6] csF) ∧ Below w.heap.size w wx ∧ Apart (fp [g6] csF) [g] ∧ RdI wx la z lc (xs.drop (room + k)))
            case first =>
              go_region_law (refine step_appG rfl (.tmp 75) (.tmp 80) 22 rfl 3 Try.underlying22 infoInt rfl (by simp [Act.eval, Act.put]) (by simp [Act.eval, Act.put]) (xa := some ⟨w5.heap.size, 0, none⟩) (m := 1) (xcap := 1) (hicT.alloc _).drew (Rd.one _ _ _).drew (one_int (nth S j)) hb8 hb9 ?_; intro a8 cap8 L8 w8 hc8 ow8 kp8 st8; obtain ⟨hc9, hf9, og9, nw9, bl9⟩ := (ogT.drewM).appAt nT (bT.trans (below_drewN (Below.refl _ _) 1)) bT.size hcjT.out ow8 kp8 st8)
              all_goals
                have kp9 := Keeps.setCell w8 g6 q (.slice a8 ((r + 1) + 1) cap8)
                have ow9 := (((owS.alloc (.cells #[.int .i64 (nth S j)] 3)).drew).keep kp8 hcLg).keep kp9 (fun i hi hm => by simp at hi hm; omega)
                have ap9 := Apart.step apT (OwG.updStep (c' := ⟨L8, a8, (r + 1) + 1, cap8, cx ++ [nth S j]⟩) hcjT.out st8) ((owS.alloc (.cells #[.int .i64 (nth S j)] 3)).drew).old
                have ncL : New w.heap.size ([gc]) := fun i hi => nT i (mem_fp.2 (.inr ⟨_, List.mem_of_getElem? hcjT.out, hi⟩))
                have hl9 := ((((HLT.out.keepR (Keeps.alloc [] _ (.cells #[.int .i64 (nth S j)] 3)) (fun _ h => by cases h) HLA.out).drew).keepR kp8 ncL HLA.out).keepR kp9 (fun i hi => by simp at hi; subst hi; exact nT _ (mem_fp.2 (.inl (by simp)))) HLA.out)
                go_wp2_with fail
                go_meet
                exact ⟨rfl, _, og9, HMP.out _ rfl, ow9, nw9, bl9, ap9, hl9⟩
            case rest =>
              obtain ⟨rfl, csF, og9, hmF, ow9, nw9, bl9, ap9, hl9⟩ := hcut
              have HMF := Lib.hid hmF
              have HLW := Lib.hid hl9
              clear hmF hl9 ogT nT bT apT owS hicT
              by_cases hre : 0 < z
              · have HRE := Lib.hid (show room + k < n by have := HZ.out; omega)
                go_wp2_with (go_at_call 47; refine (c_DeleteA (some ⟨g, 0, none⟩) sn sc j _ _ [g] S _ ow9 (by omega) (by omega) (by omega) (by omega)).mono ?_; rintro e wD ⟨rfl, owD, kD⟩; have ogD := og9.keep kD ap9; have bD := kD.below bl9 hnM bl9.size; have hlD := HLW.out.keepR kD hnM HLA.out; obtain ⟨bb, off, rfl, hbb, hcR⟩ := hlD.int (by omega); have c4 := hcR 0 (by omega); rw [nth_dropL, Nat.add_zero, Nat.add_zero] at c4; clear hcR)
                have hi1 : (1 : Int) ≤ (lc : Int) := by have := hlD.le; omega
                have hi2 : (1 : Int) ≤ (z : Int) := by omega
                have hbbw : bb < w.heap.size := by
                  rcases HLA.out _ rfl with h | h
                  · exact h
                  · omega
                have hszD := bD.size
                have hsza : w.heap.size ≤ ((wD.alloc (.cells #[.int .i64 (nth xs (room + k))] 3)).drew).heap.size := Nat.le_trans hszD (by show wD.heap.size ≤ (wD.alloc (.cells #[.int .i64 (nth xs (room + k))] 3)).heap.size; simp)
                have HDK := Lib.hid (show (xs.drop (room + k)).take 1 = [nth xs (room + k)] by rw [drop_nth (by rw [HL.out]; exact HRE.out)]; rfl)
                by_cases hlc : lc = 1
                · subst hlc
                  obtain rfl : z = 1 := by have := hlD.le; omega
                  have HCUT0 := Lib.hid (show RdI wD (some ⟨bb, off, none⟩) (1 - 1) (1 - 1) (xs.drop (room + k + 1)) by
                    have h := hlD.from 1 (by omega)
                    rw [ints_drop, List.drop_drop] at h
                    unfold cutAt at h
                    rw [if_pos rfl] at h
                    exact h)
                  go_region_law (refine step_appG rfl (.tmp 91) (.tmp 95) 22 rfl 3 Try.underlying22 infoInt rfl (by simp [Act.eval, Act.put]) (by simp [Act.eval, Act.put]) (xa := some ⟨wD.heap.size, 0, none⟩) (m := 1) (xcap := 1) (owD.alloc _).drew (Rd.one _ _ _).drew (one_int (nth xs (room + k))) hb18 hb19 ?_; intro a10 cap10 L10 w10 hc10 ow10 kp10 st10)
                  all_goals
                    have HCUT := Lib.hid (((HCUT0.out.keepR (Keeps.alloc [] _ (.cells #[.int .i64 (nth xs (room + k))] 3)) (fun _ h => by cases h) (fun ad had => .inl (show ad.block < w.heap.size by simp only [Option.some.injEq] at had; subst had; exact hbbw))).drew).keepR kp10 hnM (fun ad had => .inl (show ad.block < w.heap.size by simp only [Option.some.injEq] at had; subst had; exact hbbw)))
                    have ogD2 := (ogD.alloc (.cells #[.int .i64 (nth xs (room + k))] 3)).drewM
                    have ogF := ogD2.keep kp10 ap9
                    have nL10 : New w.heap.size L10 := st10.new hnM hsza
                    have apF := (Apart.step ap9.symm st10 ogD2.old).symm
                    have bF : Below w.heap.size w w10 := kp10.below ((bD.alloc hszD _).trans (below_drewN (Below.refl _ _) 1)) hnM hsza
                    rw [ints_snoc] at ow10
                    clear c4 hi1 hi2 hc10
                    go_wp2_with fail
                    go_roundw
                    case rel =>
                      (repeat apply Exists.intro)
                      refine ⟨?_, rfl⟩
                      exact ⟨k + 1, _, _, some ⟨g6, 0, none⟩, _, _, L10, a10, sn - 1 + 1, cap10, rmAt S j ++ [nth xs (room + k)], some ⟨bb, off, none⟩, 0, by omega, rfl, rfl, congrArg (fun z => Value.slice (some ⟨bb, off, none⟩) z 0) (show (0 : Nat) = rstN n room (k + 1) by rw [rstN_eq]; have := HZ.out; omega), ogF, HMF.out, ow10, by rw [HRP.out, HPP.out, HDK.out], by rw [show rstN n room (k + 1) = 1 - 1 by rw [rstN_eq]; have := HZ.out; omega, show room + (k + 1) = room + k + 1 by omega]; exact HCUT.out, fun ad had => .inl (by simp only [Option.some.injEq] at had; subst had; exact hbbw), nw9, nL10, apF, bF⟩
                    case measure => simp [lenV, Act.put]; omega
                · have HCUT0 := Lib.hid (show RdI wD (some ⟨bb, off + 1, none⟩) (z - 1) (lc - 1) (xs.drop (room + k + 1)) by
                    have h := hlD.from 1 (by omega)
                    rw [ints_drop, List.drop_drop] at h
                    unfold cutAt at h
                    rw [if_neg hlc, Option.map_some, Addr.add_lit] at h
                    exact h)
                  go_region_law (refine step_appG rfl (.tmp 91) (.tmp 95) 22 rfl 3 Try.underlying22 infoInt rfl (by simp [Act.eval, Act.put]) (by simp [Act.eval, Act.put]) (xa := some ⟨wD.heap.size, 0, none⟩) (m := 1) (xcap := 1) (owD.alloc _).drew (Rd.one _ _ _).drew (one_int (nth xs (room + k))) hb18 hb19 ?_; intro a10 cap10 L10 w10 hc10 ow10 kp10 st10)
                  all_goals
                    have HCUT := Lib.hid (((HCUT0.out.keepR (Keeps.alloc [] _ (.cells #[.int .i64 (nth xs (room + k))] 3)) (fun _ h => by cases h) (fun ad had => .inl (show ad.block < w.heap.size by simp only [Option.some.injEq] at had; subst had; exact hbbw))).drew).keepR kp10 hnM (fun ad had => .inl (show ad.block < w.heap.size by simp only [Option.some.injEq] at had; subst had; exact hbbw)))
                    have ogD2 := (ogD.alloc (.cells #[.int .i64 (nth xs (room + k))] 3)).drewM
                    have ogF := ogD2.keep kp10 ap9
                    have nL10 : New w.heap.size L10 := st10.new hnM hsza
                    have apF := (Apart.step ap9.symm st10 ogD2.old).symm
                    have bF : Below w.heap.size w w10 := kp10.below ((bD.alloc hszD _).trans (below_drewN (Below.refl _ _) 1)) hnM hsza
                    rw [ints_snoc] at ow10
                    clear c4 hi1 hi2 hc10
                    go_wp2_with fail
                    go_roundw
                    case rel =>
                      (repeat apply Exists.intro)
                      refine ⟨?_, rfl⟩
                      exact ⟨k + 1, _, _, some ⟨g6, 0, none⟩, _, _, L10, a10, sn - 1 + 1, cap10, rmAt S j ++ [nth xs (room + k)], some ⟨bb, off + 1, none⟩, lc - 1, by omega, rfl, rfl, congrArg (fun y => Value.slice (some ⟨bb, off + 1, none⟩) y (lc - 1)) (show z - 1 = rstN n room (k + 1) by rw [rstN_eq]; have := HZ.out; omega), ogF, HMF.out, ow10, by rw [HRP.out, HPP.out, HDK.out], by rw [show rstN n room (k + 1) = z - 1 by rw [rstN_eq]; have := HZ.out; omega, show room + (k + 1) = room + k + 1 by omega]; exact HCUT.out, fun ad had => .inl (by simp only [Option.some.injEq] at had; subst had; exact hbbw), nw9, nL10, apF, bF⟩
                    case measure => simp [lenV, Act.put]; omega
              · obtain rfl : z = 0 := by omega
                have HRE := Lib.hid (show ¬ room + k < n by have := HZ.out; omega)
                clear hre
                go_wp2_with (go_at_call 47; refine (c_DeleteA (some ⟨g, 0, none⟩) sn sc j _ _ [g] S _ ow9 (by omega) (by omega) (by omega) (by omega)).mono ?_; rintro e wD ⟨rfl, owD, kD⟩; have ogD := og9.keep kD ap9; have bD := kD.below bl9 hnM bl9.size)
                go_roundw
                case rel =>
                  exact ⟨k + 1, _, _, some ⟨g6, 0, none⟩, _, _, [g], some ⟨g, 0, none⟩, sn - 1, sc, rmAt S j, la, lc, by omega, rfl, rfl, by congr 1; rw [rstN_eq]; have := HRE.out; omega, ogD, HMF.out, owD, by rw [HRP.out, HPP.out, List.drop_of_length_le (by rw [HL.out]; have := HRE.out; omega)]; simp, ⟨by have h1 := HL.out; have := HRE.out; simp [rstN_eq]; omega, by rw [rstN_eq]; have := HRE.out; omega, HLT.out.max, fun h => by rw [rstN_eq] at h; have := HRE.out; omega⟩, fun ad had => .inr (by rw [rstN_eq]; have := HRE.out; omega), nw9, hnM, ap9, bD⟩
                case measure => simp [lenV, Act.put]; omega
          | none =>
            have HPI := Lib.hid (pkI_none hpk)
            have HPK := Lib.hid (show pkO O S = none by unfold pkO; rw [if_neg (by rw [HOL.out]; omega), HLAST.out, HLS.out]; exact hpk)
            have HPP := Lib.hid (show rpP O S = 0 by unfold rpP; rw [HPK.out]; rfl)
            have HFF := Lib.hid (show rpF O S = false by unfold rpF; rw [HPK.out]; rfl)
            clear hpk
            go_wp2_with (first | (go_at_call 45; refine HIG.out.mono ?_; rw [HPI.out]; rintro e w6 ⟨rfl, rfl⟩) | ((with_reducible show wpList _ _ _ (⟨some 66, _, _, _, _, _⟩ :: _) _ _); refine wpList_app _ rfl _ _ 32 rfl 22 Try.underlying32 infoSl rfl rfl rfl ((og5.alloc _).alloc _).row (Rd.one' _ _ _ _ (by simp)) (one_slice _ _ _) (by omega) (by unfold maxLen; omega) ?_; intro a1 cap1 L1 w3 ow1 kp1 st1; obtain ⟨g7, rfl, rfl, ogT, nT, bT, hgcT, hgfT, hglT⟩ := og5.pushNew hnG b5 b5.size (c := ⟨[], some ⟨w5.heap.size, 0, none⟩, 0, 0, []⟩) (Ow.bare _ _ _) (fun _ h => by cases h) ow1 kp1 st1))
            have apT : Apart (fp [g7] (cs ++ [⟨[], some ⟨w5.heap.size, 0, none⟩, 0, 0, []⟩])) [g] := fun i hi hm => by
              simp at hm; subst hm
              rcases mem_fp.1 hi with h1 | ⟨d, hd, h1⟩
              · rcases st1 i h1 with h2 | h2
                · exact hap i (mem_fp.2 (.inl h2)) (by simp)
                · simp at h2; have := ow5.old i (by simp); omega
              · rcases List.mem_append.1 hd with h3 | h3
                · exact hap i (mem_fp.2 (.inr ⟨d, h3, h1⟩)) (by simp)
                · simp at h3; subst h3; cases h1
            have owS := ((ow5.alloc (.cells #[] 3)).alloc (.cells #[.slice (some ⟨w5.heap.size, 0, none⟩) 0 0] 22)).keep kp1 (fun i hi hm => hap i (mem_fp.2 (.inl hm)) hi)
            have hnL : New w.heap.size [g6] := fun i hi => hnG i (mem_fp.2 (.inl hi))
            have hlT := (((hl5.keepR (Keeps.alloc [] _ (.cells #[] 3)) (fun _ h => by cases h) HLA.out).keepR (Keeps.alloc [] _ (.cells #[.slice (some ⟨w5.heap.size, 0, none⟩) 0 0] 22)) (fun _ h => by cases h) HLA.out).keepR kp1 hnL HLA.out)
            have hcjT := Lib.hid (show (cs ++ [⟨[], some ⟨w5.heap.size, 0, none⟩, 0, 0, []⟩])[(q + 1)]? = some (⟨[], some ⟨w5.heap.size, 0, none⟩, 0, 0, []⟩ : Cell) by
              have h1 := HOL.out
              rw [← HEX.out, List.length_map] at h1
              rw [List.getElem?_append_right (by omega), show (q + 1) - cs.length = 0 by omega]; rfl)
            have HMP := Lib.hid (fun (c' : Cell) (hx : c'.xs = ([] : List Int) ++ [nth S 0]) => show ((cs ++ [(⟨[], some ⟨w5.heap.size, 0, none⟩, 0, 0, []⟩ : Cell)]).set (q + 1) c').map (fun x : Cell => x.xs) = (rp xs room (k + 1)).1 by
              have h1 := HOL.out
              have h2 := map_addL (cs := cs ++ [⟨[], some ⟨w5.heap.size, 0, none⟩, 0, 0, []⟩]) (l := O ++ [[]]) (by rw [List.map_append, HEX.out]; rfl) (j := (q + 1)) (by rw [List.length_append, List.length_singleton, h1]) hcjT.out (c' := c') (x := nth S 0) hx
              rw [h2, addL_new, HRP.out, HFF.out, HPP.out]; rfl)
            have hicT : Ow w3 3 [] (some ⟨w5.heap.size, 0, none⟩) 0 0 (ints ([] : List Int)) := Ow.bare _ _ _
            have hgc1 := hgcT
            clear hl5
            obtain ⟨g9, e9, _, _, hoS, _⟩ := owS.int (by have := owS.le; omega)
            obtain rfl : g = g9 := by simpa using e9
            have c2 := hoS 0 (by omega)
            clear hoS e9
            have hb8 : (0 + 1) * 8 ≤ 140737488355328 := by omega
            have hb9 : 0 + 1 ≤ maxLen := by unfold maxLen; omega
            have hb18 : (sn - 1 + 1) * 8 ≤ 140737488355328 := by omega
            have hb19 : sn - 1 + 1 ≤ maxLen := by unfold maxLen; omega
            have hgg : g7 ≠ g := fun e => apT g7 (mem_fp.2 (.inl (by simp))) (by simp [e])
            have hcLg : Apart [g] (([] : List Nat)) := fun i hi hm => apT i (mem_fp.2 (.inr ⟨_, List.mem_of_getElem? hcjT.out, hm⟩)) hi
            have HLT := Lib.hid hlT
            clear hlT hl
            go_cut [5] from 35 to 98 (fun o wx => o = .slice (some ⟨g7, 0, none⟩) (q + 1 + 1) cap1 ∧ ∃ csF, OwG wx 22 3 [g7] (some ⟨g7, 0, none⟩) (q + 1 + 1) cap1 csF ∧ csF.map (fun x : Cell => x.xs) = (rp xs room (k + 1)).1 ∧ Ow wx 3 [g] (some ⟨g, 0, none⟩) sn sc (ints S) ∧ New w.heap.size (fp [g7] csF) ∧ Below w.heap.size w wx ∧ Apart (fp [g7] csF) [g] ∧ RdI wx la z lc (xs.drop (room + k)))
            case first =>
              go_region_law (refine step_appG rfl (.tmp 75) (.tmp 80) 22 rfl 3 Try.underlying22 infoInt rfl (by simp [Act.eval, Act.put]) (by simp [Act.eval, Act.put]) (xa := some ⟨w3.heap.size, 0, none⟩) (m := 1) (xcap := 1) (hicT.alloc _).drew (Rd.one _ _ _).drew (one_int (nth S 0)) hb8 hb9 ?_; intro a8 cap8 L8 w8 hc8 ow8 kp8 st8; obtain ⟨hc9, hf9, og9, nw9, bl9⟩ := (ogT.drewM).appAt nT (bT.trans (below_drewN (Below.refl _ _) 1)) bT.size hcjT.out ow8 kp8 st8)
              all_goals
                have kp9 := Keeps.setCell w8 g7 (q + 1) (.slice a8 (0 + 1) cap8)
                have ow9 := (((owS.alloc (.cells #[.int .i64 (nth S 0)] 3)).drew).keep kp8 hcLg).keep kp9 (fun i hi hm => by simp at hi hm; omega)
                have ap9 := Apart.step apT (OwG.updStep (c' := ⟨L8, a8, 0 + 1, cap8, ([] : List Int) ++ [nth S 0]⟩) hcjT.out st8) ((owS.alloc (.cells #[.int .i64 (nth S 0)] 3)).drew).old
                have ncL : New w.heap.size (([] : List Nat)) := fun i hi => nT i (mem_fp.2 (.inr ⟨_, List.mem_of_getElem? hcjT.out, hi⟩))
                have hl9 := ((((HLT.out.keepR (Keeps.alloc [] _ (.cells #[.int .i64 (nth S 0)] 3)) (fun _ h => by cases h) HLA.out).drew).keepR kp8 ncL HLA.out).keepR kp9 (fun i hi => by simp at hi; subst hi; exact nT _ (mem_fp.2 (.inl (by simp)))) HLA.out)
                go_wp2_with fail
                go_meet
                exact ⟨rfl, _, og9, HMP.out _ rfl, ow9, nw9, bl9, ap9, hl9⟩
            case rest =>
              obtain ⟨rfl, csF, og9, hmF, ow9, nw9, bl9, ap9, hl9⟩ := hcut
              have HMF := Lib.hid hmF
              have HLW := Lib.hid hl9
              clear hmF hl9 ogT nT bT apT owS hicT
              by_cases hre : 0 < z
              · have HRE := Lib.hid (show room + k < n by have := HZ.out; omega)
                go_wp2_with (go_at_call 47; refine (c_DeleteA (some ⟨g, 0, none⟩) sn sc 0 _ _ [g] S _ ow9 (by omega) (by omega) (by omega) (by omega)).mono ?_; rintro e wD ⟨rfl, owD, kD⟩; have ogD := og9.keep kD ap9; have bD := kD.below bl9 hnM bl9.size; have hlD := HLW.out.keepR kD hnM HLA.out; obtain ⟨bb, off, rfl, hbb, hcR⟩ := hlD.int (by omega); have c4 := hcR 0 (by omega); rw [nth_dropL, Nat.add_zero, Nat.add_zero] at c4; clear hcR)
                have hi1 : (1 : Int) ≤ (lc : Int) := by have := hlD.le; omega
                have hi2 : (1 : Int) ≤ (z : Int) := by omega
                have hbbw : bb < w.heap.size := by
                  rcases HLA.out _ rfl with h | h
                  · exact h
                  · omega
                have hszD := bD.size
                have hsza : w.heap.size ≤ ((wD.alloc (.cells #[.int .i64 (nth xs (room + k))] 3)).drew).heap.size := Nat.le_trans hszD (by show wD.heap.size ≤ (wD.alloc (.cells #[.int .i64 (nth xs (room + k))] 3)).heap.size; simp)
                have HDK := Lib.hid (show (xs.drop (room + k)).take 1 = [nth xs (room + k)] by rw [drop_nth (by rw [HL.out]; exact HRE.out)]; rfl)
                by_cases hlc : lc = 1
                · subst hlc
                  obtain rfl : z = 1 := by have := hlD.le; omega
                  have HCUT0 := Lib.hid (show RdI wD (some ⟨bb, off, none⟩) (1 - 1) (1 - 1) (xs.drop (room + k + 1)) by
                    have h := hlD.from 1 (by omega)
                    rw [ints_drop, List.drop_drop] at h
                    unfold cutAt at h
                    rw [if_pos rfl] at h
                    exact h)
                  go_region_law (refine step_appG rfl (.tmp 91) (.tmp 95) 22 rfl 3 Try.underlying22 infoInt rfl (by simp [Act.eval, Act.put]) (by simp [Act.eval, Act.put]) (xa := some ⟨wD.heap.size, 0, none⟩) (m := 1) (xcap := 1) (owD.alloc _).drew (Rd.one _ _ _).drew (one_int (nth xs (room + k))) hb18 hb19 ?_; intro a10 cap10 L10 w10 hc10 ow10 kp10 st10)
                  all_goals
                    have HCUT := Lib.hid (((HCUT0.out.keepR (Keeps.alloc [] _ (.cells #[.int .i64 (nth xs (room + k))] 3)) (fun _ h => by cases h) (fun ad had => .inl (show ad.block < w.heap.size by simp only [Option.some.injEq] at had; subst had; exact hbbw))).drew).keepR kp10 hnM (fun ad had => .inl (show ad.block < w.heap.size by simp only [Option.some.injEq] at had; subst had; exact hbbw)))
                    have ogD2 := (ogD.alloc (.cells #[.int .i64 (nth xs (room + k))] 3)).drewM
                    have ogF := ogD2.keep kp10 ap9
                    have nL10 : New w.heap.size L10 := st10.new hnM hsza
                    have apF := (Apart.step ap9.symm st10 ogD2.old).symm
                    have bF : Below w.heap.size w w10 := kp10.below ((bD.alloc hszD _).trans (below_drewN (Below.refl _ _) 1)) hnM hsza
                    rw [ints_snoc] at ow10
                    clear c4 hi1 hi2 hc10
                    go_wp2_with fail
                    go_roundw
                    case rel =>
                      (repeat apply Exists.intro)
                      refine ⟨?_, rfl⟩
                      exact ⟨k + 1, _, _, some ⟨g7, 0, none⟩, _, _, L10, a10, sn - 1 + 1, cap10, rmAt S 0 ++ [nth xs (room + k)], some ⟨bb, off, none⟩, 0, by omega, rfl, rfl, congrArg (fun z => Value.slice (some ⟨bb, off, none⟩) z 0) (show (0 : Nat) = rstN n room (k + 1) by rw [rstN_eq]; have := HZ.out; omega), ogF, HMF.out, ow10, by rw [HRP.out, HPP.out, HDK.out], by rw [show rstN n room (k + 1) = 1 - 1 by rw [rstN_eq]; have := HZ.out; omega, show room + (k + 1) = room + k + 1 by omega]; exact HCUT.out, fun ad had => .inl (by simp only [Option.some.injEq] at had; subst had; exact hbbw), nw9, nL10, apF, bF⟩
                    case measure => simp [lenV, Act.put]; omega
                · have HCUT0 := Lib.hid (show RdI wD (some ⟨bb, off + 1, none⟩) (z - 1) (lc - 1) (xs.drop (room + k + 1)) by
                    have h := hlD.from 1 (by omega)
                    rw [ints_drop, List.drop_drop] at h
                    unfold cutAt at h
                    rw [if_neg hlc, Option.map_some, Addr.add_lit] at h
                    exact h)
                  go_region_law (refine step_appG rfl (.tmp 91) (.tmp 95) 22 rfl 3 Try.underlying22 infoInt rfl (by simp [Act.eval, Act.put]) (by simp [Act.eval, Act.put]) (xa := some ⟨wD.heap.size, 0, none⟩) (m := 1) (xcap := 1) (owD.alloc _).drew (Rd.one _ _ _).drew (one_int (nth xs (room + k))) hb18 hb19 ?_; intro a10 cap10 L10 w10 hc10 ow10 kp10 st10)
                  all_goals
                    have HCUT := Lib.hid (((HCUT0.out.keepR (Keeps.alloc [] _ (.cells #[.int .i64 (nth xs (room + k))] 3)) (fun _ h => by cases h) (fun ad had => .inl (show ad.block < w.heap.size by simp only [Option.some.injEq] at had; subst had; exact hbbw))).drew).keepR kp10 hnM (fun ad had => .inl (show ad.block < w.heap.size by simp only [Option.some.injEq] at had; subst had; exact hbbw)))
                    have ogD2 := (ogD.alloc (.cells #[.int .i64 (nth xs (room + k))] 3)).drewM
                    have ogF := ogD2.keep kp10 ap9
                    have nL10 : New w.heap.size L10 := st10.new hnM hsza
                    have apF := (Apart.step ap9.symm st10 ogD2.old).symm
                    have bF : Below w.heap.size w w10 := kp10.below ((bD.alloc hszD _).trans (below_drewN (Below.refl _ _) 1)) hnM hsza
                    rw [ints_snoc] at ow10
                    clear c4 hi1 hi2 hc10
                    go_wp2_with fail
                    go_roundw
                    case rel =>
                      (repeat apply Exists.intro)
                      refine ⟨?_, rfl⟩
                      exact ⟨k + 1, _, _, some ⟨g7, 0, none⟩, _, _, L10, a10, sn - 1 + 1, cap10, rmAt S 0 ++ [nth xs (room + k)], some ⟨bb, off + 1, none⟩, lc - 1, by omega, rfl, rfl, congrArg (fun y => Value.slice (some ⟨bb, off + 1, none⟩) y (lc - 1)) (show z - 1 = rstN n room (k + 1) by rw [rstN_eq]; have := HZ.out; omega), ogF, HMF.out, ow10, by rw [HRP.out, HPP.out, HDK.out], by rw [show rstN n room (k + 1) = z - 1 by rw [rstN_eq]; have := HZ.out; omega, show room + (k + 1) = room + k + 1 by omega]; exact HCUT.out, fun ad had => .inl (by simp only [Option.some.injEq] at had; subst had; exact hbbw), nw9, nL10, apF, bF⟩
                    case measure => simp [lenV, Act.put]; omega
              · obtain rfl : z = 0 := by omega
                have HRE := Lib.hid (show ¬ room + k < n by have := HZ.out; omega)
                clear hre
                go_wp2_with (go_at_call 47; refine (c_DeleteA (some ⟨g, 0, none⟩) sn sc 0 _ _ [g] S _ ow9 (by omega) (by omega) (by omega) (by omega)).mono ?_; rintro e wD ⟨rfl, owD, kD⟩; have ogD := og9.keep kD ap9; have bD := kD.below bl9 hnM bl9.size)
                go_roundw
                case rel =>
                  exact ⟨k + 1, _, _, some ⟨g7, 0, none⟩, _, _, [g], some ⟨g, 0, none⟩, sn - 1, sc, rmAt S 0, la, lc, by omega, rfl, rfl, by congr 1; rw [rstN_eq]; have := HRE.out; omega, ogD, HMF.out, owD, by rw [HRP.out, HPP.out, List.drop_of_length_le (by rw [HL.out]; have := HRE.out; omega)]; simp, ⟨by have h1 := HL.out; have := HRE.out; simp [rstN_eq]; omega, by rw [rstN_eq]; have := HRE.out; omega, HLT.out.max, fun h => by rw [rstN_eq] at h; have := HRE.out; omega⟩, fun ad had => .inr (by rw [rstN_eq]; have := HRE.out; omega), nw9, hnM, ap9, bD⟩
                case measure => simp [lenV, Act.put]; omega
    · obtain rfl : k = n := by omega
      have HRES2 := Lib.hid (HRES.out rfl)
      have hk0 : sn = 0 := by have := HSN.out; omega
      clear HRES HSN
      subst hk0
      go_wp2_with fail
      go_ret
      exact ⟨oa, on, oc, rfl, ⟨L, cs, og, by rw [HV.out, HEX.out, HL.out]; exact HRES2.out, hnG⟩, by rw [HV.out, HL.out, ← HRES2.out]; exact ⟨by omega, fun r hr => by have := HROWS.out r hr; omega⟩, hb⟩


end Go.Proofs.Ytaffokicnabkiaa

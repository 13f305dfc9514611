/- The longest parts in order, as the program makes them: a slice of slices. No condition but a length. -/
import Derived.Test.YtaffokicnabkiaaHelp
import Derived.Test.YtaffokicnabkiaaGrid
import Derived.Test.YtaffokicnabkiaaRisL
namespace Go.Proofs.Ytaffokicnabkiaa
open Go.RowKit

theorem infoSl : (Try.prog.info? 22).map (fun i => (i.zero, i.size, i.bytes)) = some (some (.slice none 0 0), 1, 24) := by kernel_rfl

theorem map_addL {cs : List Cell} {l : List (List Int)} (h : cs.map (·.xs) = l) {j : Nat} (hj : j + 1 = l.length) {c c' : Cell} (hc : cs[j]? = some c) {x : Int} (hx : c'.xs = c.xs ++ [x]) : (cs.set j c').map (·.xs) = addL l x := by
  subst h
  unfold addL
  rw [← hj, Nat.add_sub_cancel, List.map_set, hx]
  simp [List.getD, List.getElem?_map, hc]

set_option maxHeartbeats 1000000 in
theorem c_rising (a : Option Addr) (n cap : Nat) (xs : List Int) (w : World) (hr : RdI w a n cap xs) (hn : n ≤ 16) :
    Calls Try.prog 38 #[.slice a n cap] w fun e w' => ∃ ao no co, e = .returned (.slice ao no co) ∧ Gr w' 22 3 w.heap.size ao no co (risL xs n) ∧ Below w.heap.size w w' := by
  go_enter Try.func38, Try.ntmps38
  go_wp2
  go_loopw [3, 9] (fun l i wr => ∃ k : Nat, ∃ L cs la m lc, k ≤ n ∧ i = .int .i64 k ∧ l = .slice la m lc ∧ OwG wr 22 3 L la m lc cs ∧ cs.map (·.xs) = risL xs k ∧ New w.heap.size (fp L cs) ∧ Below w.heap.size w wr) (fun _ i _ => n - (intOf i).toNat)
  case atStart => exact ⟨0, [], [], _, _, _, by omega, rfl, rfl, OwG.bare _ _ _ _, rfl, fun _ h => by simp [fp] at h, (Below.refl _ _).alloc (Nat.le_refl _) _⟩
  case round =>
    obtain ⟨k, L, cs, la, m, lc, hk, rfl, rfl, og, hex, hnew, hb⟩ := hrel
    have hcap := hr.le
    have hcm := hr.max
    unfold maxLen at hcm
    by_cases hlt : k < n
    · obtain ⟨b, off, rfl, hbl, hc⟩ := (hr.below hb).int (by omega)
      have c1 := hc k hlt
      have c2 := hc (k - 1) (by omega)
      clear hc
      have hml : m = runsTo xs k := by rw [← risL_len, ← hex, List.length_map, og.len]
      have hmk : m ≤ k := by rw [hml]; exact runsTo_le xs k
      have hmp : k ≠ 0 → 0 < m := fun h => by rw [hml]; exact runsTo_pos xs k (by omega)
      have HEX := Lib.hid hex
      have hsz := hb.size
      have hcl : cs.length = m := og.len
      have HCL := Lib.hid hcl
      have hll : (risL xs k).length = m := by rw [risL_len, ← hml]
      have HLL := Lib.hid hll
      clear hex hml hcl hll
      by_cases hst : starts xs k
      · have HST := Lib.hid hst
        rcases (show k = 0 ∨ (k ≠ 0 ∧ nth xs k < nth xs (k - 1)) from by unfold starts at hst; omega) with h0 | ⟨h0, h1⟩
        · have hk0 : ((k : Int) == 0) = true := by simp [h0]
          have H0 := Lib.hid h0
          clear h0 hst
          go_wp2_with (first | ((with_reducible show wpList _ _ _ (⟨some 28, _, _, _, _, _⟩ :: _) _ _); refine wpList_app _ rfl _ _ 32 rfl 22 Try.underlying32 infoSl rfl rfl rfl ((og.alloc _).alloc _).row (Rd.one' _ _ _ _ (by simp)) (one_slice _ _ _) (by omega) (by unfold maxLen; omega) ?_; intro a1 cap1 L1 w1 ow1 kp1 st1; obtain ⟨g, rfl, rfl, og2, nw2, bl2, hcc, hcf, hgl⟩ := og.pushNew hnew hb hsz (c := ⟨[], some ⟨wr.heap.size, 0, none⟩, 0, 0, []⟩) (Ow.bare _ _ _) (fun _ h => by cases h) ow1 kp1 st1; clear ow1 kp1 st1) | ((with_reducible show wpList _ _ _ (⟨some 41, _, _, _, _, _⟩ :: _) _ _); refine wpList_app _ rfl _ _ 22 rfl 3 Try.underlying22 infoInt rfl rfl rfl (Ow.bare _ 3 _) (Rd.one _ _ _) (one_int _) (by omega) (by unfold maxLen; omega) ?_; intro a2 cap2 L2 w2 ow2 kp2 st2; obtain ⟨hc3, hf3, og3, nw3, bl3⟩ := og2.appAt nw2 bl2 bl2.size (j := m) (c := ⟨[], some ⟨wr.heap.size, 0, none⟩, 0, 0, []⟩) (by rw [List.getElem?_append_right (by rw [HCL.out]; exact Nat.le_refl _), HCL.out, Nat.sub_self]; rfl) ow2 kp2 st2; clear ow2 kp2 st2))
          go_roundw
          case rel => exact ⟨k + 1, _, _, _, _, _, by omega, by go_num, rfl, og3, by rw [risL_hit HST.out]; exact map_addL (by simp [HEX.out]) (by simp [HLL.out]) (by rw [List.getElem?_append_right (by rw [HCL.out]; exact Nat.le_refl _), HCL.out, Nat.sub_self]; rfl) rfl, nw3, bl3⟩
          case measure => simp [intOf]; omega
        · clear hst
          go_wp2_with (first | ((with_reducible show wpList _ _ _ (⟨some 28, _, _, _, _, _⟩ :: _) _ _); refine wpList_app _ rfl _ _ 32 rfl 22 Try.underlying32 infoSl rfl rfl rfl ((og.alloc _).alloc _).row (Rd.one' _ _ _ _ (by simp)) (one_slice _ _ _) (by omega) (by unfold maxLen; omega) ?_; intro a1 cap1 L1 w1 ow1 kp1 st1; obtain ⟨g, rfl, rfl, og2, nw2, bl2, hcc, hcf, hgl⟩ := og.pushNew hnew hb hsz (c := ⟨[], some ⟨wr.heap.size, 0, none⟩, 0, 0, []⟩) (Ow.bare _ _ _) (fun _ h => by cases h) ow1 kp1 st1; clear ow1 kp1 st1) | ((with_reducible show wpList _ _ _ (⟨some 41, _, _, _, _, _⟩ :: _) _ _); refine wpList_app _ rfl _ _ 22 rfl 3 Try.underlying22 infoInt rfl rfl rfl (Ow.bare _ 3 _) (Rd.one _ _ _) (one_int _) (by omega) (by unfold maxLen; omega) ?_; intro a2 cap2 L2 w2 ow2 kp2 st2; obtain ⟨hc3, hf3, og3, nw3, bl3⟩ := og2.appAt nw2 bl2 bl2.size (j := m) (c := ⟨[], some ⟨wr.heap.size, 0, none⟩, 0, 0, []⟩) (by rw [List.getElem?_append_right (by rw [HCL.out]; exact Nat.le_refl _), HCL.out, Nat.sub_self]; rfl) ow2 kp2 st2; clear ow2 kp2 st2))
          go_roundw
          case rel => exact ⟨k + 1, _, _, _, _, _, by omega, by go_num, rfl, og3, by rw [risL_hit HST.out]; exact map_addL (by simp [HEX.out]) (by simp [HLL.out]) (by rw [List.getElem?_append_right (by rw [HCL.out]; exact Nat.le_refl _), HCL.out, Nat.sub_self]; rfl) rfl, nw3, bl3⟩
          case measure => simp [intOf]; omega
      · have HST := Lib.hid hst
        have hk0 : ((k : Int) == 0) = false := by have : k ≠ 0 := fun e => hst (.inl e); simp; omega
        have hge : ¬ nth xs k < nth xs (k - 1) := fun e => hst (.inr e)
        have hmp' := hmp (fun e => hst (.inl e))
        clear hst hmp
        obtain ⟨g, rfl, rfl, hgl, hgc, hgf⟩ := og.addr hmp'
        obtain ⟨⟨cL, ca, cn, cc, cx⟩, hcj⟩ : ∃ c, cs[m - 1]? = some c := ⟨_, List.getElem?_eq_getElem (by rw [HCL.out]; omega)⟩
        have hcc := hgc _ _ hcj
        have hic := og.cells _ (List.mem_of_getElem? hcj)
        have hcn : cn ≤ k := by
          have h1 : cx.length = cn := hic.lens
          have h2 := risL_rows xs k cx (by rw [← HEX.out]; exact List.mem_map.2 ⟨_, List.mem_of_getElem? hcj, rfl⟩)
          omega
        have HCJ := Lib.hid hcj
        clear hcj hgc
        go_wp2_with ((with_reducible show wpList _ _ _ (⟨some 41, _, _, _, _, _⟩ :: _) _ _); refine wpList_app _ rfl _ _ 22 rfl 3 Try.underlying22 infoInt rfl rfl rfl (hic.alloc _) (Rd.one _ _ _) (one_int _) (by omega) (by unfold maxLen; omega) ?_; intro a2 cap2 L2 w2 ow2 kp2 st2; obtain ⟨hc3, hf3, og3, nw3, bl3⟩ := og.appAt hnew hb hsz HCJ.out ow2 kp2 st2; clear ow2 kp2 st2)
        go_roundw
        case rel => exact ⟨k + 1, _, _, _, _, _, by omega, by go_num, rfl, og3, by rw [risL_miss HST.out]; exact map_addL HEX.out (by rw [HLL.out]; omega) HCJ.out rfl, nw3, bl3⟩
        case measure => simp [intOf]; omega
    · obtain rfl : k = n := by omega
      go_wp2
      go_ret
      exact ⟨_, _, _, rfl, ⟨L, cs, og, hex, hnew⟩, hb⟩

end Go.Proofs.Ytaffokicnabkiaa

/- Putting and taking as a word says: the program's and the reference's. No condition but lengths. -/
import Derived.Test.YtiiijijbkacneaaWordL
import Derived.Test.YtiiijijbkacneaaPerm
import Derived.Test.YtiiijijbkacneaaFlip
import Derived.Deep.RegionLaw
namespace Go.Proofs.Ytiiijijbkacneaa
open Go.RowKit
set_option linter.unusedVariables false
set_option linter.unusedSimpArgs false






















































































































































set_option maxHeartbeats 2000000 in
theorem ci_RunWord (a : Option Addr) (n cap : Nat) (xs : List Int) (ws : ByteArray) (w : World) (hr : RdI w a n cap xs) (hw : ws.size ≤ 1048576) :
    Calls Try.prog 16 #[.slice a n cap, .string ws] w fun e w' => ∃ sa sn sc, e = .returned (.tuple #[.slice sa sn sc, .bool (rwB xs ws)]) ∧ OwI w' 3 w.heap.size sa sn sc (rwV xs ws) ∧ sn ≤ 1048576 ∧ Below w.heap.size w w' := by
  have HL := Lib.hid hr.lens
  cases hp : isPerm xs
  · have HV := Lib.hid (rwE_none (rwE_perm (ws := ws) hp))
    go_enter Try.func16, Try.ntmps16
    go_wp2_with (go_at_call 32; refine (c_isShortOrder _ _ _ _ _ hr).mono ?_; rw [hp]; rintro e w' ⟨rfl, hb⟩)
    go_ret2
    exact ⟨_, _, _, by rw [HV.out.2]; rfl, by rw [HV.out.1]; exact ⟨[], Ow.bare _ _ _, fun _ h => by cases h⟩, by omega, by assumption⟩
  have hn := isPerm_len hp
  have HP := Lib.hid hp
  rw [HL.out] at hn
  go_enter Try.func16, Try.ntmps16
  go_wp2_with fail
  refine (c_isShortOrder _ _ _ _ _ hr).mono ?_
  rw [hp]
  rintro e w1 ⟨rfl, hb0⟩
  clear hp
  go_wp2_with fail
  go_loopw [0, 6, 7, 16] (fun l o s i wr => ∃ k : Nat, ∃ z : WS, ∃ la lc M oa on oc L sa sn sc, k ≤ ws.size ∧ i = .int .i64 k ∧ l = .slice la (n - z.next) lc ∧ o = .slice oa on oc ∧ s = .slice sa sn sc ∧ rwS xs ws k = some z ∧ RdI wr la (n - z.next) lc (xs.drop z.next) ∧ (∀ ad, la = some ad → ad.block < w1.heap.size ∨ n ≤ z.next) ∧ Ow wr 3 M oa on oc (ints z.out) ∧ Ow wr 3 L sa sn sc (ints z.st.reverse) ∧ New w1.heap.size M ∧ New w1.heap.size L ∧ Apart M L ∧ Below w1.heap.size w1 wr) (fun _ _ _ i _ => ws.size - (intOf i).toNat)
  case atStart =>
    refine ⟨0, ⟨[], [], 0⟩, a, cap, [], _, _, _, [], _, _, _, by omega, rfl, rfl, rfl, rfl, rfl, ?_, fun ad had => ?_, Ow.bare _ _ _, Ow.bare _ _ _, fun _ h => (by cases h), fun _ h => (by cases h), fun _ h => (by cases h), ((Below.refl _ _).alloc (Nat.le_refl _) _).alloc (by simp) _⟩
    · exact ((hr.below hb0).keep (Keeps.alloc [] _ _) (fun _ _ h => by cases h)).keep (Keeps.alloc [] _ _) (fun _ _ h => by cases h)
    · rcases Nat.eq_zero_or_pos n with h0 | h0
      · exact .inr (by omega)
      · obtain ⟨b, off, e, hb, _⟩ := (hr.below hb0).int h0
        rw [e] at had
        simp only [Option.some.injEq] at had
        subst had
        exact .inl hb
  case round =>
    obtain ⟨k, ⟨out, st, j⟩, la, lc, M, oa, on, oc, L, sa, sn, sc, hk, rfl, rfl, rfl, rfl, hrw, hl, hla, hout, hst, hnm, hnl, hap, hb⟩ := hrel
    simp only at hout hst hl hla
    have hsz := hb.size
    have hlen := rwS_len hrw
    simp only at hlen
    rw [HL.out] at hlen
    have hon : out.length = on := hout.lens
    have hsn : st.reverse.length = sn := hst.lens
    rw [List.length_reverse] at hsn
    have hon8 : on ≤ 8 := by omega
    have hsn8 : sn ≤ 8 := by omega
    have hjn : j ≤ n := by omega
    have HRW := Lib.hid hrw
    have HSN := Lib.hid hsn
    have HLEN := Lib.hid hlen
    have HON := Lib.hid hon
    have HLA := Lib.hid hla
    clear hrw hlen hon hsn hla
    by_cases hlt : k < ws.size
    · have hix := fun w' => run_bt (P := Try.prog) 9 Try.underlying9 ws k hlt w'
      by_cases h112 : bt ws k = 112 ∧ j < n
      · have e1 : (bt ws k == 112) = true := by simp [h112.1]
        have hjlt := h112.2
        obtain ⟨b, off, rfl, hbl, hc⟩ := hl.int (by omega)
        have c1 := hc 0 (by omega)
        have ej : nth (xs.drop j) 0 = nth xs j := by rw [nth_dropL, Nat.add_zero]
        rw [ej, Nat.add_zero] at c1
        have hbw : b < w1.heap.size := by
          rcases HLA.out _ rfl with h | h
          · exact h
          · omega
        have hlc := hl.le
        have hlm := hl.max
        unfold maxLen at hlm
        have HPUT := Lib.hid (rwS_put HRW.out h112.1 (by rw [HL.out]; exact hjlt))
        have hs0 : (0 : Int) < ((n - j : Nat) : Int) := by omega
        have HLR := Lib.hid hl
        have hb8 : (sn + 1) * 8 ≤ 140737488355328 := by omega
        have hb9 : sn + 1 ≤ maxLen := by unfold maxLen; omega
        have hi1 : (1 : Int) ≤ (lc : Int) := by omega
        have hi2 : (1 : Int) ≤ ((n - j : Nat) : Int) := by omega
        clear hc h112 ej hl
        go_wp2_with fail
        go_region_law (refine step_appG rfl (.tmp 29) (.tmp 33) 24 rfl 3 Try.underlying24 infoInt rfl (by simp [Act.eval, Act.put]) (by simp [Act.eval, Act.put]) (xa := some ⟨wr.heap.size, 0, none⟩) (m := 1) (xcap := 1) (hst.alloc _).drew (Rd.one _ _ _).drew (one_int (nth xs j)) hb8 hb9 ?_; intro a5 cap5 L5 w5 hc5 ow5 kp5 st5)
        have hcut : RdI wr (if lc = 1 then some ⟨b, off, none⟩ else some ⟨b, off + 1, none⟩) (n - j - 1) (lc - 1) (xs.drop (j + 1)) := by
          have h := HLR.out.from 1 (by omega)
          rw [ints_drop, List.drop_drop] at h
          have h2 : cutAt lc 1 (some (⟨b, off, none⟩ : Addr)) = if lc = 1 then some ⟨b, off, none⟩ else some ⟨b, off + 1, none⟩ := by unfold cutAt; rw [Option.map_some, Addr.add_lit]
          rw [h2] at h
          exact h
        have hblk : ∀ ad, (if lc = 1 then some (⟨b, off, none⟩ : Addr) else some ⟨b, off + 1, none⟩) = some ad → ad.block = b := fun ad had => by
          split at had <;> (simp only [Option.some.injEq] at had; subst had; rfl)
        have hcut5 := ((hcut.keep (Keeps.alloc [] _ _) (fun _ _ h => by cases h)).drew).keep kp5 (fun ad had hm => by have h1 := hblk ad had; have h2 := hnl _ hm; omega)
        have n5 : New w1.heap.size L5 := st5.new hnl (by simp [World.drew]; omega)
        have b5 : Below w1.heap.size w1 w5 := kp5.below ((hb.alloc hsz _).trans (below_drewN (Below.refl _ _) 1)) hnl (by simp [World.drew]; omega)
        have hout5 := ((hout.alloc (.cells #[.int .i64 (nth xs j)] 3)).drew).keep kp5 hap
        have hap5 := (Apart.step hap.symm st5 ((hout.alloc (.cells #[.int .i64 (nth xs j)] 3)).drew).old).symm
        go_wp2_with fail
        go_roundw
        case rel => exact ⟨k + 1, _, _, lc - 1, M, oa, on, oc, L5, a5, _, cap5, by omega, by go_num, rfl, rfl, rfl, HPUT.out, hcut5, fun ad had => .inl (by have := hblk ad had; omega), hout5, by rw [List.reverse_cons, ← ints_snoc]; exact ow5, hnm, n5, hap5, b5⟩
        case measure => simp [intOf]; omega
      · by_cases h116 : bt ws k = 116 ∧ st ≠ []
        · have e1 : (bt ws k == 112) = false := by simp; omega
          have e2 : (bt ws k == 116) = true := by simp [h116.1]
          have H116 := Lib.hid h116
          clear h112 h116
          cases st with
          | nil => exact absurd rfl H116.out.2
          | cons y st =>
            have HTAKE := Lib.hid (rwS_take HRW.out H116.out.1)
            obtain ⟨m, rfl⟩ : ∃ m, sn = m + 1 := ⟨st.length, by have := HSN.out; simp at this; omega⟩
            have hm : st.length = m := by have := HSN.out; simpa using this
            obtain ⟨g, rfl, rfl, _, hsc, _⟩ := hst.int (by have := hst.le; omega)
            have c2 := hsc m (by omega)
            have e2' : nth (y :: st).reverse m = y := by rw [← hm, nth_top]
            rw [e2'] at c2
            have HM := Lib.hid hm
            have hwm : IntKind.i64.wrap (m : Int) = (m : Int) := by rw [IntKind.wrap_i64]; omega
            have hlt1 : (m : Int) < (m : Int) + 1 := by omega
            have hle := hst.le
            have him : (m : Int) ≤ (sc : Int) := by omega
            have hb8 : (on + 1) * 8 ≤ 140737488355328 := by omega
            have hb9 : on + 1 ≤ maxLen := by unfold maxLen; omega
            clear hsc e2' hm
            go_wp2_with fail
            go_region_law (refine step_appG rfl (.tmp 47) (.tmp 54) 24 rfl 3 Try.underlying24 infoInt rfl (by simp [Act.eval, Act.put]) (by simp [Act.eval, Act.put]) (xa := some ⟨wr.heap.size, 0, none⟩) (m := 1) (xcap := 1) (hout.alloc _).drew (Rd.one _ _ _).drew (one_int y) hb8 hb9 ?_; intro a5 cap5 L5 w5 hc5 ow5 kp5 st5)
            have hout2 := ((hout.alloc (.cells #[.int .i64 y] 3)).drew)
            have hst2 := ((hst.alloc (.cells #[.int .i64 y] 3)).drew)
            have n5 : New w1.heap.size L5 := st5.new hnm (by simp [World.drew]; omega)
            have b5 : Below w1.heap.size w1 w5 := kp5.below ((hb.alloc hsz _).trans (below_drewN (Below.refl _ _) 1)) hnm (by simp [World.drew]; omega)
            have h6 := (hst2.keep kp5 hap.symm.symm.symm).head m (by omega)
            rw [ints_take, ← HM.out, rev_pop, HM.out] at h6
            have hl5 : RdI w5 la (n - j) lc (xs.drop j) := by
              by_cases hjn2 : j < n
              · exact ((hl.keep (Keeps.alloc [] _ _) (fun _ _ h => by cases h)).drew).keep kp5 (fun ad had hm => by
                  rcases HLA.out ad had with h1 | h1
                  · have h2 := hnm _ hm; omega
                  · omega)
              · exact ⟨hl.len, hl.le, hl.max, fun hp => by omega⟩
            have hap5 := Apart.step hap st5 hst2.old
            go_wp2_with fail
            go_roundw
            case rel => exact ⟨k + 1, _, la, lc, L5, a5, _, cap5, [g], _, m, sc, by omega, by go_num, rfl, rfl, rfl, HTAKE.out, hl5, HLA.out, by rw [← ints_snoc]; exact ow5, h6, n5, hnl, hap5, b5⟩
            case measure => simp [intOf]; omega
        · have HV := Lib.hid (rwE_none (rwE_bad (by omega) (rwS_bad HRW.out (by rw [HL.out]; exact h112) h116)))
          have H112 := Lib.hid h112
          have H116 := Lib.hid h116
          clear h112 h116
          have hs2 : bt ws k = 116 → sn = 0 := fun e => by
            have := HSN.out
            cases st with
            | nil => simpa using this.symm
            | cons y st => exact absurd ⟨e, by simp⟩ H116.out
          have hj2 : bt ws k = 112 → n - j = 0 := fun e => by
            rcases Nat.lt_or_ge j n with h | h
            · exact absurd ⟨e, h⟩ H112.out
            · omega
          have HS2 := Lib.hid hs2
          have HJ2 := Lib.hid hj2
          clear hs2 hj2
          by_cases h1 : bt ws k = 112
          · have e1 : (bt ws k == 112) = true := by simp [h1]
            have e2 : (bt ws k == 116) = false := by simp; omega
            have e3 := HJ2.out h1
            generalize n - j = nj at e3
            subst e3
            clear h1
            go_wp2_with fail
            go_ret2
            exact ⟨_, _, _, by rw [HV.out.2]; rfl, by rw [HV.out.1]; exact ⟨[], Ow.bare _ _ _, fun _ h => by cases h⟩, by omega, Below.nx hb0 hb⟩
          · have e1 : (bt ws k == 112) = false := by simpa using h1
            by_cases h2 : bt ws k = 116
            · have e2 : (bt ws k == 116) = true := by simp [h2]
              obtain rfl := HS2.out h2
              clear h1 h2
              go_wp2_with fail
              go_ret2
              exact ⟨_, _, _, by rw [HV.out.2]; rfl, by rw [HV.out.1]; exact ⟨[], Ow.bare _ _ _, fun _ h => by cases h⟩, by omega, Below.nx hb0 hb⟩
            · have e2 : (bt ws k == 116) = false := by simpa using h2
              clear h1 h2
              go_wp2_with fail
              go_ret2
              exact ⟨_, _, _, by rw [HV.out.2]; rfl, by rw [HV.out.1]; exact ⟨[], Ow.bare _ _ _, fun _ h => by cases h⟩, by omega, Below.nx hb0 hb⟩
    · obtain rfl : k = ws.size := by omega
      by_cases h1 : j < n
      · have HV := Lib.hid (rwE_none (rwE_size (xs := xs) (ws := ws) (by rw [HL.out]; have := HLEN.out; omega)))
        have e1 : (0 : Int) < ((n - j : Nat) : Int) := by omega
        go_wp2_with fail
        go_ret2
        exact ⟨_, _, _, by rw [HV.out.2]; rfl, by rw [HV.out.1]; exact ⟨[], Ow.bare _ _ _, fun _ h => by cases h⟩, by omega, Below.nx hb0 hb⟩
      · have e0 : n - j = 0 := by omega
        by_cases h2 : 0 < sn
        · have HV := Lib.hid (rwE_none (rwE_size (xs := xs) (ws := ws) (by rw [HL.out]; have := HLEN.out; have := HSN.out; omega)))
          have e2 : (0 : Int) < (sn : Int) := by omega
          go_wp2_with fail
          go_ret2
          exact ⟨_, _, _, by rw [HV.out.2]; rfl, by rw [HV.out.1]; exact ⟨[], Ow.bare _ _ _, fun _ h => by cases h⟩, by omega, Below.nx hb0 hb⟩
        · obtain rfl : sn = 0 := by omega
          have HV := Lib.hid (rwE_some (rwE_end HP.out HRW.out (by rw [HL.out]; have := HLEN.out; have := HSN.out; omega)))
          go_wp2_with fail
          go_ret2
          exact ⟨_, _, _, by rw [HV.out.2]; rfl, by rw [HV.out.1]; exact ⟨M, hout, hnm.mono hb0.size⟩, by omega, Below.nx hb0 hb⟩


end Go.Proofs.Ytiiijijbkacneaa

/- How many orders a stack can sort: the program's count over all orders, the reference's sums. No condition. -/
import Derived.Test.YtiiijijbkacneaaCountL
import Derived.Test.YtiiijijbkacneaaGrid
import Derived.Test.YtiiijijbkacneaaTurn
import Derived.Test.YtiiijijbkacneaaDrew
namespace Go.Proofs.Ytiiijijbkacneaa
open Go.RowKit
set_option linter.unusedVariables false
set_option linter.unusedSimpArgs false

theorem infoSlC : (Try.prog.info? 24).map (fun i => (i.zero, i.size, i.bytes)) = some (some (.slice none 0 0), 1, 24) := by kernel_rfl
theorem New.pushC {B : Nat} {w : World} {L L' : List Nat} {cs : List Cell} {c : Cell} (h : New B (fp L cs)) (hc : New B c.L) (s : Step w L L') (hB : B ≤ w.heap.size) : New B (fp L' (cs ++ [c])) := fun i hi => by
  rcases mem_fp.1 hi with h1 | ⟨d, hd, h1⟩
  · rcases s i h1 with h2 | h2
    · exact h i (mem_fp.2 (.inl h2))
    · omega
  · rcases List.mem_append.1 hd with h2 | h2
    · exact h i (mem_fp.2 (.inr ⟨d, h2, h1⟩))
    · simp at h2; subst h2; exact hc i h1


theorem c_Idx (a : Option Addr) (n cap : Nat) (x : Int) (xs : List Int) (w : World) (hr : RdI w a n cap xs) :
    Calls Try.prog 68 #[.slice a n cap, .int .i64 x] w fun e w' => (∃ v : Int, e = .returned (.int .i64 v) ∧ (0 ≤ v ↔ ∃ j, j < n ∧ nth xs j = x)) ∧ w = w' := by
  have hcap := hr.le
  have hmx := hr.max
  unfold maxLen at hmx
  have HR := Lib.hid hr
  go_enter Try.func68, Try.ntmps68
  go_wp2
  go_loop [8] (fun i => ∃ k : Nat, k ≤ n ∧ i = .int .i64 k ∧ ∀ j, j < k → nth xs j ≠ x) (fun i => n - (intOf i).toNat)
  case atStart => exact ⟨0, by omega, rfl, fun j h => by omega⟩
  case round =>
    obtain ⟨k, hk, rfl, hno⟩ := hrel
    have HNO := Lib.hid hno
    clear hno
    by_cases hlt : k < n
    · obtain ⟨b, off, rfl, _, hc⟩ := HR.out.int (by omega)
      have c1 := hc k hlt
      clear hc
      by_cases he : nth xs k = x
      · have h2 : (x == nth xs k) = true := by simp [he]
        have HE := Lib.hid he
        clear he
        go_wp2
        go_ret
        exact ⟨⟨k, rfl, fun _ => ⟨k, hlt, HE.out⟩, fun _ => by omega⟩, rfl⟩
      · have h2 : (x == nth xs k) = false := by simp; exact fun e => he e.symm
        have HE := Lib.hid he
        clear he
        go_wp2
        go_round
        case rel => exact ⟨k + 1, by omega, by go_num, fun j hj => by
          rcases Nat.lt_or_ge j k with h | h
          · exact HNO.out j h
          · obtain rfl : j = k := by omega
            exact HE.out⟩
        case measure => simp [intOf]; omega
    · obtain rfl : k = n := by omega
      go_wp2
      go_ret
      exact ⟨⟨-1, rfl, fun h => by omega, fun ⟨j, h1, h2⟩ => absurd h2 (HNO.out j h1)⟩, rfl⟩

theorem c_Contains (b : Bool) (a : Option Addr) (n cap : Nat) (x : Int) (xs : List Int) (w : World) (hr : RdI w a n cap xs) (hb : b = true ↔ ∃ j, j < n ∧ nth xs j = x) :
    Calls Try.prog 61 #[.slice a n cap, .int .i64 x] w fun e w' => e = .returned (.bool b) ∧ w = w' := by
  go_enter Try.func61, Try.ntmps61
  go_wp2_with fail
  refine (c_Idx a n cap x xs _ hr).mono ?_
  rintro e w' ⟨⟨v, rfl, hv⟩, rfl⟩
  have hd : decide (0 ≤ v) = b := by
    cases b
    · exact decide_eq_false (fun h => by have := hb.2 (hv.1 h); cases this)
    · exact decide_eq_true (hv.2 (hb.1 rfl))
  have HD := Lib.hid hd
  clear hd hv hb
  go_wp2_with fail
  go_ret
  exact ⟨by rw [← HD.out]; rfl, rfl⟩



set_option maxHeartbeats 2000000 in
theorem c_orders (n : Nat) (w : World) (hn : n ≤ 8) :
    Calls Try.prog 41 #[.int .i64 n] w fun e w' => ∃ la ln lc, e = .returned (.slice la ln lc) ∧ RdG w' la ln lc ((ordN n n).map toI) ∧ Below w.heap.size w w' := by
  go_enter Try.func41, Try.ntmps41
  go_wp2
  have og0 : OwG ((w.alloc (.cells #[] 3)).alloc (.cells #[.slice (some ⟨w.heap.size, 0, none⟩) 0 0] 24)) 24 3 [w.heap.size + 1] (some ⟨w.heap.size + 1, 0, none⟩) 1 1 [⟨[], some ⟨w.heap.size, 0, none⟩, 0, 0, []⟩] := by
    refine ⟨?_, fun c hc => ?_, fun c hc => ?_, by simp⟩
    · have h := Ow.new' (w.alloc (.cells #[] 3)) 24 #[.slice (some ⟨w.heap.size, 0, none⟩) 0 0] 1 [.slice (some ⟨w.heap.size, 0, none⟩) 0 0] rfl rfl (by unfold maxLen; omega)
      simpa [Cell.val] using h
    · simp at hc; subst hc; exact Ow.bare _ _ _
    · simp at hc; subst hc; exact fun _ _ h => by cases h
  go_loopw [3, 11] (fun l i wr => ∃ k : Nat, ∃ L cs la ln lc, k ≤ n ∧ i = .int .i64 k ∧ l = .slice la ln lc ∧ OwG wr 24 3 L la ln lc cs ∧ cs.map (·.xs) = (ordN n k).map toI ∧ New w.heap.size (fp L cs) ∧ Below w.heap.size w wr) (fun _ i _ => n - (intOf i).toNat)
  case atStart => exact ⟨0, _, _, _, _, _, by omega, rfl, rfl, og0, rfl, (fun i hi => by simp [fp] at hi; omega), ((Below.refl _ _).alloc (Nat.le_refl _) _).alloc (by simp) _⟩
  case round =>
    clear og0
    obtain ⟨k, L, cs, la, ln, lc, hk, rfl, rfl, og, hex, hnew, hb⟩ := hrel
    have hll : (ordN n k).length = ln := by
      have h := congrArg List.length hex
      simp only [List.length_map] at h
      rw [← h, og.len]
    have HLL := Lib.hid hll
    have HEX := Lib.hid hex
    clear hll hex
    have hszk := hb.size
    by_cases hlt : k < n
    · have hbig := ordN_big n k hn (by omega)
      rw [HLL.out] at hbig
      have hrows := Lib.hid (ordN_row n k)
      have hrd : RdG wr la ln lc ((ordN n k).map toI) := by rw [← HEX.out]; exact og.rd
      go_wp2_with fail
      obtain ⟨wq, rfl⟩ : ∃ wq : World, wq = wr := ⟨_, rfl⟩
      go_loopw [4, 16] (fun l i wr => ∃ q : Nat, ∃ L2 cs2 la2 n2 lc2, q ≤ ln ∧ i = .int .i64 q ∧ l = .slice la2 n2 lc2 ∧ OwG wr 24 3 L2 la2 n2 lc2 cs2 ∧ cs2.map (·.xs) = (ordTo n (ordN n k) q).map toI ∧ New wq.heap.size (fp L2 cs2) ∧ Below wq.heap.size wq wr) (fun _ i _ => ln - (intOf i).toNat)
      case atStart => exact ⟨0, [], [], _, _, _, by omega, rfl, rfl, OwG.bare _ _ _ _, rfl, (fun i hi => by simp [fp] at hi), (Below.refl _ _).alloc (Nat.le_refl _) _⟩
      case round =>
        obtain ⟨q, L2, cs2, la2, n2, lc2, hq, rfl, rfl, og2, hex2, hnew2, hbq⟩ := hrel
        have HEX2 := Lib.hid hex2
        clear hex2
        by_cases hqn : q < ln
        · obtain ⟨b, off, ra, rn, rc, rfl, hbl, hcell0, hrow⟩ := hrd.at' hqn
          have hcell := (hbq.cell (p := ⟨b, off + q, none⟩) hbl).trans hcell0
          clear hcell0
          obtain ⟨l, hl⟩ : ∃ l, (ordN n k)[q]? = some l := ⟨_, List.getElem?_eq_getElem (by rw [HLL.out]; exact hqn)⟩
          have hlk : l.length = k := hrows.out l (List.mem_of_getElem? hl)
          have hrow' : RdI wq ra rn rc (toI l) := by
            rw [List.getD, List.getElem?_map, hl] at hrow; exact hrow
          obtain rfl : rn = k := by rw [← hrow'.lens]; simpa using hlk
          have HL0 := Lib.hid hl
          have HLK := Lib.hid hlk
          have hlen2 := ordTo_len n (ordN n rn) q (by rw [HLL.out]; omega)
          have hqb : q * n ≤ 16777216 * 8 := Nat.mul_le_mul (by omega) hn
          clear hrow hl hlk
          go_wp2_with fail
          go_loopw [4, 21] (fun o i wr => ∃ c : Nat, ∃ L2 cs2 la2 n2 lc2, c ≤ n ∧ i = .int .i64 c ∧ o = .slice la2 n2 lc2 ∧ OwG wr 24 3 L2 la2 n2 lc2 cs2 ∧ cs2.map (·.xs) = (ordTo n (ordN n rn) q ++ extTo l c).map toI ∧ New wq.heap.size (fp L2 cs2) ∧ Below wq.heap.size wq wr) (fun _ i _ => n - (intOf i).toNat)
          case atStart => exact ⟨0, L2, cs2, la2, n2, lc2, by omega, rfl, rfl, og2, by rw [HEX2.out]; simp [extTo], hnew2, hbq⟩
          case round =>
            clear og2 HEX2 hnew2 hcell hbq
            obtain ⟨c, L2, cs2, la2, n2, lc2, hc, rfl, rfl, og2, hex2, hnew2, hbp⟩ := hrel
            have hn2 : n2 ≤ 16777216 * 8 + 8 := by
              have h := congrArg List.length hex2
              simp only [List.length_map, List.length_append] at h
              have h2 := extTo_len l c
              rw [og2.len] at h
              omega
            have HEX2 := Lib.hid hex2
            clear hex2
            have hszp : wq.heap.size ≤ wr.heap.size := hbp.size
            by_cases hcn : c < n
            · have hrow2 := hrow'.below hbp
              have hiff := memB_iff c l
              rw [HLK.out] at hiff
              cases hm : memB c l
              · have HM := Lib.hid hm
                rw [hm] at hiff
                have HI := Lib.hid hiff
                clear hiff hm
                go_wp2_with (first | (go_at_call 61; refine (c_Contains false ra rn rc c (toI l) _ hrow2 HI.out).mono ?_; rintro e w3 ⟨rfl, rfl⟩) | (go_at_call 36; refine (c_Clone ra rn rc (toI l) _ hrow2 (by omega)).mono ?_; rintro e w4 ⟨ca, cc, rfl, ⟨M1, ho1, hn1⟩, hb1⟩; have og3 := (og2.below hb1).alloc (.cells #[.int .i64 (c : Int)] 3); have ho2 := ho1.alloc (.cells #[.int .i64 (c : Int)] 3)) | ((with_reducible show wpList _ _ _ (⟨some 33, _, _, _, _, _⟩ :: _) _ _); refine wpList_app _ rfl _ _ 24 rfl 3 Try.underlying24 infoInt rfl rfl rfl ho2 (Rd.one' _ _ _ _ (by simp)) (one_int _) (by omega) (by unfold maxLen; omega) ?_; intro a5 cap5 M5 w5 ow5 kp5 st5; have og4 := (og3.keep kp5 (fun i hi hm => by have h1 := og2.old i hi; have h2 := hn1 i hm; omega)).alloc (.cells #[.slice a5 (rn + 1) cap5] 24)) | ((with_reducible show wpList _ _ _ (⟨some 35, _, _, _, _, _⟩ :: _) _ _); refine wpList_app _ rfl _ _ 35 rfl 24 Try.underlying35 infoSlC rfl rfl rfl og4.row (Rd.one' _ _ _ _ (by simp)) (one_slice _ _ _) (by omega) (by unfold maxLen; omega) ?_; intro a6 cap6 L6 w6 ow6 kp6 st6))
                have hs4 := hb1.size
                have hs5 := kp5.size
                simp at hs5
                have n5 : New wr.heap.size M5 := st5.new hn1 (by simp; omega)
                have og6 := og4.push (c := ⟨M5, a5, rn + 1, cap5, toI (l ++ [c])⟩) (by have h := ow5.alloc (.cells #[.slice a5 (rn + 1) cap5] 24); rw [ints_snoc] at h; show Ow _ _ _ _ _ _ (ints (toI (l ++ [c]))); rw [show toI (l ++ [c]) = toI l ++ [(c : Int)] by simp]; exact h) (fun i hi hm => by have h1 := og2.old i hi; have h2 := n5 i hm; omega) ow6 kp6 st6
                have n6 : New wq.heap.size (fp L6 (cs2 ++ [⟨M5, a5, rn + 1, cap5, toI (l ++ [c])⟩])) := hnew2.pushC (n5.mono hszp) st6 (by simp; omega)
                have b4 := Below.nx hbp hb1
                have b5 : Below wq.heap.size wq w5 := kp5.below (b4.alloc b4.size _) (hn1.mono hszp) (by simp; omega)
                have b6 : Below wq.heap.size wq w6 := kp6.below (b5.alloc b5.size _) (fun i hi => hnew2 i (mem_fp.2 (.inl hi))) (by simp; omega)
                go_roundw
                case rel => exact ⟨c + 1, L6, _, a6, _, cap6, by omega, by go_num, rfl, og6, by rw [extTo_yes HM.out, ← List.append_assoc, List.map_append, List.map_append, HEX2.out]; rfl, n6, b6⟩
                case measure => simp [intOf]; omega
              · have HM := Lib.hid hm
                rw [hm] at hiff
                have HI := Lib.hid hiff
                clear hiff hm
                go_wp2_with (go_at_call 61; refine (c_Contains true ra rn rc c (toI l) _ hrow2 HI.out).mono ?_; rintro e w3 ⟨rfl, rfl⟩)
                go_roundw
                case rel => exact ⟨c + 1, L2, cs2, la2, n2, lc2, by omega, by go_num, rfl, og2, by rw [extTo_no HM.out]; exact HEX2.out, hnew2, hbp⟩
                case measure => simp [intOf]; omega
            · obtain rfl : c = n := by omega
              go_wp2_with fail
              go_roundw
              case rel => exact ⟨q + 1, L2, cs2, la2, n2, lc2, by omega, by go_num, rfl, og2, by rw [ordTo_succ HL0.out]; exact HEX2.out, hnew2, hbp⟩
              case measure => simp [intOf]; omega
        · obtain rfl : q = ln := by omega
          go_wp2_with fail
          go_roundw
          case rel => exact ⟨k + 1, L2, cs2, la2, n2, lc2, by omega, by go_num, rfl, og2, by rw [HEX2.out, ← HLL.out, ordTo_all]; rfl, hnew2.mono hszk, Below.nx hb hbq⟩
          case measure => simp [intOf]; omega
    · obtain rfl : k = n := by omega
      go_wp2_with fail
      go_ret
      exact ⟨la, ln, lc, rfl, by rw [← HEX.out]; exact og.rd, hb⟩



theorem ci_CountStackSortable (x : Int) (w : World) :
    Calls Try.prog 18 #[.int .i64 x] w fun e w' => e = .returned (.int .i64 (csV x)) ∧ Below w.heap.size w w' := by
  by_cases h0 : x < 0
  · have HV := Lib.hid (csV_no (n := x) (by omega))
    have hd1 : decide (x < 0) = true := decide_eq_true h0
    go_enter Try.func18, Try.ntmps18
    go_wp2_with fail
    go_ret
    exact ⟨by rw [HV.out]; rfl, Below.refl _ _⟩
  have hd1 : decide (x < 0) = false := decide_eq_false h0
  by_cases h8 : 8 < x
  · have HV := Lib.hid (csV_no (n := x) (by omega))
    have hd2 : decide (8 < x) = true := decide_eq_true h8
    go_enter Try.func18, Try.ntmps18
    go_wp2_with fail
    go_ret
    exact ⟨by rw [HV.out]; rfl, Below.refl _ _⟩
  obtain ⟨n, rfl⟩ : ∃ n : Nat, x = n := ⟨x.toNat, by omega⟩
  have hn : n ≤ 8 := by omega
  have HV := Lib.hid (csV_count hn)
  have hd2 : decide ((8 : Int) < (n : Int)) = false := decide_eq_false h8
  have hbig := ordN_big n n hn hn
  have hrows := Lib.hid (ordN_row n n)
  go_enter Try.func18, Try.ntmps18
  go_wp2_with fail
  refine (c_orders n _ hn).mono ?_
  rintro e w1 ⟨la, ln, lc, rfl, hrd, hb0⟩
  have HLL := Lib.hid (show (ordN n n).length = ln by rw [← hrd.len, List.length_map])
  rw [HLL.out] at hbig
  clear hd1 hd2
  go_wp2_with fail
  go_loopw [3, 15] (fun v i wr => ∃ q : Nat, q ≤ ln ∧ i = .int .i64 q ∧ v = .int .i64 (((ordN n n).take q).countP canN) ∧ Below w1.heap.size w1 wr) (fun _ i _ => ln - (intOf i).toNat)
  case atStart => exact ⟨0, by omega, rfl, by simp, Below.refl _ _⟩
  case round =>
    obtain ⟨q, hq, rfl, rfl, hb⟩ := hrel
    have hcp : ((ordN n n).take q).countP canN ≤ q := Nat.le_trans List.countP_le_length (by rw [List.length_take]; omega)
    by_cases hqn : q < ln
    · obtain ⟨b, off, ra, rn, rc, rfl, hbl, hcell, hrow⟩ := (hrd.below hb).at' hqn
      obtain ⟨l, hl⟩ : ∃ l, (ordN n n)[q]? = some l := ⟨_, List.getElem?_eq_getElem (by rw [HLL.out]; exact hqn)⟩
      have hlk : l.length = n := hrows.out l (List.mem_of_getElem? hl)
      have hrow' : RdI wr ra rn rc (toI l) := by
        rw [List.getD, List.getElem?_map, hl] at hrow; exact hrow
      obtain rfl : rn = n := by rw [← hrow'.lens]; simpa using hlk
      have HS := Lib.hid (show ((ordN rn rn).take (q + 1)).countP canN = ((ordN rn rn).take q).countP canN + if canB (toI l) = true then 1 else 0 by
        rw [List.take_add_one, hl, List.countP_append]
        congr 1
        cases h : canB (toI l) <;> simp [canN, List.countP_singleton, h])
      clear hrow hl hlk
      generalize ((ordN rn rn).take q).countP canN = m at hcp HS ⊢
      go_wp2_with fail
      refine (c_canStackSort ra rn rc (toI l) _ hrow' hn).mono ?_
      cases hcb : canB (toI l)
      · have HS2 := Lib.hid (show ((ordN rn rn).take (q + 1)).countP canN = m by rw [HS.out, hcb]; simp)
        rintro e w3 ⟨rfl, hb3⟩
        clear hcb
        go_wp2_with fail
        go_roundw
        case rel => exact ⟨q + 1, by omega, by go_num, by rw [HS2.out], Below.nx hb hb3⟩
        case measure => simp [intOf]; omega
      · have HS2 := Lib.hid (show ((ordN rn rn).take (q + 1)).countP canN = m + 1 by rw [HS.out, hcb]; simp)
        rintro e w3 ⟨rfl, hb3⟩
        clear hcb
        go_wp2_with fail
        go_roundw
        case rel => exact ⟨q + 1, by omega, by go_num, by rw [HS2.out]; go_num, Below.nx hb hb3⟩
        case measure => simp [intOf]; omega
    · obtain rfl : q = ln := by omega
      have HT := Lib.hid (show ((ordN n n).take q).countP canN = (ordN n n).countP canN by rw [List.take_of_length_le (by rw [HLL.out]; exact Nat.le_refl _)])
      go_wp2_with fail
      go_ret
      exact ⟨by rw [HV.out, ← HT.out]; rfl, Below.nx hb0 hb⟩

































































































end Go.Proofs.Ytiiijijbkacneaa

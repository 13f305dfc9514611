/- All settings of an order of two or four numbers. No condition but sizes. -/
import Derived.Test.YtcfpiblgddihmaaFabV
import Derived.Deep.CutRange
namespace Go.Proofs.Ytcfpiblgddihmaa
open Go.RowKit
set_option linter.unusedVariables false
set_option linter.unusedSimpArgs false

def Dep2 (d n m : Nat) : Prop := (d = 1 ∧ n = 2 ∧ m = 1) ∨ (d = 2 ∧ n = 4 ∧ m = 6)
theorem Dep2.dep {d n m : Nat} (h : Dep2 d n m) : Dep d n m := by
  rcases h with ⟨rfl, rfl, rfl⟩ | ⟨rfl, rfl, rfl⟩
  · exact Or.inl ⟨rfl, rfl, rfl⟩
  · exact Or.inr (Or.inl ⟨rfl, rfl, rfl⟩)
def bitS (m k : Nat) : List Int := (List.range m).map fun i => ((k >>> i % 2 : Nat) : Int)
def bitT (k i : Nat) : Nat := (k >>> i) % 2
def bitP (k : Nat) (m : Nat) : List Int := (List.range m).map fun i => (bitT k i : Int)
theorem bitP_succ (k m : Nat) : bitP k (m + 1) = bitP k m ++ [(bitT k m : Int)] := by simp [bitP, List.range_succ]
theorem bitP_len (k m : Nat) : (bitP k m).length = m := by simp [bitP]
theorem bitP_bits (k m : Nat) : bitsL (bitP k m) := by
  intro i hi
  rw [bitP_len] at hi
  have : nth (bitP k m) i = (bitT k i : Int) := by rw [nth_eq (by rw [bitP_len]; exact hi)]; simp [bitP]
  rw [this]
  have : bitT k i < 2 := Nat.mod_lt _ (by omega)
  omega
def allT (d n m : Nat) (p : List Int) (K : Nat) : List (List Int) := ((List.range K).filter fun k => decide (fabM d (bitP k m) (rangeI n) = p)).map fun k => bitP k m
theorem allT_yes {d n m K : Nat} {p : List Int} (h : fabM d (bitP K m) (rangeI n) = p) : allT d n m p (K + 1) = allT d n m p K ++ [bitP K m] := by
  unfold allT; rw [List.range_succ, List.filter_append, List.map_append]; simp [h]
theorem allT_no {d n m K : Nat} {p : List Int} (h : fabM d (bitP K m) (rangeI n) ≠ p) : allT d n m p (K + 1) = allT d n m p K := by
  unfold allT; rw [List.range_succ, List.filter_append, List.map_append]; simp [h]
theorem allT_len (d n m : Nat) (p : List Int) (K : Nat) : (allT d n m p K).length ≤ K := by
  unfold allT; rw [List.length_map]; exact Nat.le_trans (List.length_filter_le _ _) (by simp)

theorem and_bit : ∀ r : Nat, r < 64 → bits .and .i64 (r : Int) 1 = ((r % 2 : Nat) : Int) := by decide +kernel
theorem shr_bit (K k : Nat) : (K : Int) / 2 ^ k = ((K >>> k : Nat) : Int) := by
  rw [Nat.shiftRight_eq_div_pow, Int.natCast_ediv, Int.natCast_pow]; rfl


set_option maxRecDepth 100000 in
set_option maxHeartbeats 8000000 in
theorem c_allSettings (d n m : Nat) (hd : Dep2 d n m) (a : Option Addr) (cap : Nat) (p : List Int) (w : World) (hr : RdI w a n cap p) :
    Calls Try.prog 34 #[.slice a n cap] w fun e w' => ∃ oa on oc, e = .returned (.slice oa on oc) ∧ Gr w' 23 3 w.heap.size oa on oc (allT d n m p (2 ^ m)) ∧ Below w.heap.size w w' := by
  have hdd := hd.dep
  have C1 := Lib.hid (fun wx => c_switchCount n m wx hdd.sw)
  have C2 := Lib.hid (fun wx => c_wires n wx (by have := hdd.pow; omega))
  have C3 := Lib.hid (fun (sa la : Option Addr) sc lc s l wx hs hb hl => c_fabD d n m hdd sa la sc lc s l wx hs hb hl)
  obtain ⟨M, hM⟩ : ∃ M, 2 ^ m = M := ⟨_, rfl⟩
  have HM := Lib.hid (show wrap64 ((2 : Int) ^ m) = (M : Int) by rw [← hM]; rcases hd with ⟨_, _, rfl⟩ | ⟨_, _, rfl⟩ <;> decide +kernel)
  have hm1 : 1 ≤ m := by rcases hd with h | h <;> omega
  have hm6 : m ≤ 6 := by rcases hd with h | h <;> omega
  have hn4 : n ≤ 4 := by rcases hd with h | h <;> omega
  have hM64 : M ≤ 64 := by rw [← hM]; rcases hd with ⟨_, _, rfl⟩ | ⟨_, _, rfl⟩ <;> decide
  rw [hM]
  clear hM hdd hd
  obtain ⟨wa, hwa⟩ : ∃ wa, w.alloc (.cells #[] 23) = wa := ⟨_, rfl⟩
  have ba : Below w.heap.size w wa := by rw [← hwa]; exact (Below.refl _ _).alloc (Nat.le_refl _) _
  have hwas : w.heap.size ≤ wa.heap.size := ba.size
  have HWA := Lib.hid hwa
  clear hwa
  go_enter Try.func34, Try.ntmps34
  go_wp2_with fail
  rw [HWA.out]
  refine (C1.out _).mono ?_
  rintro e w1 ⟨rfl, b1⟩
  go_wp2_with fail
  rw [HM.out]
  have B1 : Below w.heap.size w w1 := Below.nx ba b1
  clear HM HWA C1 b1
  go_loopw [3, 14] (fun u i wr => ∃ K : Nat, ∃ L cs la q lc, K ≤ M ∧ i = .int .i64 K ∧ u = .slice la q lc ∧ q ≤ K ∧ OwG wr 23 3 L la q lc cs ∧ cs.map (·.xs) = allT d n m p K ∧ New w.heap.size (fp L cs) ∧ Below w.heap.size w wr) (fun _ i _ => M - (intOf i).toNat)
  case atStart => exact ⟨0, [], [], _, _, _, by omega, rfl, rfl, by omega, OwG.bare _ _ _ _, rfl, fun _ h => by simp [fp] at h, B1⟩
  case round =>
    as_aux_lemma =>
    obtain ⟨K, L, cs, la, q, lc, hK, rfl, rfl, hq, og, hex, hnew, hb⟩ := hrel
    by_cases hKM : K < M
    · go_wp2_with fail
      obtain ⟨wo, hwo⟩ : ∃ wo : World, wo = wr := ⟨_, rfl⟩
      subst hwo
      go_loopw [6, 19] (fun u i wr => ∃ k : Nat, ∃ S sa sc, k ≤ m ∧ i = .int .i64 k ∧ u = .slice sa k sc ∧ Ow wr 3 S sa k sc (ints (bitP K k)) ∧ New wo.heap.size S ∧ Below wo.heap.size wo wr) (fun _ i _ => m - (intOf i).toNat)
      case atStart => exact ⟨0, [], _, _, by omega, rfl, rfl, Ow.bare _ _ _, fun _ h => (by cases h), (Below.refl _ _).alloc (Nat.le_refl _) _⟩
      case round =>
        obtain ⟨k, S, sa, sc, hk, rfl, rfl, how, hnS, hbS⟩ := hrel
        by_cases hkm : k < m
        · have hle := how.le
          have hmx := how.max
          unfold maxLen at hmx
          obtain ⟨r, hr1⟩ : ∃ r, K >>> k = r := ⟨_, rfl⟩
          have hrK : r ≤ K := by rw [← hr1, Nat.shiftRight_eq_div_pow]; exact Nat.div_le_self _ _
          have hsr : (K : Int) / 2 ^ k = (r : Int) := by rw [shr_bit, hr1]
          obtain ⟨b, hb1⟩ : ∃ b, r % 2 = b := ⟨_, rfl⟩
          have hsa : bits .and .i64 (r : Int) 1 = (b : Int) := by rw [and_bit r (by omega), hb1]
          have HBT := Lib.hid (show bitP K (k + 1) = bitP K k ++ [(b : Int)] by rw [bitP_succ, bitT, hr1, hb1])
          have how1 := how.alloc (.cells #[.int .i64 (b : Int)] 3)
          clear hr1 hb1
          go_wp2_with ((with_reducible show wpList _ _ _ (⟨some 28, _, _, _, _, _⟩ :: _) _ _); refine wpList_app _ rfl _ _ 23 rfl 3 Try.underlying23 infoInt rfl rfl rfl how1 (Rd.one _ _ _) (one_int _) (by omega) (by unfold maxLen; omega) ?_; intro a5 cap5 L5 w5 ow5 kp5 st5)
          have hbs := hbS.size
          have n5 : New wo.heap.size L5 := st5.new hnS (by simp; omega)
          have b5 : Below wo.heap.size wo w5 := kp5.below (hbS.alloc hbS.size _) hnS (by simp; omega)
          go_roundw
          case rel => exact ⟨k + 1, L5, a5, cap5, by omega, by go_num, rfl, by rw [HBT.out, ← ints_snoc]; exact ow5, n5, b5⟩
          case measure => simp [intOf]; omega
        · obtain rfl : m = k := by omega
          have Bw : Below w.heap.size w wr := Below.nx hb hbS
          have ogw := og.below hbS
          have hpr := hr.below Bw
          go_wp2_with fail
          refine (C2.out _).mono ?_
          rintro e w2 ⟨wa, wc, rfl, ⟨Lw, oww, _⟩, b2⟩
          have K3 := Lib.hid (C3.out sa wa sc wc (bitP K m) (rangeI n) w2 (how.below b2).rd (bitP_bits K m) oww.rd)
          go_wp2_with fail
          refine K3.out.mono ?_
          rintro e w3 ⟨fa, fc, rfl, ⟨Lf, owf, _⟩, b3⟩
          clear K3
          have K4 := c_Equal fa a n fc n cap _ p w3 owf.rd ((hpr.below b2).below b3) (by omega) (by omega)
          have B3 : Below wr.heap.size wr w3 := Below.nx b2 b3
          obtain ⟨v, hv⟩ : ∃ v, decide (fabM d (bitP K m) (rangeI n) = p) = v := ⟨_, rfl⟩
          rw [hv] at K4
          have K4 := Lib.hid K4
          have HV := Lib.hid hv
          clear hv owf oww
          go_wp2_with fail
          refine K4.out.mono ?_
          rintro e w4 ⟨rfl, b4⟩
          clear K4
          have B4 : Below wr.heap.size wr w4 := Below.nx B3 b4
          have Bw4 : Below w.heap.size w w4 := Below.nx Bw B4
          have og4 := ogw.below B4
          have ho4 := how.below B4
          have hex4 := Lib.hid hex
          cases v
          · have HA := Lib.hid (allT_no (d := d) (n := n) (m := m) (K := K) (p := p) (of_decide_eq_false HV.out))
            clear hex
            go_wp2_with fail
            go_roundw
            case rel => exact ⟨K + 1, L, cs, la, q, lc, by omega, by go_num, rfl, by omega, og4, by rw [HA.out]; exact hex4.out, hnew, Bw4⟩
            case measure => simp [intOf]; omega
          · have HA := Lib.hid (allT_yes (d := d) (n := n) (m := m) (K := K) (p := p) (of_decide_eq_true HV.out))
            have hcl := og4.row.le
            have hcm := og4.row.max
            unfold maxLen at hcm
            have hs4 := Bw4.size
            have hos := og.old
            have hw4s := B4.size
            have hwos := hbS.size
            clear hex
            go_wp2_with ((with_reducible show wpList _ _ _ (⟨some 40, _, _, _, _, _⟩ :: _) _ _); refine wpList_app _ rfl _ _ 46 rfl 23 Try.underlying46 infoSl rfl rfl rfl (og4.alloc _).row (Rd.one _ _ _) (one_slice _ _ _) (by omega) (by unfold maxLen; omega) ?_; intro a1 cap1 L1 w5 ow5 kp5 st5)
            have o4 : Old w4 (fp L cs) := og4.old
            have og5 := (og4.alloc (.cells #[.slice sa m sc] 23)).push (c := ⟨S, sa, m, sc, bitP K m⟩) (ho4.alloc _) (fun i hi hm => by have := hos i hi; have := hnS i hm; omega) ow5 kp5 st5
            have n5 : New w.heap.size (fp L1 (cs ++ [⟨S, sa, m, sc, bitP K m⟩])) := by
              intro i hi
              rcases mem_fp.1 hi with h6 | ⟨dd, hd, h6⟩
              · rcases st5 i h6 with h7 | h7
                · exact hnew i (mem_fp.2 (.inl h7))
                · simp at h7; omega
              · rcases List.mem_append.1 hd with h8 | h8
                · exact hnew i (mem_fp.2 (.inr ⟨dd, h8, h6⟩))
                · simp at h8; subst h8; have := hnS i h6; have := hb.size; omega
            have b5 : Below w.heap.size w w5 := kp5.below (Bw4.alloc Bw4.size _) (fun i hi => hnew i (mem_fp.2 (.inl hi))) (by have := Bw4.size; simp; omega)
            go_roundw
            case rel => exact ⟨K + 1, L1, _, a1, q + 1, cap1, by omega, by go_num, rfl, by omega, og5, by rw [HA.out, List.map_append, hex4.out]; rfl, n5, b5⟩
            case measure => simp [intOf]; omega
    · obtain rfl : K = M := by omega
      go_wp2_with fail
      go_ret
      exact ⟨_, _, _, rfl, ⟨L, cs, og, hex, hnew⟩, hb⟩



theorem c_isSmallOrder (n : Nat) (hn : n = 2 ∨ n = 4) (a : Option Addr) (cap : Nat) (p : List Int) (w : World) (hr : RdI w a n cap p) (ho : Order p n) :
    Calls Try.prog 33 #[.slice a n cap] w fun e w' => e = .returned (.bool true) ∧ Below w.heap.size w w' := by
  have C1 := Lib.hid (fun wx => c_isPower n wx (by omega))
  have C2 := c_isOrder a n cap p w hr (by omega)
  rw [ok_of_order ho (by omega)] at C2
  have C2 := Lib.hid C2
  have h4 : n ≤ 4 := by omega
  clear hn ho
  go_enter Try.func33, Try.ntmps33
  go_wp2_with fail
  refine (C1.out _).mono ?_
  rintro e w' ⟨rfl, rfl⟩
  go_wp2_with fail
  refine C2.out.mono ?_
  rintro e w1 ⟨rfl, b1⟩
  go_wp2_with fail
  go_ret
  exact ⟨rfl, b1⟩



theorem c_CountSettings (d n m : Nat) (hd : Dep2 d n m) (a : Option Addr) (cap : Nat) (p : List Int) (w : World) (hr : RdI w a n cap p) (ho : Order p n) :
    Calls Try.prog 15 #[.slice a n cap] w fun e w' => e = .returned (.int .i64 ((allT d n m p (2 ^ m)).length : Nat)) ∧ Below w.heap.size w w' := by
  have C1 := Lib.hid (c_isSmallOrder n (by rcases hd with h | h <;> omega) a cap p w hr ho)
  have C2 := Lib.hid (fun wx (hx : Below w.heap.size w wx) => c_allSettings d n m hd a cap p wx (hr.below hx))
  clear hd ho
  go_enter Try.func15, Try.ntmps15
  go_wp2_with fail
  refine C1.out.mono ?_
  rintro e w1 ⟨rfl, b1⟩
  go_wp2_with fail
  refine (C2.out _ b1).mono ?_
  rintro e w2 ⟨oa, on, oc, rfl, ⟨L, cs, og, hex, _⟩, b2⟩
  have HL := Lib.hid (show (allT d n m p (2 ^ m)).length = on by rw [← hex, List.length_map]; exact og.len)
  clear hex og
  go_wp2_with fail
  go_ret
  exact ⟨by rw [HL.out]; rfl, Below.nx b1 b2⟩


/-- The value at an index, in some of the settings. -/
def crV (xss : List (List Int)) (i : Nat) (x : Int) : Bool := xss.any fun s => nth s i == x

theorem c_CanRoute1 (i m : Nat) (x : Int) (v1 v2 : Nat) (a : Option Addr) (cap : Nat) (s : List Int) (w : World) (hr : RdI w a m cap s) (hi : i < m) (h1 : w.cell? ⟨v1, 0, none⟩ = some (.int .i64 i)) (h2 : w.cell? ⟨v2, 0, none⟩ = some (.int .i64 x)) :
    Calls Try.prog 37 #[.slice a m cap, .pointer (some ⟨v1, 0, none⟩), .pointer (some ⟨v2, 0, none⟩)] w fun e w' => e = .returned (.bool (nth s i == x)) ∧ Below w.heap.size w w' := by
  obtain ⟨b, off, rfl, _, hc⟩ := hr.int (by omega)
  have c1 := hc i hi
  obtain ⟨y, hy⟩ : ∃ y, nth s i = y := ⟨_, rfl⟩
  rw [hy] at c1 ⊢
  clear hc hy
  go_enter Try.func37, Try.ntmps37
  go_wp2_with fail
  go_quiet (fail)
  go_wp2_with fail
  go_ret
  exact ⟨rfl, below_drewN (Below.refl _ _) _⟩



theorem c_IdxG (i m : Nat) (x : Int) (v1 v2 : Nat) (a : Option Addr) (n cap : Nat) (xss : List (List Int)) (w : World) (hr : RdG w a n cap xss) (hl : ∀ s ∈ xss, s.length = m) (hi : i < m) (h1 : w.cell? ⟨v1, 0, none⟩ = some (.int .i64 i)) (h2 : w.cell? ⟨v2, 0, none⟩ = some (.int .i64 x)) (hn : n ≤ 1000) :
    Calls Try.prog 45 #[.slice a n cap, .func (.func 37) #[] #[.pointer (some ⟨v1, 0, none⟩), .pointer (some ⟨v2, 0, none⟩)]] w fun e w' => (∃ z : Int, e = .returned (.int .i64 z) ∧ (decide (0 ≤ z) = crV xss i x)) ∧ Below w.heap.size w w' := by
  have HL := Lib.hid hr.len
  have HS := Lib.hid hl
  have HF := Lib.hid (fun (sa : Option Addr) sc s wx (hx : Below w.heap.size w wx) (hs : RdI wx sa m sc s) => c_CanRoute1 i m x v1 v2 sa sc s wx hs hi ((hx.cell (p := ⟨v1, 0, none⟩) (World.block_lt_of_cell? w _ h1)).trans h1) ((hx.cell (p := ⟨v2, 0, none⟩) (World.block_lt_of_cell? w _ h2)).trans h2))
  clear h1 h2 hl
  go_enter Try.func45, Try.ntmps45
  go_wp2
  go_loopw [8] (fun u wr => ∃ k : Nat, k ≤ n ∧ u = .int .i64 k ∧ (∀ j, j < k → (nth (xss.getD j []) i == x) = false) ∧ Below w.heap.size w wr) (fun u _ => n - (intOf u).toNat)
  case atStart => exact ⟨0, by omega, rfl, fun j h => by omega, Below.refl _ _⟩
  case round =>
    obtain ⟨k, hk, rfl, hall, hb⟩ := hrel
    have HA := Lib.hid hall
    clear hall
    by_cases hlt : k < n
    · obtain ⟨b, off, a', n', cap', rfl, _, hc, hrow⟩ := (hr.below hb).at' hlt
      have hnm : n' = m := by
        have e1 := hrow.lens
        rw [← e1]
        refine HS.out _ ?_
        have : k < xss.length := by rw [HL.out]; exact hlt
        simp [List.getD, this]
      subst hnm
      have K1 := HF.out a' cap' _ wr hb hrow
      cases hv : (nth (xss.getD k []) i == x)
      · rw [hv] at K1
        have K1 := Lib.hid K1
        have HVk := Lib.hid hv
        clear hv hrow
        go_wp2_with fail
        refine K1.out.mono ?_
        rintro e w1 ⟨rfl, b1⟩
        go_wp2_with fail
        go_roundw
        case rel => exact ⟨k + 1, by omega, by go_num, fun j h => by
          by_cases e : j = k
          · rw [e]; exact HVk.out
          · exact HA.out j (by omega), Below.nx hb b1⟩
        case measure => simp [intOf]; omega
      · rw [hv] at K1
        have K1 := Lib.hid K1
        have HVk := Lib.hid (show crV xss i x = true by
          unfold crV
          rw [List.any_eq_true]
          have : k < xss.length := by rw [HL.out]; exact hlt
          exact ⟨xss.getD k [], by simp [List.getD, this], hv⟩)
        clear hv hrow
        go_wp2_with fail
        refine K1.out.mono ?_
        rintro e w1 ⟨rfl, b1⟩
        go_wp2_with fail
        go_ret
        exact ⟨⟨(k : Int), rfl, by rw [HVk.out]; simp⟩, Below.nx hb b1⟩
    · obtain rfl : k = n := by omega
      have HV := Lib.hid (show crV xss i x = false by
        unfold crV
        rw [List.any_eq_false]
        intro s hs
        obtain ⟨j, hj, rfl⟩ := List.mem_iff_getElem.1 hs
        have := HA.out j (by rw [← HL.out]; exact hj)
        simp [List.getD, hj] at this
        simpa using this)
      go_wp2_with fail
      go_ret
      exact ⟨⟨-1, rfl, by rw [HV.out]; rfl⟩, hb⟩



theorem c_ContainsG (i m : Nat) (x : Int) (v1 v2 : Nat) (a : Option Addr) (n cap : Nat) (xss : List (List Int)) (w : World) (hr : RdG w a n cap xss) (hl : ∀ s ∈ xss, s.length = m) (hi : i < m) (h1 : w.cell? ⟨v1, 0, none⟩ = some (.int .i64 i)) (h2 : w.cell? ⟨v2, 0, none⟩ = some (.int .i64 x)) (hn : n ≤ 1000) :
    Calls Try.prog 36 #[.slice a n cap, .func (.func 37) #[] #[.pointer (some ⟨v1, 0, none⟩), .pointer (some ⟨v2, 0, none⟩)]] w fun e w' => e = .returned (.bool (crV xss i x)) ∧ Below w.heap.size w w' := by
  have C1 := Lib.hid (c_IdxG i m x v1 v2 a n cap xss w hr hl hi h1 h2 hn)
  clear hr hl h1 h2
  go_enter Try.func36, Try.ntmps36
  go_wp2_with fail
  refine C1.out.mono ?_
  rintro e w1 ⟨⟨z, rfl, hz⟩, b1⟩
  have HZ := Lib.hid hz
  clear C1 hz
  go_wp2_with fail
  go_ret
  exact ⟨by rw [← HZ.out]; rfl, b1⟩



theorem allT_lens (d n m : Nat) (p : List Int) (K : Nat) : ∀ s ∈ allT d n m p K, s.length = m := by
  intro s hs
  unfold allT at hs
  obtain ⟨k, _, rfl⟩ := List.mem_map.1 hs
  exact bitP_len k m
set_option maxHeartbeats 4000000 in
theorem c_CanRouteWith (d n m : Nat) (hd : Dep2 d n m) (i : Nat) (hi : i < m) (x : Int) (a : Option Addr) (cap : Nat) (p : List Int) (w : World) (hr : RdI w a n cap p) (ho : Order p n) :
    Calls Try.prog 17 #[.slice a n cap, .int .i64 i, .int .i64 x] w fun e w' => e = .returned (.bool (crV (allT d n m p (2 ^ m)) i x)) ∧ Below w.heap.size w w' := by
  have hM64 : 2 ^ m ≤ 64 := by rcases hd with ⟨_, _, rfl⟩ | ⟨_, _, rfl⟩ <;> decide
  have C1 := Lib.hid (fun wx (hx : Below w.heap.size w wx) => c_isSmallOrder n (by rcases hd with h | h <;> omega) a cap p wx (hr.below hx) ho)
  have C2 := Lib.hid (fun wx => c_switchCount n m wx hd.dep.sw)
  have C3 := Lib.hid (fun wx (hx : Below w.heap.size w wx) => c_allSettings d n m hd a cap p wx (hr.below hx))
  have C4 := Lib.hid (fun (la : Option Addr) ln lc wx hg hn h1 h2 => c_ContainsG i m x w.heap.size (w.heap.size + 1) la ln lc (allT d n m p (2 ^ m)) wx hg (allT_lens d n m p _) hi h1 h2 hn)
  have hAL := Lib.hid (allT_len d n m p (2 ^ m))
  have HM := Lib.hid hM64
  generalize allT d n m p (2 ^ m) = xss at C3 C4 hAL
  obtain ⟨w0, hw0⟩ : ∃ w0, (w.alloc (.cells #[.int .i64 i] 3)).alloc (.cells #[.int .i64 x] 3) = w0 := ⟨_, rfl⟩
  have b0 : Below w.heap.size w w0 := by rw [← hw0]; exact ((Below.refl _ _).alloc (Nat.le_refl _) _).alloc (by simp) _
  have hg0 : w0.cell? ⟨w.heap.size, 0, none⟩ = some (.int .i64 i) := by rw [← hw0]; simp
  have hg1 : w0.cell? ⟨w.heap.size + 1, 0, none⟩ = some (.int .i64 x) := by rw [← hw0]; simp
  have hi0 : (0 : Int) ≤ (i : Int) := by omega
  have hi1 : decide ((i : Int) < (m : Int)) = true := decide_eq_true (by omega)
  have hi2 : decide (i < m) = true := decide_eq_true hi
  have HW0 := Lib.hid hw0
  clear hd ho hM64 hw0
  go_enter Try.func17, Try.ntmps17
  go_wp2_with fail
  rw [HW0.out]
  clear HW0
  have b0d : Below w.heap.size w w0.drew := below_drewN b0 1
  go_region_held3 (fun w' => w'.cell? ⟨w.heap.size, 0, none⟩ = some (.int .i64 i) ∧ w'.cell? ⟨w.heap.size + 1, 0, none⟩ = some (.int .i64 x)) (go_keep)
    (first
      | (go_simp; go_at_call 33; refine (C1.out _ b0d).mono ?_; rintro e w1 ⟨rfl, b1⟩; have B1 : Below w.heap.size w w1 := Below.nx b0d b1; have e1 : w1.cell? ⟨w.heap.size, 0, none⟩ = some (.int .i64 i) := (b1.cell (World.block_lt_of_cell? w0 _ hg0)).trans hg0; have e2 : w1.cell? ⟨w.heap.size + 1, 0, none⟩ = some (.int .i64 x) := (b1.cell (World.block_lt_of_cell? w0 _ hg1)).trans hg1)
      | (go_simp; go_at_call 28; refine (C2.out _).mono ?_; rintro e w2 ⟨rfl, b2⟩; have B2 : Below w.heap.size w w2 := Below.nx B1 b2; have e3 : w2.cell? ⟨w.heap.size, 0, none⟩ = some (.int .i64 i) := (b2.cell (World.block_lt_of_cell? w1 _ e1)).trans e1; have e4 : w2.cell? ⟨w.heap.size + 1, 0, none⟩ = some (.int .i64 x) := (b2.cell (World.block_lt_of_cell? w1 _ e2)).trans e2)
      | (go_simp; go_at_call 34; refine (C3.out _ B2).mono ?_; rintro e w3 ⟨oa, on, oc, rfl, ⟨L, cs, og, hex, _⟩, b3⟩; have rg : RdG w3 oa on oc xss := (by rw [← hex]; exact og.rd); clear og hex; have B3 : Below w.heap.size w w3 := Below.nx B2 b3; have e5 : w3.cell? ⟨w.heap.size, 0, none⟩ = some (.int .i64 i) := (b3.cell (World.block_lt_of_cell? w2 _ e3)).trans e3; have e6 : w3.cell? ⟨w.heap.size + 1, 0, none⟩ = some (.int .i64 x) := (b3.cell (World.block_lt_of_cell? w2 _ e4)).trans e4)
      | (go_simp; go_at_call 36; refine (C4.out _ _ _ _ rg (by have := rg.len; have := hAL.out; have := HM.out; omega) e5 e6).mono ?_; rintro e w4 ⟨rfl, b4⟩; have B4 : Below w.heap.size w w4 := Below.nx B3 b4; have e7 : w4.cell? ⟨w.heap.size, 0, none⟩ = some (.int .i64 i) := (b4.cell (World.block_lt_of_cell? w3 _ e5)).trans e5; have e8 : w4.cell? ⟨w.heap.size + 1, 0, none⟩ = some (.int .i64 x) := (b4.cell (World.block_lt_of_cell? w3 _ e6)).trans e6))
  all_goals
    go_wp2_with fail
    go_ret
    exact ⟨rfl, B4⟩
theorem c_CanRouteNo (n m i : Nat) (hn : n = 2 ∨ n = 4) (hm : (n = 2 ∧ m = 1) ∨ (n = 4 ∧ m = 6)) (hi : m ≤ i) (hi9 : i ≤ 100) (x : Int) (a : Option Addr) (cap : Nat) (p : List Int) (w : World) (hr : RdI w a n cap p) (ho : Order p n) :
    Calls Try.prog 17 #[.slice a n cap, .int .i64 i, .int .i64 x] w fun e w' => e = .returned (.bool false) ∧ Below w.heap.size w w' := by
  have C1 := Lib.hid (fun wx (hx : Below w.heap.size w wx) => c_isSmallOrder n hn a cap p wx (hr.below hx) ho)
  have C2 := Lib.hid (fun wx => c_switchCount n m wx (by omega))
  obtain ⟨w0, hw0⟩ : ∃ w0, (w.alloc (.cells #[.int .i64 i] 3)).alloc (.cells #[.int .i64 x] 3) = w0 := ⟨_, rfl⟩
  have b0 : Below w.heap.size w w0 := by rw [← hw0]; exact ((Below.refl _ _).alloc (Nat.le_refl _) _).alloc (by simp) _
  have hg0 : w0.cell? ⟨w.heap.size, 0, none⟩ = some (.int .i64 i) := by rw [← hw0]; simp
  have hi0 : (0 : Int) ≤ (i : Int) := by omega
  have hi1 : decide ((i : Int) < (m : Int)) = false := decide_eq_false (by omega)
  have hi2 : decide (i < m) = false := decide_eq_false (by omega)
  have HW0 := Lib.hid hw0
  clear hm hn ho hw0
  go_enter Try.func17, Try.ntmps17
  go_wp2_with fail
  rw [HW0.out]
  clear HW0
  have x0 := beW_cell hg0
  have K1 := Lib.hid (inB_of (v := .bool true) (w0 := w0) (fun wx hx => C1.out wx (Below.nx b0 hx)))
  have K2 := Lib.hid (inB_of (v := .int .i64 m) (w0 := w0) (fun wx hx => C2.out wx))
  refine wp_region_inB (by kernel_rfl) (by kernel_rfl) (by kernel_rfl) ?_
  repeat (go_big_quiet_step ((first | with_reducible exact K1.out _ | with_reducible exact K2.out _)))
  refine wpQuiet_nil ?_
  rintro _ ⟨ex, rfl⟩
  have bex := beW_below w0 ex
  go_wp2_with fail
  go_ret
  exact ⟨rfl, Below.nx b0 bex⟩


/-! ### What the law asks -/
theorem fab_two : ∀ a, a < 2 → ∀ b, b < 2 → (a = b ∨ ((allT 1 2 1 [(a : Nat), (b : Nat)] 2).length = 1 ∧ crV (allT 1 2 1 [(a : Nat), (b : Nat)] 2) 0 (a : Int) = true ∧ crV (allT 1 2 1 [(a : Nat), (b : Nat)] 2) 0 (1 - (a : Int)) = false)) := by decide +kernel
def chk4 (p : List Int) : Bool :=
  (fun xs : List (List Int) => (xs.length == 2 || xs.length == 4) && ((List.range 6).all fun k => crV xs k 0 || crV xs k 1) && crV xs 4 0) (allT 2 4 6 p 64)
def chkAll : Bool := (List.range 4).all fun a => (List.range 4).all fun b => (List.range 4).all fun c => (List.range 4).all fun d => a == b || a == c || a == d || b == c || b == d || c == d || chk4 [((a : Nat) : Int), ((b : Nat) : Int), ((c : Nat) : Int), ((d : Nat) : Int)]
theorem chkAll_yes : chkAll = true := by decide +kernel
theorem fab_four (a b c d : Nat) (ha : a < 4) (hb : b < 4) (hc : c < 4) (hd : d < 4) (h1 : a ≠ b) (h2 : a ≠ c) (h3 : a ≠ d) (h4 : b ≠ c) (h5 : b ≠ d) (h6 : c ≠ d) : chk4 [((a : Nat) : Int), ((b : Nat) : Int), ((c : Nat) : Int), ((d : Nat) : Int)] = true := by
  have h := chkAll_yes
  unfold chkAll at h
  simp only [List.all_eq_true, List.mem_range] at h
  have h := h a ha b hb c hc d hd
  simp only [Bool.or_eq_true, beq_iff_eq] at h
  rcases h with (((((h | h) | h) | h) | h) | h) | h
  · exact absurd h h1
  · exact absurd h h2
  · exact absurd h h3
  · exact absurd h h4
  · exact absurd h h5
  · exact absurd h h6
  · exact h
theorem two_is {p : List Int} (ho : Order p 2) : ∃ a b : Nat, a < 2 ∧ b < 2 ∧ a ≠ b ∧ p = [(a : Int), (b : Int)] := by
  have h0 := ho.2.1 0 (by omega)
  have h1 := ho.2.1 1 (by omega)
  have h2 := ho.2.2 0 1 (by omega) (by omega)
  refine ⟨(nth p 0).toNat, (nth p 1).toNat, by omega, by omega, by omega, ?_⟩
  apply List.ext_getElem (by simp [ho.1])
  intro i a b
  rw [← nth_eq, ← nth_eq]
  rcases (show i = 0 ∨ i = 1 by have := ho.1; omega) with e | e
  · subst e; show nth p 0 = (((nth p 0).toNat : Nat) : Int); omega
  · subst e; show nth p 1 = (((nth p 1).toNat : Nat) : Int); omega
theorem four_is {p : List Int} (ho : Order p 4) : chk4 p = true := by
  have h0 := ho.2.1 0 (by omega)
  have h1 := ho.2.1 1 (by omega)
  have h2 := ho.2.1 2 (by omega)
  have h3 := ho.2.1 3 (by omega)
  have g1 := ho.2.2 0 1 (by omega) (by omega)
  have g2 := ho.2.2 0 2 (by omega) (by omega)
  have g3 := ho.2.2 0 3 (by omega) (by omega)
  have g4 := ho.2.2 1 2 (by omega) (by omega)
  have g5 := ho.2.2 1 3 (by omega) (by omega)
  have g6 := ho.2.2 2 3 (by omega) (by omega)
  have e : p = [(((nth p 0).toNat : Nat) : Int), (((nth p 1).toNat : Nat) : Int), (((nth p 2).toNat : Nat) : Int), (((nth p 3).toNat : Nat) : Int)] := by
    apply List.ext_getElem (by simp [ho.1])
    intro i a b
    rw [← nth_eq, ← nth_eq]
    rcases (show i = 0 ∨ i = 1 ∨ i = 2 ∨ i = 3 by have := ho.1; omega) with e | e | e | e
    · subst e; show nth p 0 = (((nth p 0).toNat : Nat) : Int); omega
    · subst e; show nth p 1 = (((nth p 1).toNat : Nat) : Int); omega
    · subst e; show nth p 2 = (((nth p 2).toNat : Nat) : Int); omega
    · subst e; show nth p 3 = (((nth p 3).toNat : Nat) : Int); omega
  rw [e]
  exact fab_four _ _ _ _ (by omega) (by omega) (by omega) (by omega) (by omega) (by omega) (by omega) (by omega) (by omega) (by omega)

end Go.Proofs.Ytcfpiblgddihmaa

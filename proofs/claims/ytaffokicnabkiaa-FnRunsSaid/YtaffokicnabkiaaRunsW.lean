/- What the law of runs calls, and what it asks: lengths drawn, rounds, sums, rises, sorting. No condition but lengths and sizes. -/
import Derived.Test.YtaffokicnabkiaaRunsQ
import Derived.Test.YtaffokicnabkiaaCheapV
import Derived.Test.YtaffokicnabkiaaHufO
import Derived.Test.YtaffokicnabkiaaRepI
import Derived.Test.YtaffokicnabkiaaNear
import Derived.Test.YtaffokicnabkiaaInB
namespace Go.Proofs.Ytaffokicnabkiaa
open Go.RowKit
set_option linter.unusedVariables false

set_option maxHeartbeats 1000000 in
theorem c_l20Draw (g : Nat) (a : Option Addr) (n cap : Nat) (bs : List Int) (w wa : World) (cu : Cu wa g a n cap) (hr : Rd w a n cap (bys bs)) (hb : Below w.heap.size w wa) (hg : w.heap.size ≤ g) (hn : n ≤ 1048576) :
    Calls Try.prog 31 #[.pointer (some ⟨g, 0, none⟩)] wa fun e w' => ∃ sa m sc xs, e = .returned (.slice sa m sc) ∧ m ≤ 6 ∧ OwI w' 3 wa.heap.size sa m sc xs ∧ (∀ x ∈ xs, 1 ≤ x ∧ x ≤ 12) ∧ Below w.heap.size w w' := by
  have hgl := cu.lt
  have hsz := hb.size
  go_enter Try.func31, Try.ntmps31
  go_wp2_with fail
  refine (c_Below g a n cap bs w _ (cu.keep (Keeps.alloc [] _ _) (by simp)) hr (hb.alloc hsz _) hg hn 7 (by omega) (by omega) : Calls Try.prog 44 #[.pointer (some ⟨g, 0, none⟩), .int .i64 7] _ _).mono ?_
  rintro e w1 ⟨m, rfl, hm, cu1, kp1⟩
  have b1 : Below w.heap.size w w1 := kp1.below (hb.alloc hsz _) (fun i hi => by simp at hi; omega) (by have := hb.size; simp; omega)
  have hs1 : wa.heap.size ≤ w1.heap.size := by have := kp1.size; simp at this; omega
  go_wp2_with fail
  go_loopw [3, 4] (fun l i wr => ∃ k q : Nat, ∃ xs L la lc, k + q = m ∧ i = .int .i64 q ∧ l = .slice la k lc ∧ Ow wr 3 L la k lc (ints xs) ∧ (∀ x ∈ xs, 1 ≤ x ∧ x ≤ 12) ∧ New wa.heap.size L ∧ Cu wr g a n cap ∧ Below w.heap.size w wr ∧ wa.heap.size ≤ wr.heap.size) (fun _ i _ => (intOf i).toNat)
  case atStart => exact ⟨0, m, [], [], _, _, by omega, rfl, rfl, Ow.bare _ _ _, (fun _ h => by cases h), fun _ h => (by cases h), cu1, b1, hs1⟩
  case round =>
    clear cu1 b1 hs1
    obtain ⟨k, q, xs, L, la, lc, hk, rfl, rfl, ow, hbd, nw, cu1, hb1, hsw⟩ := hrel
    by_cases hlt : 0 < q
    · have CB := Lib.hid (c_Below g a n cap bs w wr cu1 hr hb1 hg hn 12 (by omega) (by omega) : Calls Try.prog 44 #[.pointer (some ⟨g, 0, none⟩), .int .i64 12] wr _)
      go_wp2_with fail
      refine CB.out.mono ?_
      rintro e w2 ⟨p, rfl, hp, cu2, kp2⟩
      have apg : Apart L [g] := fun i hi hm => by simp at hm; have := nw i hi; omega
      have ow2 := (ow.keep kp2 apg).alloc (.cells #[.int .i64 (1 + (p : Int))] 3)
      have hs2 := kp2.size
      have hb2 : Below w.heap.size w w2 := kp2.below hb1 (fun i hi => by simp at hi; omega) hb1.size
      have HBD := Lib.hid hbd
      clear hbd
      go_wp2_with (at_builtin; refine wpList_app _ rfl _ _ 22 rfl 3 Try.underlying22 infoInt rfl rfl rfl ow2 (Rd.one _ _ _) (one_int _) (by omega) (by unfold maxLen; omega) ?_; intro a3 cap3 L3 w3 ow3 kp3 st3)
      rw [ints_snoc] at ow3
      have n3 : New wa.heap.size L3 := st3.new nw (by simp; omega)
      have b3 : Below w.heap.size w w3 := kp3.below (hb2.alloc hb2.size _) (nw.mono hsz) (by simp; have := hb2.size; omega)
      have cu3 := (cu2.keep (Keeps.alloc [] _ (.cells #[.int .i64 (1 + (p : Int))] 3)) (by simp)).keep kp3 (fun h => by have := nw g h; omega)
      have hs3 := kp3.size
      simp at hs3
      go_roundw
      case rel => exact ⟨k + 1, q - 1, xs ++ [1 + (p : Int)], L3, a3, cap3, by omega, int_eq (by omega), rfl, ow3, fun x hx => by
        rcases List.mem_append.1 hx with h | h
        · exact HBD.out x h
        · simp at h; omega, n3, cu3, b3, by omega⟩
      case measure => simp [intOf]; omega
    · obtain rfl : q = 0 := by omega
      go_wp2_with fail
      go_ret
      exact ⟨la, k, lc, xs, rfl, by omega, ⟨L, ow, nw⟩, hbd, hb1⟩

set_option maxHeartbeats 1000000 in
theorem c_MakeRuns (a : Option Addr) (n cap : Nat) (bs : List Int) (m : Nat) (w : World) (hr : Rd w a n cap (bys bs)) (hn : n ≤ 1048576) (hm : m ≤ 1000) :
    Calls Try.prog 11 #[.slice a n cap, .int .i64 m] w fun e w' => ∃ sa z sc xs, e = .returned (.slice sa z sc) ∧ z ≤ 6 ∧ OwI w' 3 w.heap.size sa z sc xs ∧ (∀ x ∈ xs, 1 ≤ x ∧ x ≤ 12) ∧ Below w.heap.size w w' := by
  have CN := Lib.hid (c_l31New a n cap bs m w hr hn hm)
  go_enter Try.func11, Try.ntmps11
  go_wp2_with fail
  refine CN.out.mono ?_
  rintro e w1 ⟨g, rfl, hg, cu, b1⟩
  have CD := Lib.hid (c_l20Draw g a n cap bs w w1 cu hr b1 hg hn)
  go_wp2_with fail
  refine CD.out.mono ?_
  rintro e w2 ⟨la, z, lc, xs, rfl, hz, ⟨L, ow, nw⟩, hx, b2⟩
  go_wp2_with fail
  go_ret
  exact ⟨la, z, lc, xs, rfl, hz, ⟨L, ow, nw.mono b1.size⟩, hx, b2⟩

set_option maxHeartbeats 400000 in
theorem ci_RoundsFor (r k : Nat) (w : World) (h1 : 1 ≤ r) (h2 : r ≤ 1000) (h3 : r ≤ 2 ^ k) (h4 : ∀ j, j < k → 2 ^ j < r) :
    Calls Try.prog 24 #[.int .i64 r, .int .i64 2] w fun e w' => e = .returned (.int .i64 k) ∧ w = w' := by
  have H3 := Lib.hid h3
  have H4 := Lib.hid h4
  have hk : k ≤ 1000 := by
    rcases Nat.eq_zero_or_pos k with e | e
    · omega
    · have := h4 (k - 1) (by omega)
      have h5 : k - 1 < 2 ^ (k - 1) := Nat.lt_two_pow_self
      omega
  clear h3 h4
  go_enter Try.func24, Try.ntmps24
  go_wp2
  go_loop [5, 6] (fun c n => ∃ j p : Nat, j ≤ k ∧ Hid (p = 2 ^ j) ∧ c = .int .i64 j ∧ n = .int .i64 p) (fun c _ => k - (intOf c).toNat)
  case atStart => exact ⟨0, 1, by omega, Lib.hid rfl, rfl, rfl⟩
  case round =>
    obtain ⟨j, p, hj, HP, rfl, rfl⟩ := hrel
    have hp2 : p ≤ 2000 := by
      have h5 := HP.out
      rcases Nat.eq_zero_or_pos j with e | e
      · subst e; simp at h5; omega
      · have h6 := H4.out (j - 1) (by omega)
        obtain ⟨i, rfl⟩ : ∃ i, j = i + 1 := ⟨j - 1, by omega⟩
        rw [Nat.pow_succ] at h5
        simp at h6; omega
    by_cases hlt : p < r
    · have hjk : j < k := by
        rcases Nat.lt_or_ge j k with h | h
        · exact h
        · obtain rfl : j = k := by omega
          have := H3.out; have := HP.out; omega
      go_wp2
      go_round
      case rel => exact ⟨j + 1, p * 2, by omega, Lib.hid (by rw [HP.out, Nat.pow_succ]), by go_num, int_eq (by omega)⟩
      case measure => simp [intOf]; omega
    · obtain rfl : j = k := by
        rcases Nat.lt_or_ge j k with h | h
        · have := H4.out j h; have := HP.out; omega
        · omega
      go_wp2
      go_ret
      exact ⟨rfl, rfl⟩

theorem c_SplitRunsT (a : Option Addr) (n cap : Nat) (xs : List Int) (w : World) (hr : RdI w a n cap xs) :
    Calls Try.prog 18 #[.slice a n cap] w fun e w' => ∃ sa sn sc, e = .returned (.slice sa sn sc) ∧ Gr w' 22 3 w.heap.size sa sn sc (splV xs) ∧ SmallG sn (splV xs) ∧ Below w.heap.size w w' := by
  have HL := Lib.hid hr.lens
  by_cases hn : n ≤ 16
  · have HV := Lib.hid (show splV xs = risL xs n by unfold splV; rw [HL.out, if_pos hn])
    have hsm := splV_small xs
    go_enter Try.func18, Try.ntmps18
    go_wp2_with fail
    refine (c_rising a n cap xs _ hr hn).mono ?_
    rintro e w' ⟨sa, sn, sc, rfl, hg, hb⟩
    have hlen : (risL xs n).length = sn := by
      obtain ⟨L, cs, og, e, _⟩ := hg
      rw [← e, List.length_map, og.len]
    go_wp2_with fail
    go_ret
    exact ⟨sa, sn, sc, rfl, by rw [HV.out]; exact hg, by rw [← hlen, ← HV.out]; exact hsm, hb⟩
  · have HV := Lib.hid (show splV xs = [] by unfold splV; rw [HL.out, if_neg hn])
    go_enter Try.func18, Try.ntmps18
    go_wp2
    go_ret
    exact ⟨_, _, _, rfl, by rw [HV.out]; exact ⟨[], [], OwG.bare _ _ _ _, rfl, fun _ h => by simp [fp] at h⟩, by rw [HV.out]; exact ⟨by omega, fun _ h => by cases h⟩, Below.refl _ _⟩

theorem c_sumT (a : Option Addr) (n cap : Nat) (xs : List Int) (w : World) (hr : RdI w a n cap xs) (hb : ∀ k, k ≤ n → -1099511627776 ≤ sumTo xs k ∧ sumTo xs k ≤ 1099511627776) :
    Calls Try.prog 16 #[.slice a n cap] w fun e w' => e = .returned (.int .i64 (sumTo xs n)) ∧ Below w.heap.size w w' := by
  have HB := Lib.hid hb
  clear hb
  go_enter Try.func16, Try.ntmps16
  go_wp2_with fail
  go_loopw [3, 8] (fun v i wr => ∃ k : Nat, k ≤ n ∧ i = .int .i64 k ∧ v = .int .i64 (sumTo xs k) ∧ Below w.heap.size w wr) (fun _ i _ => n - (intOf i).toNat)
  case atStart => exact ⟨0, by omega, rfl, rfl, Below.refl _ _⟩
  case round =>
    obtain ⟨k, hk, rfl, rfl, hbw⟩ := hrel
    by_cases hlt : k < n
    · obtain ⟨b, off, rfl, hbl, hc⟩ := (hr.below hbw).int (by omega)
      have c1 := hc k hlt
      clear hc
      have h1 := HB.out k (by omega)
      have h2 := HB.out (k + 1) (by omega)
      simp only [sumTo] at h2
      obtain ⟨s, hs⟩ : ∃ s, sumTo xs k = s := ⟨_, rfl⟩
      obtain ⟨x, hx⟩ : ∃ x, nth xs k = x := ⟨_, rfl⟩
      rw [hs] at h1 h2 ⊢
      rw [hx] at h2 c1
      have HE := Lib.hid (show sumTo xs (k + 1) = s + x by simp only [sumTo]; rw [hs, hx])
      have hm := hr.max
      have hle := hr.le
      unfold maxLen at hm
      clear hs hx
      go_wp2_with fail
      go_roundw
      case rel => exact ⟨k + 1, by omega, by go_num, int_eq (by rw [HE.out]), hbw⟩
      case measure => simp [intOf]; omega
    · obtain rfl : k = n := by omega
      go_wp2_with fail
      go_ret
      exact ⟨rfl, hbw⟩

theorem c_risesT (a : Option Addr) (n cap : Nat) (xs : List Int) (w : World) (hr : RdI w a n cap xs) (hn : n ≤ 1000) (hup : ∀ j, j + 1 < n → nth xs j ≤ nth xs (j + 1)) :
    Calls Try.prog 20 #[.slice a n cap] w fun e w' => e = .returned (.bool true) ∧ Below w.heap.size w w' := by
  have HU := Lib.hid hup
  clear hup
  go_enter Try.func20, Try.ntmps20
  go_wp2
  go_loopw [3] (fun i wr => ∃ k : Nat, 1 ≤ k ∧ i = .int .i64 k ∧ Below w.heap.size w wr) (fun i _ => n - (intOf i).toNat)
  case atStart => exact ⟨1, by omega, rfl, Below.refl _ _⟩
  case round =>
    obtain ⟨k, hk1, rfl, hb⟩ := hrel
    by_cases hlt : k < n
    · obtain ⟨b, off, rfl, _, hc⟩ := (hr.below hb).int (by omega)
      have c1 := hc k hlt
      have c2 := hc (k - 1) (by omega)
      clear hc
      have hgt : ¬ nth xs k < nth xs (k - 1) := by
        have := HU.out (k - 1) (by omega)
        rw [show k - 1 + 1 = k by omega] at this; omega
      go_wp2_with fail
      go_quiet (fail)
      go_wp2_with fail
      go_roundw
      case rel => exact ⟨k + 1, by omega, by go_num, by first | exact hb | exact hb.trans (below_drewN (Below.refl _ _) _)⟩
      case measure => simp [intOf]; omega
    · go_wp2
      go_ret
      exact ⟨rfl, hb⟩

theorem c_sortedT (a : Option Addr) (n cap : Nat) (xs : List Int) (w : World) (hr : RdI w a n cap xs) (hn : n ≤ 1000) :
    Calls Try.prog 22 #[.slice a n cap] w fun e w' => ∃ ai ci, e = .returned (.slice ai n ci) ∧ OwI w' 3 w.heap.size ai n ci (srt xs) ∧ Below w.heap.size w w' := by
  obtain rfl : xs.length = n := hr.lens
  rw [← srt_eq]
  have C1 : Calls Try.prog 42 #[.slice a xs.length cap] w fun e w' => ∃ ai ci, e = .returned (.slice ai xs.length ci) ∧ OwI w' 3 w.heap.size ai xs.length ci (sortTo ltD xs xs.length) ∧ Below w.heap.size w w' := by
    have C0 := Lib.hid (c_l08Sort a xs.length cap xs w hr hn)
    go_enter Try.func42, Try.ntmps42
    go_wp2_with fail
    refine C0.out.mono ?_
    rintro e w1 ⟨ai, ci, rfl, ow, b1⟩
    go_wp2_with fail
    go_ret
    exact ⟨ai, ci, rfl, ow, b1⟩
  have C1 := Lib.hid C1
  go_enter Try.func22, Try.ntmps22
  go_wp2_with fail
  refine C1.out.mono ?_
  rintro e w1 ⟨ai, ci, rfl, ow, b1⟩
  go_wp2_with fail
  go_ret
  exact ⟨ai, ci, rfl, ow, b1⟩

/-! What the law asks of the lengths. -/
structure RnF (rs D : List Int) (z : Nat) (A B S : Int) : Prop where
  ok : okLengthsOk rs = true
  ch : chV rs = A
  ne : neiV rs = B
  md : mdV rs = D
  dl : D.length = z
  pay : payTo rs D z = A
  sum : sumTo rs z = S
  bd : 0 ≤ A ∧ A ≤ B ∧ 0 ≤ S ∧ S ≤ 72
  up : B ≤ S * ((z - 1 : Nat) : Int)
  xb : ∀ k, k < z → 1 ≤ nth rs k ∧ nth rs k ≤ 12
  db : ∀ k, k < z → 0 ≤ nth D k ∧ nth D k ≤ 36
  pb : ∀ k, k ≤ z → 0 ≤ payTo rs D k ∧ payTo rs D k ≤ 432 * k
  sb : ∀ k, k ≤ z → 0 ≤ sumTo rs k ∧ sumTo rs k ≤ 12 * k
theorem mul_bd {x d : Int} (h1 : 0 ≤ x) (h2 : x ≤ 12) (h3 : 0 ≤ d) (h4 : d ≤ 36) : 0 ≤ x * d ∧ x * d ≤ 432 := by
  refine ⟨Int.mul_nonneg h1 h3, ?_⟩
  have := Int.mul_le_mul h2 h4 h3 (by omega : (0 : Int) ≤ 12)
  omega
theorem runs_facts {rs : List Int} {z : Nat} (hl : rs.length = z) (hz : z ≤ 6) (hx : ∀ x ∈ rs, 1 ≤ x ∧ x ≤ 12) : ∃ D A B S, RnF rs D z A B S := by
  subst hl
  have hx2 : ∀ x ∈ rs, 1 ≤ x ∧ x ≤ 1000 := fun x h => by have := hx x h; omega
  have hxn : ∀ k, k < rs.length → 1 ≤ nth rs k ∧ nth rs k ≤ 12 := fun k hk => hx _ (nth_mem hk)
  have ok : okLengthsOk rs = true := okLengthsOk_yes (by omega) (fun j hj => by have := hxn j hj; omega)
  have hi := HI.all hx2 (rs.length - 1) (by omega)
  have hdl : (hufD rs).length = rs.length := hi.dl
  have hnb := huf_nb (xs := rs) (by omega) hx2
  have hup := nb_up 8 rs (by omega) (fun x h => by have := hx x h; omega)
  have hpay := pay_is hx2
  have hdb : ∀ k, k < rs.length → 0 ≤ nth (hufD rs) k ∧ nth (hufD rs) k ≤ 36 := fun k hk => by
    have h1 := hi.db (nth (hufD rs) k) (nth_mem (xs := hufD rs) (by rw [hdl]; exact hk))
    have h2 : rs.length * (rs.length - 1) ≤ 6 * 5 := Nat.mul_le_mul hz (by omega)
    have h3 : (rs.length : Int) * ((rs.length - 1 : Nat) : Int) = ((rs.length * (rs.length - 1) : Nat) : Int) := by rw [Int.natCast_mul]
    rw [h3] at h1
    omega
  have hsb : ∀ k, k ≤ rs.length → 0 ≤ sumTo rs k ∧ sumTo rs k ≤ 12 * k := by
    intro k
    induction k with
    | zero => intro _; simp [sumTo]
    | succ k ih => intro hk; have := ih (by omega); have := hxn k (by omega); simp only [sumTo]; omega
  have hpb : ∀ k, k ≤ rs.length → 0 ≤ payTo rs (hufD rs) k ∧ payTo rs (hufD rs) k ≤ 432 * k := by
    intro k
    induction k with
    | zero => intro _; simp [payTo]
    | succ k ih =>
      intro hk
      have h1 := ih (by omega)
      have h2 := hxn k (by omega)
      have h3 := hdb k (by omega)
      have h4 := mul_bd (x := nth rs k) (d := nth (hufD rs) k) (by omega) h2.2 h3.1 h3.2
      simp only [payTo]; omega
  have hsum : sumTo rs rs.length = isum rs := by rw [isum_sumTo rs rs.length (Nat.le_refl _), List.take_of_length_le (Nat.le_refl _)]
  have hs := hsb rs.length (Nat.le_refl _)
  refine ⟨hufD rs, hufC rs, nbF 8 rs, sumTo rs rs.length, ok, by unfold chV; rw [if_pos ok], by unfold neiV; rw [if_pos ok], by unfold mdV; rw [if_pos ok], hdl, hpay, rfl, ⟨hi.c0, hnb, hs.1, by omega⟩, by rw [hsum]; exact hup, hxn, hdb, hpb, hsb⟩

/-! What the law asks of a list. -/
structure RsF (xs : List Int) (O : List (List Int)) (z u N : Nat) : Prop where
  spl : splV xs = O
  len : O.length = u
  run : runsV xs = (u : Int)
  mer : mrV xs = srt xs
  rou : mrN xs = (N : Int)
  none : u = 0 → N = 0
  up : u ≤ 2 ^ N
  low : ∀ j, j < N → 2 ^ j < u
  one : rrV xs 1 = O
  flat : O.flatten = xs
  row : ∀ i, i < u → 0 < (O.getD i []).length ∧ (O.getD i []).length ≤ z
  rise : ∀ i, i < u → ∀ j, j + 1 < (O.getD i []).length → nth (O.getD i []) j ≤ nth (O.getD i []) (j + 1)
  fall : Falls O
  uz : u ≤ z
theorem list_facts {xs : List Int} {z : Nat} (hl : xs.length = z) (hz : z ≤ 12) : ∃ O u N, RsF xs O z u N := by
  subst hl
  have hlen := risL_len xs xs.length
  have hle := runsTo_le xs xs.length
  have h16 : (risL xs xs.length).length ≤ 2 ^ 16 := by
    have : (2 : Nat) ^ 16 = 65536 := by decide
    omega
  have hm := finM_srt 16 (risL xs xs.length) (risL_srt xs xs.length).1 h16
  have hrr := finM_rounds 16 (risL xs xs.length) h16
  have hfl : (risL xs xs.length).flatten = xs := by rw [risL_flat xs xs.length (Nat.le_refl _), List.take_of_length_le (Nat.le_refl _)]
  refine ⟨risL xs xs.length, runsTo xs xs.length, (finM 16 (risL xs xs.length)).2, ?_, hlen, ?_, ?_, ?_, ?_, ?_, ?_, ?_, hfl, ?_, ?_, risL_falls xs xs.length (Nat.le_refl _), hle⟩
  · unfold splV; rw [if_pos (by omega)]
  · unfold runsV; rw [if_pos hz]
  · unfold mrV; rw [if_pos (by omega)]
    rw [hfl] at hm
    exact srt_of hm.1 hm.2
  · unfold mrN; rw [if_pos (by omega)]
  · intro h0
    rcases Nat.eq_zero_or_pos (finM 16 (risL xs xs.length)).2 with e | e
    · exact e
    · have := hrr.2 0 e; omega
  · rw [← hlen]; exact hrr.1
  · rw [← hlen]; exact hrr.2
  · rw [show (1 : Int) = ((1 : Nat) : Int) from rfl, rrV_yes (by omega) (by omega) (by omega)]
    exact (rp_one xs xs.length (Nat.le_refl _)).1
  · intro i hi
    exact risL_full xs xs.length (Nat.le_refl _) _ (getD_mem (by rw [hlen]; exact hi))
  · intro i hi j hj
    exact risL_rise xs xs.length (Nat.le_refl _) _ (getD_mem (by rw [hlen]; exact hi)) j hj
/-! .. and of a store. -/
structure RpF (xs : List Int) (P : List (List Int)) (z room v : Nat) (f : Int) : Prop where
  rep : rrV xs (room : Int) = P
  len : P.length = v
  far : farV xs = f
  flat : P.flatten.Perm xs
  row : ∀ i, i < v → 0 < (P.getD i []).length ∧ (P.getD i []).length ≤ z
  rise : ∀ i, i < v → ∀ j, j + 1 < (P.getD i []).length → nth (P.getD i []) j ≤ nth (P.getD i []) (j + 1)
  near : (room : Int) ≤ f ∨ v ≤ 1
  vz : v ≤ z
theorem store_facts {xs : List Int} {z room : Nat} (hl : xs.length = z) (hz : z ≤ 12) (h1 : 1 ≤ room) (h4 : room ≤ 4) : ∃ P v f, RpF xs P z room v f := by
  subst hl
  have hp := rp_perm xs room h1 xs.length (Nat.le_refl _)
  have hs := rp_len xs room h1 xs.length (Nat.le_refl _)
  have e0 : (rp xs room xs.length).2 = [] := List.eq_nil_of_length_eq_zero (by omega)
  rw [e0, List.append_nil, List.take_of_length_le (by omega)] at hp
  refine ⟨(rp xs room xs.length).1, (rp xs room xs.length).1.length, farTo (ordL xs xs.length) xs.length, rrV_yes (by omega) h1 (by omega), rfl, by unfold farV; rw [if_pos hz], hp, ?_, ?_, ?_, rp_outlen xs room xs.length⟩
  · intro i hi
    exact rp_rows xs room xs.length _ (getD_mem hi)
  · intro i hi j hj
    exact rp_rows_rise xs room xs.length _ (getD_mem hi) j hj
  · by_cases hf : farTo (ordL xs xs.length) xs.length < (room : Int)
    · exact .inr (rp_near rfl h1 hf xs.length (Nat.le_refl _)).2
    · exact .inl (by omega)
theorem flat_take_le (O : List (List Int)) (i : Nat) : (O.take i).flatten.length ≤ O.flatten.length := by
  have h : (O.take i).flatten ++ (O.drop i).flatten = O.flatten := by rw [← List.flatten_append, List.take_append_drop]
  rw [← h, List.length_append]; omega
theorem flat_take_succ {O : List (List Int)} {i : Nat} (h : i < O.length) : (O.take (i + 1)).flatten = (O.take i).flatten ++ O.getD i [] := by
  rw [List.take_add_one, List.flatten_append, List.getElem?_eq_getElem h]
  simp [List.getD, h]
theorem flat_take_pos {O : List (List Int)} {i : Nat} (h : 0 < i) (h2 : i ≤ O.length) (hr : 0 < (O.getD 0 []).length) : 0 < (O.take i).flatten.length := by
  obtain ⟨k, rfl⟩ : ∃ k, i = k + 1 := ⟨i - 1, by omega⟩
  match O, h2, hr with
  | [], h2, _ => simp at h2
  | r :: O, _, hr =>
    have : 0 < r.length := by simpa using hr
    simp; omega

end Go.Proofs.Ytaffokicnabkiaa

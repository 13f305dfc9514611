/- All orders of a few numbers, one behind the other: the reference's. No condition but at most four numbers. -/
import Derived.Test.YtiiijijbkacneaaDistK
import Derived.Test.YtiiijijbkacneaaGrid
import Derived.Test.YtiiijijbkacneaaDrew
namespace Go.Proofs.Ytiiijijbkacneaa
open Go.RowKit
set_option linter.unusedVariables false
set_option linter.unusedSimpArgs false

theorem infoSlO : (Try.prog.info? 24).map (fun i => (i.zero, i.size, i.bytes)) = some (some (.slice none 0 0), 1, 24) := by kernel_rfl
theorem New.pushO {B : Nat} {w : World} {L L' : List Nat} {cs : List Cell} {c : Cell} (h : New B (fp L cs)) (hc : New B c.L) (s : Step w L L') (hB : B ≤ w.heap.size) : New B (fp L' (cs ++ [c])) := fun i hi => by
  rcases mem_fp.1 hi with h1 | ⟨d, hd, h1⟩
  · rcases s i h1 with h2 | h2
    · exact h i (mem_fp.2 (.inl h2))
    · omega
  · rcases List.mem_append.1 hd with h2 | h2
    · exact h i (mem_fp.2 (.inr ⟨d, h2, h1⟩))
    · simp at h2; subst h2; exact hc i h1
def iTo (a : List Int) : Nat → Nat
  | 0 => 0
  | i + 1 => if nth a i > nth a (i + 1) then iTo a i else i + 1
def kTo (a : List Int) (v : Int) : Nat → Nat
  | 0 => 0
  | k + 1 => if nth a (k + 1) < v then kTo a v k else k + 1
theorem iTo_le (a : List Int) (i : Nat) : iTo a i ≤ i := by
  induction i with
  | zero => exact Nat.le_refl _
  | succ i ih => rw [iTo]; split <;> omega
theorem kTo_le (a : List Int) (v : Int) (i : Nat) : kTo a v i ≤ i := by
  induction i with
  | zero => exact Nat.le_refl _
  | succ i ih => rw [kTo]; split <;> omega
/-- The next order, its change at place i. -/
def swI (a : List Int) (i k : Nat) : List Int := (a.set (i - 1) (nth a k)).set k (nth a (i - 1))
def nxI (a : List Int) (i : Nat) : List Int := (swI a i (kTo a (nth a (i - 1)) (a.length - 1))).take i ++ ((swI a i (kTo a (nth a (i - 1)) (a.length - 1))).drop i).reverse
def nxL (a : List Int) : List Int := nxI a (iTo a (a.length - 1))
theorem swI_len (a : List Int) (i k : Nat) : (swI a i k).length = a.length := by simp [swI]
theorem nxL_len (a : List Int) : (nxL a).length = a.length := by
  unfold nxL nxI
  rw [List.length_append, List.length_take, List.length_reverse, List.length_drop, swI_len]
  omega
def lexO (m : Nat) : Nat → List Int
  | 0 => idn m
  | q + 1 => nxL (lexO m q)
theorem lexO_len (m q : Nat) : (lexO m q).length = m := by
  induction q with
  | zero => exact idn_len m
  | succ q ih => rw [lexO, nxL_len, ih]
def lexAll (m Q : Nat) : List (List Int) := (List.range Q).map (lexO m)
theorem lexAll_snoc (m Q : Nat) : lexAll m (Q + 1) = lexAll m Q ++ [lexO m Q] := by simp [lexAll, List.range_succ]

theorem New.of_stepO {w2 : World} {o : Obj} {L3 : List Nat} (st3 : Step (w2.alloc o) [] L3) : New w2.heap.size L3 := fun i hi => by
  rcases st3 i hi with h | h
  · cases h
  · simp at h; omega
theorem Rd.cellI {w : World} {b off n cap : Nat} {xs : List Int} (h : RdI w (some ⟨b, off, none⟩) n cap xs) (j : Nat) (hj : j < n) : w.cell? ⟨b, off + j, none⟩ = some (.int .i64 (nth xs j)) := by
  obtain ⟨b', off', e, _, hc⟩ := h.int (by omega)
  simp at e
  obtain ⟨rfl, rfl⟩ := e
  exact hc j hj

set_option maxHeartbeats 2000000 in
theorem c_l04Next (a : Option Addr) (n cap : Nat) (xs : List Int) (w : World) (hr : RdI w a n cap xs) (hn : n ≤ 8) :
    Calls Try.prog 40 #[.slice a n cap] w fun e w' => ∃ sa sn sc, e = .returned (.tuple #[.slice sa sn sc, .bool (decide (0 < iTo xs (n - 1)))]) ∧ (0 < iTo xs (n - 1) → sn = n ∧ OwI w' 3 w.heap.size sa sn sc (nxL xs)) ∧ Below w.heap.size w w' := by
  have HL := Lib.hid hr.lens
  by_cases hn0 : n = 0
  · subst hn0
    go_enter Try.func40, Try.ntmps40
    go_wp2_with fail
    go_loopw [4] (fun i wr => i = .int .i64 (-1) ∧ Below w.heap.size w wr) (fun _ _ => 0)
    case atStart => exact ⟨rfl, Below.refl _ _⟩
    case round =>
      obtain ⟨rfl, hb⟩ := hrel
      go_wp2_with fail
      go_quiet (fail)
      go_wp2_with fail
      go_ret2
      exact ⟨_, _, _, by simp only [iTo]; rfl, fun h => by simp [iTo] at h, by first | exact hb | exact hb.trans (below_drewN (Below.refl _ _) _)⟩
  obtain ⟨b, off, rfl, hbl, hc0⟩ := hr.int (by omega)
  have hle := hr.le
  have hmx := hr.max
  unfold maxLen at hmx
  go_enter Try.func40, Try.ntmps40
  go_wp2_with fail
  go_loopw [4] (fun i wr => ∃ p : Nat, p ≤ n - 1 ∧ i = .int .i64 p ∧ iTo xs (n - 1) = iTo xs p ∧ Below w.heap.size w wr) (fun i _ => (intOf i).toNat)
  case atStart => exact ⟨n - 1, by omega, int_eq (by omega), rfl, Below.refl _ _⟩
  case round =>
    obtain ⟨p, hp, rfl, hip, hb⟩ := hrel
    have HIP := Lib.hid hip
    clear hip
    obtain ⟨b', off', e', _, hc⟩ := (hr.below hb).int (by omega)
    simp at e'
    obtain ⟨rfl, rfl⟩ := e'
    by_cases hp0 : p = 0
    · subst hp0
      have HI := Lib.hid (show iTo xs (n - 1) = 0 by rw [HIP.out]; rfl)
      clear hc
      go_wp2_with fail
      go_quiet (fail)
      go_wp2_with fail
      go_ret2
      exact ⟨_, _, _, by rw [HI.out]; rfl, fun h => by rw [HI.out] at h; omega, by first | exact hb | exact hb.trans (below_drewN (Below.refl _ _) _)⟩
    have c1 := hc (p - 1) (by omega)
    have c2 := hc p (by omega)
    have hpos : 0 < p := by omega
    have hpos1 : 1 ≤ p := hpos
    by_cases hgt : nth xs p < nth xs (p - 1)
    · have HI := Lib.hid (show iTo xs (n - 1) = iTo xs (p - 1) by
        rw [HIP.out]
        obtain ⟨r, rfl⟩ : ∃ r, p = r + 1 := ⟨p - 1, by omega⟩
        rw [iTo, if_pos (by simpa using hgt)]; rfl)
      clear hc
      go_wp2_with fail
      go_quiet (fail)
      go_wp2_with fail
      go_roundw
      case rel => exact ⟨p - 1, by omega, int_eq (by omega), HI.out, by first | exact hb | exact hb.trans (below_drewN (Below.refl _ _) _)⟩
      case measure => simp [intOf]; omega
    · have HI := Lib.hid (show iTo xs (n - 1) = p by
        rw [HIP.out]
        obtain ⟨r, rfl⟩ : ∃ r, p = r + 1 := ⟨p - 1, by omega⟩
        rw [iTo, if_neg (by simpa using hgt)])
      clear hc
      go_wp2_with fail
      go_quiet (fail)
      go_wp2_with fail
      have hb1 : Below w.heap.size w (wr.drewN nq) := hb.trans (below_drewN (Below.refl _ _) _)
      rw [show decide (nth xs p < nth xs (p - 1)) = false from decide_eq_false (by omega)]
      have HGT := Lib.hid hgt
      clear hgt c1 c2 hb
      go_loopw [5] (fun i wr => ∃ r : Nat, p ≤ r ∧ r ≤ n - 1 ∧ i = .int .i64 r ∧ kTo xs (nth xs (p - 1)) (n - 1) = kTo xs (nth xs (p - 1)) r ∧ Below w.heap.size w wr) (fun i _ => (intOf i).toNat)
      case atStart => exact ⟨n - 1, by omega, by omega, int_eq (by omega), rfl, hb1⟩
      case round =>
        clear hb1
        obtain ⟨r, hpr, hrn, rfl, hkr, hb⟩ := hrel
        have HKR := Lib.hid hkr
        clear hkr
        obtain ⟨b', off', e', _, hc⟩ := (hr.below hb).int (by omega)
        simp at e'
        obtain ⟨rfl, rfl⟩ := e'
        have c1 := hc r (by omega)
        have c2 := hc (p - 1) (by omega)
        by_cases hlt : nth xs r < nth xs (p - 1)
        · have hne : r ≠ p := fun e => by rw [e] at hlt; have := HGT.out; omega
          have HK := Lib.hid (show kTo xs (nth xs (p - 1)) (n - 1) = kTo xs (nth xs (p - 1)) (r - 1) by
            rw [HKR.out]
            obtain ⟨s, rfl⟩ : ∃ s, r = s + 1 := ⟨r - 1, by omega⟩
            rw [kTo, if_pos hlt]; rfl)
          clear hc
          go_wp2_with fail
          go_quiet (fail)
          go_wp2_with fail
          go_roundw
          case rel => exact ⟨r - 1, by omega, by omega, int_eq (by omega), HK.out, by first | exact hb | exact hb.trans (below_drewN (Below.refl _ _) _)⟩
          case measure => simp [intOf]; omega
        · have HK := Lib.hid (show kTo xs (nth xs (p - 1)) (n - 1) = r by
            rw [HKR.out]
            cases r with
            | zero => rfl
            | succ s => rw [kTo, if_neg hlt])
          go_wp2_with fail
          go_quiet (fail)
          have hb2 : Below w.heap.size w (wr.drewN nq) := hb.trans (below_drewN (Below.refl _ _) _)
          have hs2 : w.heap.size ≤ wr.heap.size := hb.size
          have hrd : RdI ((wr.drewN nq).alloc (.cells #[] 3)) (some ⟨b, off, none⟩) n cap xs := (hr.below hb2).keep (Keeps.alloc [] _ _) (fun _ _ h => by cases h)
          have HLT := Lib.hid hlt
          clear c1 c2 hc hb
          go_wp2_with ((with_reducible show wpList _ _ _ (⟨some 47, _, _, _, _, _⟩ :: _) _ _); refine wpList_app _ rfl _ _ 24 rfl 3 Try.underlying24 infoInt rfl rfl rfl (Ow.bare _ 3 _) hrd (one_ints xs) (by omega) (by unfold maxLen; omega) ?_; intro a6 cap6 L6 w6 ow6 kp6 st6; simp only [Nat.zero_add, List.nil_append] at ow6; obtain ⟨g, rfl, rfl, hg, hoc, hof⟩ := ow6.int (by have := ow6.le; omega); have hgn : w.heap.size ≤ g := (by have h := New.of_stepO st6 g (by simp); simp at h; omega); have hbg : b ≠ g := (by omega); have d1 := hoc (p - 1) (by omega); have d2 := hoc r (by omega); have d3 := hof (p - 1); have d4 := hof r; have hb6 : Below w.heap.size w w6 := kp6.below (hb2.alloc hb2.size _) (fun _ h => by cases h) (by simp; omega); have r6 := (hr.below hb6); have e1 := r6.cellI r (by omega); have e2 := r6.cellI (p - 1) (by omega); clear hoc hof)
          have hlx := HL.out
          have ow8 : Ow ((w6.setCell ⟨g, p - 1, none⟩ (.int .i64 (nth xs r))).setCell ⟨g, r, none⟩ (.int .i64 (nth xs (p - 1)))) 3 [g] (some ⟨g, 0, none⟩) n cap6 (ints (swI xs p r)) := by
            have h := (ow6.set (p - 1) (.int .i64 (nth xs r))).set r (.int .i64 (nth xs (p - 1)))
            rw [ints_set, ints_set] at h
            exact h
          have hb8 : Below w.heap.size w ((w6.setCell ⟨g, p - 1, none⟩ (.int .i64 (nth xs r))).setCell ⟨g, r, none⟩ (.int .i64 (nth xs (p - 1)))) := (hb6.setCell hgn _).setCell hgn _
          have hsl : (swI xs p r).length = n := by rw [swI_len]; exact hlx
          have HN := Lib.hid (show nxL xs = (swI xs p r).take p ++ ((swI xs p r).drop p).reverse by
            unfold nxL; rw [hlx, HI.out]; unfold nxI; rw [hlx, HK.out])
          generalize ((w6.setCell ⟨g, p - 1, none⟩ (.int .i64 (nth xs r))).setCell ⟨g, r, none⟩ (.int .i64 (nth xs (p - 1)))) = w8 at *
          generalize swI xs p r = sw at *
          have HSL := Lib.hid hsl
          have hs8 := hb8.size
          clear hsl hlx ow6 hb6 d1 d2 d3 d4 e1 e2 r6 kp6 st6 hrd hb2
          go_loopw [7, 8] (fun rv jv wr => ∃ (t : Nat) (Lr : List Nat) (ra : Option Addr) (rc : Nat), t ≤ n - p ∧ jv = .int .i64 ((n : Int) - 1 - t) ∧ rv = .slice ra t rc ∧ Ow wr 3 Lr ra t rc (ints ((sw.drop (n - t)).reverse)) ∧ New w8.heap.size Lr ∧ Ow wr 3 [g] (some ⟨g, 0, none⟩) n cap6 (ints sw) ∧ Below w.heap.size w wr ∧ g < w8.heap.size ∧ w8.heap.size ≤ wr.heap.size) (fun _ jv _ => (intOf jv + 1).toNat)
          case atStart => exact ⟨0, [], _, _, by omega, int_eq (by omega), rfl, by rw [Nat.sub_zero, List.drop_of_length_le (by rw [HSL.out]; exact Nat.le_refl _)]; exact Ow.bare _ _ _, fun _ h => (by cases h), ow8.alloc _, hb8.alloc hs8 _, ow8.old g (by simp), by simp⟩
          case round =>
            clear ow8 hb8
            obtain ⟨t, Lr, ra, rc, ht, rfl, rfl, owr, nwr, owo, hb, hg8, hs9⟩ := hrel
            obtain ⟨g', e1, _, hg, hoc, hof⟩ := owo.int (by have := owo.le; omega)
            obtain rfl : g = g' := by simpa using e1
            by_cases hlt2 : t < n - p
            · have d1 := hoc (n - 1 - t) (by omega)
              have ej : ((n : Int) - 1 - t).toNat = n - 1 - t := by omega
              clear hoc hof e1
              have owr2 := owr.alloc (.cells #[.int .i64 (nth sw (n - 1 - t))] 3)
              go_wp2_with (at_builtin; refine wpList_app _ rfl _ _ 24 rfl 3 Try.underlying24 infoInt rfl rfl rfl owr2 (Rd.one _ _ _) (one_int _) (by omega) (by unfold maxLen; omega) ?_; intro a1 cap1 L1 w1 ow1 kp1 st1)
              have n1 : New w8.heap.size L1 := st1.new nwr (by simp; omega)
              have b1 : Below w.heap.size w w1 := kp1.below (hb.alloc hb.size _) (nwr.mono hs8) (by simp; have := hb.size; omega)
              have o1 := (owo.alloc (.cells #[.int .i64 (nth sw (n - 1 - t))] 3)).keep kp1 (fun i hi hm => by simp at hi; have := nwr i hm; omega)
              have hdr : (sw.drop (n - (t + 1))).reverse = (sw.drop (n - t)).reverse ++ [nth sw (n - 1 - t)] := by
                have hlen := HSL.out
                rw [show n - (t + 1) = n - 1 - t by omega, List.drop_eq_getElem_cons (by omega), ← nth_eq, show n - 1 - t + 1 = n - t by omega, List.reverse_cons]
              have HDR := Lib.hid hdr
              have hs1 := kp1.size
              simp at hs1
              clear hdr
              go_roundw
              case rel => exact ⟨t + 1, L1, a1, cap1, by omega, int_eq (by omega), rfl, by rw [HDR.out]; rw [ints_snoc] at ow1; exact ow1, n1, o1, b1, hg8, by omega⟩
              case measure => simp [intOf]; omega
            · obtain rfl : t = n - p := by omega
              have hle6 := owo.le
              have hmx6 := owo.max
              unfold maxLen at hmx6
              rw [show n - (n - p) = p by omega] at owr
              clear hoc hof e1
              have ow0 := owo.alloc (.cells #[] 3)
              have owr0 := owr.alloc (.cells #[] 3)
              go_wp2_with (first | ((with_reducible show wpList _ _ _ (⟨some 83, _, _, _, _, _⟩ :: _) _ _); refine wpList_upto _ rfl _ _ 24 rfl 3 Try.underlying24 szInt p rfl rfl rfl (by omega) ?_) | ((with_reducible show wpList _ _ _ (⟨some 84, _, _, _, _, _⟩ :: _) _ _); refine wpList_app _ rfl _ _ 24 rfl 3 Try.underlying24 infoInt rfl rfl rfl (Ow.bare _ 3 _) (ow0.rd.head p (by omega)) (fun u hu => one_ints sw u (List.mem_of_mem_take hu)) (by omega) (by unfold maxLen; omega) ?_; intro a3 cap3 L3 w3 ow3 kp3 st3; simp only [Nat.zero_add, List.nil_append] at ow3; have n3 := New.of_stepO st3; have owr3 := owr0.keep kp3 (fun _ _ h => by cases h)) | ((with_reducible show wpList _ _ _ (⟨some 86, _, _, _, _, _⟩ :: _) _ _); refine wpList_app _ rfl _ _ 24 rfl 3 Try.underlying24 infoInt rfl rfl rfl ow3 owr3.rd (one_ints _) (by omega) (by unfold maxLen; omega) ?_; intro a4 cap4 L4 w4 ow4 kp4 st4))
              have hsb := hb.size
              have hs3 : wr.heap.size ≤ w3.heap.size := by have := kp3.size; simp at this; omega
              have b3 : Below w.heap.size w w3 := kp3.below (hb.alloc hb.size _) (fun _ h => by cases h) (by simp; omega)
              have b4 : Below w.heap.size w w4 := kp4.below b3 (n3.mono (by omega)) (by omega)
              have n4 : New w.heap.size L4 := st4.new (n3.mono (by omega)) (by omega)
              have hfin : p + (n - p) = n := by omega
              rw [ints_take, ints_append, ← HN.out] at ow4
              go_ret2
              exact ⟨a4, p + (n - p), cap4, by rw [HI.out, decide_eq_true hpos]; rfl, fun _ => ⟨hfin, L4, ow4, n4⟩, b4⟩


def slenO : Value → Nat
  | .slice _ n _ => n
  | _ => 0


set_option maxHeartbeats 2000000 in
theorem c_MakeOrders (m Q : Nat) (w : World) (hm : m ≤ 4) (hQ : 0 < Q) (hQb : Q ≤ 200) (h1 : ∀ q, q + 1 < Q → 0 < iTo (lexO m q) (m - 1)) (h2 : iTo (lexO m (Q - 1)) (m - 1) = 0) :
    Calls Try.prog 17 #[.int .i64 m] w fun e w' => ∃ sa sc, e = .returned (.slice sa Q sc) ∧ Gr w' 24 3 w.heap.size sa Q sc (lexAll m Q) ∧ Below w.heap.size w w' := by
  have H1 := Lib.hid h1
  have H2 := Lib.hid h2
  clear h1 h2
  go_enter Try.func17, Try.ntmps17
  go_wp2_with fail
  refine (c_l04First m _ (by omega)).mono ?_
  rintro e w1 ⟨a1, cap1, rfl, ⟨L1, ow1, n1⟩, b1⟩
  simp only [World.size_alloc] at n1 b1
  have b1' : Below w.heap.size w w1 := Below.nx ((Below.refl _ _).alloc (Nat.le_refl _) _) (by simpa using b1)
  clear b1
  go_wp2_with fail
  go_loopw [3, 4] (fun ov nv wr => ∃ (q : Nat) (L : List Nat) (cs : List Cell) (la : Option Addr) (lc : Nat) (Ln : List Nat) (na : Option Addr) (nc : Nat), q < Q ∧ ov = .slice la q lc ∧ nv = .slice na m nc ∧ OwG wr 24 3 L la q lc cs ∧ cs.map (·.xs) = lexAll m q ∧ New w.heap.size (fp L cs) ∧ Ow wr 3 Ln na m nc (ints (lexO m q)) ∧ New w.heap.size Ln ∧ Apart (fp L cs) Ln ∧ Below w.heap.size w wr) (fun ov _ _ => Q - slenO ov)
  case atStart => exact ⟨0, [], [], _, _, L1, a1, cap1, hQ, rfl, rfl, OwG.bare _ _ _ _, rfl, fun _ h => by simp [fp] at h, ow1, n1.mono (by omega), fun _ h => by simp [fp] at h, b1'⟩
  case round =>
    clear ow1 b1'
    obtain ⟨q, L, cs, la, lc, Ln, na, nc, hq, rfl, rfl, og, hex, hnew, own, nwn, ap, hb⟩ := hrel
    have HEX := Lib.hid hex
    clear hex
    have og2 := og.alloc (.cells #[.slice na m nc] 24)
    have own2 := own.alloc (.cells #[.slice na m nc] 24)
    go_wp2_with ((with_reducible show wpList _ _ _ (⟨some 13, _, _, _, _, _⟩ :: _) _ _); refine wpList_app _ rfl _ _ 35 rfl 24 Try.underlying35 infoSlO rfl rfl rfl og2.row (Rd.one' _ _ _ _ (by simp)) (one_slice _ _ _) (by omega) (by unfold maxLen; omega) ?_; intro a3 cap3 L3 w3 ow3 kp3 st3)
    have apL : Apart L Ln := fun i hi => ap i (mem_fp.2 (.inl hi))
    have og3 := og2.push (c := ⟨Ln, na, m, nc, lexO m q⟩) own2 ap ow3 kp3 st3
    have own3 := own2.keep kp3 apL.symm
    have nw3 : New w.heap.size (fp L3 (cs ++ [⟨Ln, na, m, nc, lexO m q⟩])) := hnew.pushO nwn st3 (by simp; have := hb.size; omega)
    have b3 : Below w.heap.size w w3 := kp3.below (hb.alloc hb.size _) (fun i hi => hnew i (mem_fp.2 (.inl hi))) (by simp; have := hb.size; omega)
    have CN := c_l04Next na m nc (lexO m q) w3 own3.rd (by omega)
    by_cases hlast : q + 1 < Q
    · have hp := H1.out q hlast
      rw [decide_eq_true hp] at CN
      have HP := Lib.hid hp
      have CN := Lib.hid CN
      clear hp
      go_wp2_with fail
      refine CN.out.mono ?_
      rintro e w4 ⟨sa, sn, sc, rfl, hsn, b4⟩
      obtain ⟨rfl, L4, ow4, n4⟩ := hsn HP.out
      have og4 := og3.below b4
      have ap4 : Apart (fp L3 (cs ++ [⟨Ln, na, sn, nc, lexO sn q⟩])) L4 := fun i hi hm => by have := og3.old i hi; have := n4 i hm; omega
      have b5 := Below.nx b3 b4
      go_wp2_with fail
      go_roundw
      case rel => exact ⟨q + 1, L3, _, a3, cap3, L4, sa, sc, hlast, rfl, rfl, og4, by rw [List.map_append, HEX.out, lexAll_snoc]; rfl, nw3, ow4, n4.mono b3.size, ap4, b5⟩
      case measure => simp [slenO]; omega
    · obtain rfl : Q = q + 1 := by omega
      have hz := H2.out
      rw [show q + 1 - 1 = q by omega] at hz
      rw [hz] at CN
      have CN := Lib.hid CN
      clear hz
      go_wp2_with fail
      refine CN.out.mono ?_
      rintro e w4 ⟨sa, sn, sc, rfl, _, b4⟩
      have og4 := og3.below b4
      have b5 := Below.nx b3 b4
      go_wp2_with fail
      go_ret
      exact ⟨a3, cap3, rfl, ⟨L3, _, og4, by rw [List.map_append, HEX.out, lexAll_snoc]; rfl, nw3⟩, b5⟩


end Go.Proofs.Ytiiijijbkacneaa

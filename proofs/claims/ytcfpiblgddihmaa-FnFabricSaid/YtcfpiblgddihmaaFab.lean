/- The fabric: the program's walk. No condition but sizes. -/
import Derived.Test.YtcfpiblgddihmaaFabM
import Derived.Test.YtcfpiblgddihmaaTurn
import Derived.Test.YtcfpiblgddihmaaRun1
import Derived.Deep.RegionHeld3
import Derived.Deep.CutRange
namespace Go.Proofs.Ytcfpiblgddihmaa
open Go.RowKit
set_option linter.unusedVariables false
set_option linter.unusedSimpArgs false


theorem c_switchCount (n v : Nat) (w : World) (h : (n = 1 ∧ v = 0) ∨ (n = 2 ∧ v = 1) ∨ (n = 4 ∧ v = 6) ∨ (n = 8 ∧ v = 20)) : Calls Try.prog 28 #[.int .i64 n] w fun e w' => e = .returned (.int .i64 v) ∧ Below w.heap.size w w' := by
  rcases h with ⟨rfl, rfl⟩ | ⟨rfl, rfl⟩ | ⟨rfl, rfl⟩ | ⟨rfl, rfl⟩
  all_goals
    go_enter Try.func28, Try.ntmps28
    go_wp2_with fail
    go_ret
    exact ⟨rfl, (Below.refl _ _).alloc (Nat.le_refl _) _⟩



theorem c_isPower (n : Nat) (w : World) (h : n = 1 ∨ n = 2 ∨ n = 4 ∨ n = 8) : Calls Try.prog 21 #[.int .i64 n] w fun e w' => e = .returned (.bool true) ∧ w = w' := by
  rcases h with rfl | rfl | rfl | rfl
  all_goals
    go_enter Try.func21, Try.ntmps21
    go_wp2_with fail
    go_ret
    exact ⟨rfl, rfl⟩


theorem bits_sub {s : List Int} (h : bitsL s) (a b : Nat) : bitsL ((s.drop a).take b) := by
  intro i hi
  rw [List.length_take, List.length_drop] at hi
  have e : nth ((s.drop a).take b) i = nth s (a + i) := by
    unfold nth List.getD
    rw [List.getElem?_take, if_pos (by omega), List.getElem?_drop]
  rw [e]; exact h _ (by omega)
theorem bits_drop {s : List Int} (h : bitsL s) (a : Nat) : bitsL (s.drop a) := by
  intro i hi
  rw [List.length_drop] at hi
  have e : nth (s.drop a) i = nth s (a + i) := by
    unfold nth List.getD
    rw [List.getElem?_drop]
  rw [e]; exact h _ (by omega)


set_option maxRecDepth 100000 in
set_option maxHeartbeats 4000000 in
theorem c_fabric1 (sa la : Option Addr) (sc lc : Nat) (s l : List Int) (w : World) (hs : RdI w sa 1 sc s) (hb : nth s 0 = 0 ∨ nth s 0 = 1) (hl : RdI w la 2 lc l) :
    Calls Try.prog 24 #[.slice sa 1 sc, .slice la 2 lc] w fun e w' => ∃ oa oc, e = .returned (.slice oa 2 oc) ∧ OwI w' 3 w.heap.size oa 2 oc (fabM 1 s l) ∧ Below w.heap.size w w' := by
  obtain ⟨bs, os, rfl, _, hcs⟩ := hs.int (by omega)
  obtain ⟨bl, ol, rfl, _, hcl⟩ := hl.int (by omega)
  have c0 := hcs 0 (by omega)
  have d0 := hcl 0 (by omega)
  have d1 := hcl 1 (by omega)
  rw [Nat.add_zero] at c0 d0
  have wz0 : IntKind.i64.wrap 0 = 0 := by decide
  have wz1 : IntKind.i64.wrap 1 = 1 := by decide
  have wz2 : IntKind.i64.wrap (1 - 0) = 1 := by decide
  have wz3 : IntKind.i64.wrap (1 - 1) = 0 := by decide
  have wl0 : (0 : Int) ≤ 1 := by decide
  rcases hb with e | e
  · rw [e] at c0
    have HF := Lib.hid (show fabM 1 s l = _ by unfold fabM; rw [e])
    clear e hcs hcl
    go_enter Try.func24, Try.ntmps24
    go_wp2_with fail
    go_region_held3 (fun w' => w'.cell? ⟨bs, os, none⟩ = some (.int .i64 0) ∧ w'.cell? ⟨bl, ol, none⟩ = some (.int .i64 (nth l 0)) ∧ w'.cell? ⟨bl, ol + 1, none⟩ = some (.int .i64 (nth l 1))) (go_keep) (fail)
    all_goals
      go_wp2_with fail
      go_ret
      have ow := (Ow.new' w 3 #[.int .i64 (nth l 0), .int .i64 (nth l 1)] 2 (ints [nth l 0, nth l 1]) rfl rfl (by unfold maxLen; omega)).drew
      exact ⟨_, _, rfl, ⟨[w.heap.size], by rw [HF.out]; exact ow, fun i hi => by simp at hi; omega⟩, below_drewN ((Below.refl _ _).alloc (Nat.le_refl _) _) 1⟩
  · rw [e] at c0
    have HF := Lib.hid (show fabM 1 s l = _ by unfold fabM; rw [e])
    clear e hcs hcl
    go_enter Try.func24, Try.ntmps24
    go_wp2_with fail
    go_region_held3 (fun w' => w'.cell? ⟨bs, os, none⟩ = some (.int .i64 1) ∧ w'.cell? ⟨bl, ol, none⟩ = some (.int .i64 (nth l 0)) ∧ w'.cell? ⟨bl, ol + 1, none⟩ = some (.int .i64 (nth l 1))) (go_keep) (fail)
    all_goals
      go_wp2_with fail
      go_ret
      have ow := (Ow.new' w 3 #[.int .i64 (nth l 1), .int .i64 (nth l 0)] 2 (ints [nth l 1, nth l 0]) rfl rfl (by unfold maxLen; omega)).drew
      exact ⟨_, _, rfl, ⟨[w.heap.size], by rw [HF.out]; exact ow, fun i hi => by simp at hi; omega⟩, below_drewN ((Below.refl _ _).alloc (Nat.le_refl _) _) 1⟩

set_option maxRecDepth 100000 in
set_option maxHeartbeats 8000000 in
theorem c_fabricStep (h m : Nat) (f : List Int → List Int → List Int) (h2 : 2 ≤ h) (h8 : h ≤ 8) (hm : m ≤ 50)
    (SW : ∀ w, Calls Try.prog 28 #[.int .i64 h] w fun e w' => e = .returned (.int .i64 m) ∧ Below w.heap.size w w')
    (IH : ∀ (sa la : Option Addr) (sc lc : Nat) (s l : List Int) (w : World), RdI w sa m sc s → bitsL s → RdI w la h lc l →
      Calls Try.prog 24 #[.slice sa m sc, .slice la h lc] w fun e w' => ∃ oa oc, e = .returned (.slice oa h oc) ∧ OwI w' 3 w.heap.size oa h oc (f s l) ∧ Below w.heap.size w w')
    (sa la : Option Addr) (n ns sc lc : Nat) (s l : List Int) (w : World) (hn : n = 2 * h) (hns : ns = 2 * h + 2 * m) (hs : RdI w sa ns sc s) (hb : bitsL s) (hl : RdI w la n lc l) :
    Calls Try.prog 24 #[.slice sa ns sc, .slice la n lc] w fun e w' => ∃ oa oc, e = .returned (.slice oa n oc) ∧ OwI w' 3 w.heap.size oa n oc (fabS h m f s l) ∧ Below w.heap.size w w' := by
  have HSW := Lib.hid SW
  have HIH := Lib.hid IH
  have HSL := Lib.hid hs.lens
  have HLL := Lib.hid hl.lens
  have hbb : ∀ i, i < h → nth s i = 0 ∨ nth s i = 1 := fun i hi => hb i (by rw [hs.lens]; omega)
  have HB := Lib.hid hb
  have HBB := Lib.hid hbb
  have HN := Lib.hid hn
  have HNS := Lib.hid hns
  have hhalf : Int.tdiv (n : Int) 2 = (h : Int) := by rw [Int.tdiv_eq_ediv_of_nonneg (by omega)]; omega
  have z1 : ((n : Int) == 1) = false := by rw [beq_eq_false_iff_ne]; omega
  have z2 : ((n : Int) == 2) = false := by rw [beq_eq_false_iff_ne]; omega
  have hmk := run_make_row' (P := Try.prog) 23 3 (.int .i64 0) 8 Try.underlying23 infoInt rfl .i64 .i64 n (by omega) (by omega)
  have hn16 : n ≤ 16 := by omega
  have hnh : h ≤ n := by omega
  have hsle := hs.le
  have hsmx := hs.max
  unfold maxLen at hsmx
  clear SW IH hb hbb hn hns
  go_enter Try.func24, Try.ntmps24
  go_wp2_with fail
  refine (HSW.out _).mono ?_
  rintro e w1 ⟨rfl, b1⟩
  go_wp2_with fail
  obtain ⟨B, hB⟩ : ∃ B, w1.heap.size = B := ⟨_, rfl⟩
  rw [hB]
  have hwB : w.heap.size ≤ B := by rw [← hB]; exact b1.size
  have bw0 : Below w.heap.size w ((w1.alloc (.cells #[] 3)).alloc (.cells #[] 3)) := (b1.alloc b1.size _).alloc (by have := b1.size; simp; omega) _
  have hBs : B ≤ ((w1.alloc (.cells #[] 3)).alloc (.cells #[] 3)).heap.size := by simp; omega
  obtain ⟨wa, hwa⟩ : ∃ wa, (w1.alloc (.cells #[] 3)).alloc (.cells #[] 3) = wa := ⟨_, rfl⟩
  rw [hwa] at bw0 hBs ⊢
  clear hwa hB b1
  go_loopw [8, 9, 45] (fun u v i wr => ∃ k : Nat, ∃ L1 a1 c1 L2 a2 c2, k ≤ h ∧ i = .int .i64 k ∧ u = .slice a1 k c1 ∧ v = .slice a2 k c2 ∧ Ow wr 3 L1 a1 k c1 (ints (upL s l k)) ∧ Ow wr 3 L2 a2 k c2 (ints (loL s l k)) ∧ New B L1 ∧ New B L2 ∧ Apart L1 L2 ∧ Below w.heap.size w wr ∧ B ≤ wr.heap.size) (fun _ _ i _ => h - (intOf i).toNat)
  case atStart => exact ⟨0, [], _, _, [], _, _, by omega, rfl, rfl, rfl, Ow.bare _ _ _, Ow.bare _ _ _, fun _ h => (by cases h), fun _ h => (by cases h), Apart.nil _, bw0, hBs⟩
  case round =>
    as_aux_lemma =>
    obtain ⟨k, L1, a1, c1, L2, a2, c2, hk, rfl, rfl, rfl, ow1, ow2, nw1, nw2, hap, hb, hBr⟩ := hrel
    have m1 := ow1.max
    have m2 := ow2.max
    unfold maxLen at m1 m2
    have l1 := ow1.le
    have l2 := ow2.le
    by_cases hkh : k < h
    · have q0 := HNS.out
      have q1 := HN.out
      obtain ⟨bs, os, rfl, hbs, hcs⟩ := hs.int (by omega)
      obtain ⟨bl, ol, rfl, hbl, hcl⟩ := hl.int (by omega)
      have bk := HBB.out k hkh
      have U := Lib.hid (upL_succ s l k)
      have L := Lib.hid (loL_succ s l k)
      have cs := hcs k (by omega)
      obtain ⟨sv, hsv⟩ : ∃ sv : Nat, nth s k = (sv : Int) ∧ sv ≤ 1 := by
        rcases bk with e | e
        · exact ⟨0, by rw [e]; rfl, by omega⟩
        · exact ⟨1, by rw [e]; rfl, by omega⟩
      obtain ⟨k2, hk2⟩ : ∃ k2 : Nat, (2 : Int) * (k : Int) = (k2 : Int) := ⟨2 * k, by omega⟩
      obtain ⟨p1, hp1⟩ : ∃ p1 : Nat, (k2 : Int) + (sv : Int) = (p1 : Int) := ⟨k2 + sv, by omega⟩
      obtain ⟨k3, hk3⟩ : ∃ k3 : Nat, (k2 : Int) + 1 = (k3 : Int) := ⟨k2 + 1, by omega⟩
      obtain ⟨p2, hp2⟩ : ∃ p2 : Nat, (k3 : Int) - (sv : Int) = (p2 : Int) := ⟨k3 - sv, by omega⟩
      have hl1 : p1 < n := by have := HN.out; omega
      have hl2 : p2 < n := by have := HN.out; omega
      have d1 := hcl p1 hl1
      have d2 := hcl p2 hl2
      rw [hsv.1] at cs U L
      have U := Lib.hid (show upL s l (k + 1) = upL s l k ++ [nth l p1] by rw [U.out, Int.toNat_natCast]; congr 3; omega)
      have L := Lib.hid (show loL s l (k + 1) = loL s l k ++ [nth l p2] by rw [L.out, Int.toNat_natCast]; congr 3; omega)
      have cs' := (hb.cell (p := ⟨bs, os + k, none⟩) hbs).trans cs
      have d1' := (hb.cell (p := ⟨bl, ol + p1, none⟩) hbl).trans d1
      have d2' := (hb.cell (p := ⟨bl, ol + p2, none⟩) hbl).trans d2
      obtain ⟨x1, hx1⟩ : ∃ x1, nth l p1 = x1 := ⟨_, rfl⟩
      obtain ⟨x2, hx2⟩ : ∃ x2, nth l p2 = x2 := ⟨_, rfl⟩
      rw [hx1] at d1 d1' U
      rw [hx2] at d2 d2' L
      have hsv1 := hsv.2
      have hsk : k < ns := by omega
      have CS := Lib.hid cs
      have D2 := Lib.hid d2
      clear hcs hcl bk hsv hx1 hx2 cs d1 d2 q0 q1
      go_wp2_with (first | ((with_reducible show wpList _ _ _ (⟨some 60, _, _, _, _, _⟩ :: _) _ _); refine wpList_app _ rfl _ _ 23 rfl 3 Try.underlying23 infoInt rfl rfl rfl (ow1.alloc (.cells #[.int .i64 x1] 3)) (Rd.one _ _ _) (one_int _) (by omega) (by unfold maxLen; omega) ?_; intro a5 cap5 L5 w5 ow5 kp5 st5; have b5 : Below w.heap.size w w5 := kp5.below (hb.alloc hb.size _) (nw1.mono hwB) (by have := hb.size; simp; omega); have cs5 := (b5.cell (p := ⟨bs, os + k, none⟩) hbs).trans CS.out; have d25 := (b5.cell (p := ⟨bl, ol + p2, none⟩) hbl).trans D2.out; have ow25 : Ow w5 3 L2 a2 k c2 (ints (loL s l k)) := (ow2.alloc (.cells #[.int .i64 x1] 3)).keep kp5 hap.symm; have hap5 : Apart L5 L2 := hap.step st5 (ow2.alloc (.cells #[.int .i64 x1] 3)).old; have n5 : New B L5 := st5.new nw1 (by simp; omega); have s5 : B ≤ w5.heap.size := by (have := kp5.size; simp at this; omega)) | ((with_reducible show wpList _ _ _ (⟨some 74, _, _, _, _, _⟩ :: _) _ _); refine wpList_app _ rfl _ _ 23 rfl 3 Try.underlying23 infoInt rfl rfl rfl (ow25.alloc (.cells #[.int .i64 x2] 3)) (Rd.one _ _ _) (one_int _) (by omega) (by unfold maxLen; omega) ?_; intro a6 cap6 L6 w6 ow6 kp6 st6))
      have b6 : Below w.heap.size w w6 := kp6.below (b5.alloc b5.size _) (nw2.mono hwB) (by have := b5.size; simp; omega)
      have hap6 : Apart L5 L6 := (hap5.symm.step st6 (ow5.alloc (.cells #[.int .i64 x2] 3)).old).symm
      have n6 : New B L6 := st6.new nw2 (by simp; omega)
      have ow56 := (ow5.alloc (.cells #[.int .i64 x2] 3)).keep kp6 hap5
      go_roundw
      case rel => exact ⟨k + 1, L5, a5, cap5, L6, a6, cap6, by omega, by go_num, rfl, rfl, by rw [U.out, ← ints_snoc]; exact ow56, by rw [L.out, ← ints_snoc]; exact ow6, n5, n6, hap6, b6, by have := kp6.size; simp at this; omega⟩
      case measure => simp [intOf]; omega
    · obtain rfl : h = k := by omega
      have q0 := HNS.out
      have q1 := HN.out
      have r1 := ow1.rd
      have r2 := ow2.rd
      obtain ⟨mm, hmm, hmm2⟩ : ∃ mm : Nat, (2 : Int) * (m : Int) = (mm : Int) ∧ mm = 2 * m := ⟨2 * m, by omega, rfl⟩
      have HMM := Lib.hid hmm2
      have hmm3 : mm ≤ 100 := by omega
      have hmm4 : IntKind.i64.wrap (mm : Int) = (mm : Int) := by rw [IntKind.wrap_i64]; omega
      clear hmm2
      obtain ⟨e1, he1⟩ : ∃ e1 : Nat, (h : Int) + (m : Int) = (e1 : Int) := ⟨h + m, by omega⟩
      obtain ⟨e2, he2⟩ : ∃ e2 : Nat, (h : Int) + (mm : Int) = (e2 : Int) := ⟨h + mm, by omega⟩
      have HE1 := Lib.hid (show e1 = h + m by omega)
      have HE2 := Lib.hid (show e2 = h + 2 * m by have := HMM.out; omega)
      have g1 : h ≤ e1 := by have := HE1.out; omega
      have g2 : e1 ≤ ns := by have := HE1.out; omega
      have g3 : e1 ≤ e2 := by have := HE1.out; have := HE2.out; omega
      have g4 : e2 ≤ ns := by have := HE2.out; omega
      have HD1 := Lib.hid (show e1 - h = m by have := HE1.out; omega)
      have HD2 := Lib.hid (show e2 - e1 = m by have := HE1.out; have := HE2.out; omega)
      have HD3 := Lib.hid (show ns - e2 = h by have := HE2.out; omega)
      have HX1 := Lib.hid (show (s.take e1).drop h = (s.drop h).take m by rw [List.drop_take, HD1.out])
      have HX2 := Lib.hid (show (s.take e2).drop e1 = (s.drop (h + m)).take m by rw [List.drop_take, HD2.out, HE1.out])
      have HX3 := Lib.hid (show s.drop e2 = s.drop (h + 2 * m) by rw [HE2.out])
      have hs1 := hs.below hb
      clear q0 q1 ow1 ow2 nw1 nw2 hap
      go_wp2_with ((with_reducible show wpList _ _ _ (⟨some 81, _, _, _, _, _⟩ :: _) _ _); refine wpList_cut _ rfl (.tmp 76) (.tmp 77) (.tmp 80) 23 rfl 3 Try.underlying23 szInt h e1 rfl rfl rfl rfl rfl hs1 g1 g2 ?_; intro a3 ha3 r3; clear ha3; rw [HD1.out] at r3 ⊢)
      rw [ints_take, ints_drop, HX1.out] at r3
      have K1 := Lib.hid (HIH.out a3 a1 (sc - h) c1 _ _ wr r3 (bits_sub HB.out h m) r1)
      refine K1.out.mono ?_
      rintro e w3 ⟨ua, uc, rfl, ⟨Lu, owu, nwu⟩, b3⟩
      clear K1 r3
      have hb3 : Below w.heap.size w w3 := Below.nx hb b3
      have hs3 := hs1.below b3
      have r2 := r2.below b3
      go_wp2_with ((with_reducible show wpList _ _ _ (⟨some 92, _, _, _, _, _⟩ :: _) _ _); refine wpList_cut _ rfl (.tmp 84) (.tmp 87) (.tmp 91) 23 rfl 3 Try.underlying23 szInt e1 e2 rfl rfl rfl rfl rfl hs3 g3 g4 ?_; intro a4 ha4 r4; clear ha4; rw [HD2.out] at r4 ⊢)
      rw [ints_take, ints_drop, HX2.out] at r4
      have K2 := Lib.hid (HIH.out a4 a2 (sc - e1) c2 _ _ w3 r4 (bits_sub HB.out (h + m) m) r2)
      refine K2.out.mono ?_
      rintro e w4 ⟨va, vc, rfl, ⟨Lv, owv, nwv⟩, b4⟩
      clear K2 r4
      have hb4 : Below w.heap.size w w4 := Below.nx hb3 b4
      have hs4 := hs3.below b4
      have owu := owu.below b4
      clear b3 hs3 hs1 r1 r2 hb3
      obtain ⟨us, hus⟩ : ∃ us, f ((s.drop h).take m) (upL s l h) = us := ⟨_, rfl⟩
      obtain ⟨vs, hvs⟩ : ∃ vs, f ((s.drop (h + m)).take m) (loL s l h) = vs := ⟨_, rfl⟩
      obtain ⟨ts, hts⟩ : ∃ ts, s.drop (h + 2 * m) = ts := ⟨_, rfl⟩
      have HR := Lib.hid (show fabS h m f s l = outM ts us vs n h by unfold fabS; rw [hus, hvs, hts, ← HN.out])
      have htb : bitsL ts := by rw [← hts]; exact bits_drop HB.out _
      rw [hus] at owu
      rw [hvs] at owv
      have HX3 := Lib.hid (show s.drop e2 = ts by rw [HX3.out, hts])
      have HTB := Lib.hid htb
      clear hus hvs hts htb HX1 HX2
      go_wp2_with ((with_reducible show wpList _ _ _ (⟨some 102, _, _, _, _, _⟩ :: _) _ _); refine wpList_from _ rfl (.tmp 97) (.tmp 101) 23 rfl 3 Try.underlying23 szInt e2 rfl rfl rfl (hs4.below ((Below.refl _ _).alloc (Nat.le_refl _) _)) g4 ?_; intro a5 ha5 r5; have HA5 := Lib.hid ha5; clear ha5; rw [HD3.out] at r5 ⊢)
      have r5 := hs4.from e2 g4
      rw [← HA5.out, ints_drop, HX3.out, HD3.out] at r5
      clear HA5
      have hTL := Lib.hid r5.lens
      obtain ⟨g, hg⟩ : ∃ g, w4.heap.size = g := ⟨_, rfl⟩
      obtain ⟨w5, hw5⟩ : ∃ w5, w4.alloc (.cells (madeCells #[.int .i64 0] n) 3) = w5 := ⟨_, rfl⟩
      have own0 : Ow w5 3 [g] (some ⟨g, 0, none⟩) n n (ints (outM ts us vs n 0)) := by
        rw [← hw5, ← hg]
        exact Ow.new' _ _ _ _ _ (size_madeCells _ _) (by rw [toList_madeCells_one]; simp [outM]) (by unfold maxLen; omega)
      have b5 : Below w4.heap.size w4 w5 := by rw [← hw5]; exact (Below.refl _ _).alloc (Nat.le_refl _) _
      have hs5 : w5.heap.size = g + 1 := by rw [← hw5, ← hg]; simp
      have ru := owu.rd
      have rv := owv.rd
      rw [hw5, hg]
      have HS5 := Lib.hid hs5
      have HG := Lib.hid hg
      clear hw5 hs5 owu owv nwu nwv hs4 hmm4 hmm3 hmm he1 he2 g1 g2 g3 g4 HD1 HD2 HD3 HX3 hmk
      go_loopw [104] (fun i wr => ∃ k : Nat, k ≤ h ∧ i = .int .i64 k ∧ Ow wr 3 [g] (some ⟨g, 0, none⟩) n n (ints (outM ts us vs n k)) ∧ Keeps [g] w5 wr) (fun i _ => h - (intOf i).toNat)
      case atStart => exact ⟨0, by omega, rfl, own0, Keeps.refl _ _⟩
      case round =>
        as_aux_lemma =>
        obtain ⟨k, hk, rfl, how, kk⟩ := hrel
        have hn2 := HN.out
        by_cases hkh2 : k < h
        · have Bk : Below w4.heap.size w4 wr := kk.below b5 (fun i hi => by simp at hi; have := HG.out; omega) (by have := HG.out; have := HS5.out; omega)
          obtain ⟨bt, ot, rfl, hbt, hct⟩ := r5.int (by omega)
          obtain ⟨bu, ou, rfl, hbu, hcu⟩ := ru.int (by omega)
          obtain ⟨bv, ov, rfl, hbv, hcv⟩ := rv.int (by omega)
          have ct := (Bk.cell (p := ⟨bt, ot + k, none⟩) hbt).trans (hct k hkh2)
          have cu := (Bk.cell (p := ⟨bu, ou + k, none⟩) hbu).trans (hcu k hkh2)
          have cv := (Bk.cell (p := ⟨bv, ov + k, none⟩) hbv).trans (hcv k hkh2)
          have bk := HTB.out k (by rw [hTL.out]; exact hkh2)
          obtain ⟨tv, htv, htv1⟩ : ∃ tv : Nat, nth ts k = (tv : Int) ∧ tv ≤ 1 := by
            rcases bk with e | e
            · exact ⟨0, by rw [e]; rfl, by omega⟩
            · exact ⟨1, by rw [e]; rfl, by omega⟩
          obtain ⟨k2, hk2⟩ : ∃ k2 : Nat, (2 : Int) * (k : Int) = (k2 : Int) := ⟨2 * k, by omega⟩
          obtain ⟨p1, hp1⟩ : ∃ p1 : Nat, (k2 : Int) + (tv : Int) = (p1 : Int) := ⟨k2 + tv, by omega⟩
          obtain ⟨k3, hk3⟩ : ∃ k3 : Nat, (k2 : Int) + 1 = (k3 : Int) := ⟨k2 + 1, by omega⟩
          obtain ⟨p2, hp2⟩ : ∃ p2 : Nat, (k3 : Int) - (tv : Int) = (p2 : Int) := ⟨k3 - tv, by omega⟩
          have hl1 : p1 < n := by omega
          have hl2 : p2 < n := by omega
          have hpp : ¬ (p1 = p2) := by omega
          have hpp2 : ¬ (p2 = p1) := by omega
          obtain ⟨x, hx⟩ : ∃ x, nth us k = x := ⟨_, rfl⟩
          obtain ⟨y, hy⟩ : ∃ y, nth vs k = y := ⟨_, rfl⟩
          rw [htv] at ct
          rw [hx] at cu
          rw [hy] at cv
          have HO := Lib.hid (show outM ts us vs n (k + 1) = ((outM ts us vs n k).set p1 x).set p2 y by
            simp only [outM]
            rw [htv, hx, hy, Int.toNat_natCast, show 2 * k + tv = p1 by omega, show 2 * k + 1 - tv = p2 by omega])
          obtain ⟨g', e1', _, hgl, hoc, hof⟩ := how.int (by omega)
          obtain rfl : g = g' := by simpa using e1'
          have o1 := hoc p1 hl1
          have o2 := hoc p2 hl2
          have f1 := hof p1
          have f2 := hof p2
          have ne1 : ¬ (bu = g) := by have := HG.out; omega
          have ne2 : ¬ (bv = g) := by have := HG.out; omega
          have ne3 : ¬ (g = bu) := fun e => ne1 e.symm
          have ne4 : ¬ (g = bv) := fun e => ne2 e.symm
          have wk2 : IntKind.i64.wrap (k2 : Int) = (k2 : Int) := by rw [IntKind.wrap_i64]; omega
          have wk3 : IntKind.i64.wrap (k3 : Int) = (k3 : Int) := by rw [IntKind.wrap_i64]; omega
          have wp1 : IntKind.i64.wrap (p1 : Int) = (p1 : Int) := by rw [IntKind.wrap_i64]; omega
          have wp2 : IntKind.i64.wrap (p2 : Int) = (p2 : Int) := by rw [IntKind.wrap_i64]; omega
          clear hct hcu hcv hoc hof htv hx hy bk e1' hn2
          go_wp2_with fail
          go_region_held3 (fun w' => w'.cell? ⟨bu, ou + k, none⟩ = some (.int .i64 x) ∧ w'.cell? ⟨bv, ov + k, none⟩ = some (.int .i64 y)) (go_keep) (fail)
          all_goals
            go_wp2_with fail
            go_roundw
            case rel =>
              refine ⟨k + 1, by omega, by go_num, ?_, kk.trans ((Keeps.drewN [g] wr 1).trans ((Keeps.setCell _ g p1 _).trans (Keeps.setCell _ g p2 _) (Step.refl _ _)) (Step.refl _ _)) (Step.refl _ _)⟩
              have q := ((how.drewN 1).set p1 (.int .i64 x)).set p2 (.int .i64 y)
              rw [ints_set, ints_set] at q
              rw [HO.out]
              exact q
            case measure => simp [intOf]; omega
        · obtain rfl : k = h := by omega
          have Bf : Below w.heap.size w wr := kk.below (Below.nx hb4 b5) (fun i hi => by simp at hi; have := HG.out; have := hb4.size; omega) (by have := (Below.nx hb4 b5).size; omega)
          go_wp2_with fail
          go_ret
          exact ⟨_, _, rfl, ⟨[g], by rw [HR.out]; exact how, fun i hi => by simp at hi; have := HG.out; have := hb4.size; omega⟩, Bf⟩



/-- The fabric at 2, 4, 8 numbers. -/
theorem c_fabD1 (sa la : Option Addr) (sc lc : Nat) (s l : List Int) (w : World) (hs : RdI w sa 1 sc s) (hb : bitsL s) (hl : RdI w la 2 lc l) :
    Calls Try.prog 24 #[.slice sa 1 sc, .slice la 2 lc] w fun e w' => ∃ oa oc, e = .returned (.slice oa 2 oc) ∧ OwI w' 3 w.heap.size oa 2 oc (fabM 1 s l) ∧ Below w.heap.size w w' :=
  c_fabric1 sa la sc lc s l w hs (hb 0 (by rw [hs.lens]; omega)) hl
theorem c_fabD2 (sa la : Option Addr) (sc lc : Nat) (s l : List Int) (w : World) (hs : RdI w sa 6 sc s) (hb : bitsL s) (hl : RdI w la 4 lc l) :
    Calls Try.prog 24 #[.slice sa 6 sc, .slice la 4 lc] w fun e w' => ∃ oa oc, e = .returned (.slice oa 4 oc) ∧ OwI w' 3 w.heap.size oa 4 oc (fabM 2 s l) ∧ Below w.heap.size w w' :=
  c_fabricStep 2 1 (fabM 1) (by omega) (by omega) (by omega) (fun w => c_switchCount 2 1 w (by omega)) c_fabD1 sa la 4 6 sc lc s l w rfl rfl hs hb hl
theorem c_fabD3 (sa la : Option Addr) (sc lc : Nat) (s l : List Int) (w : World) (hs : RdI w sa 20 sc s) (hb : bitsL s) (hl : RdI w la 8 lc l) :
    Calls Try.prog 24 #[.slice sa 20 sc, .slice la 8 lc] w fun e w' => ∃ oa oc, e = .returned (.slice oa 8 oc) ∧ OwI w' 3 w.heap.size oa 8 oc (fabM 3 s l) ∧ Below w.heap.size w w' :=
  c_fabricStep 4 6 (fabM 2) (by omega) (by omega) (by omega) (fun w => c_switchCount 4 6 w (by omega)) c_fabD2 sa la 8 20 sc lc s l w rfl rfl hs hb hl
/-- A depth, its wires, its switches. -/
def Dep (d n m : Nat) : Prop := (d = 1 ∧ n = 2 ∧ m = 1) ∨ (d = 2 ∧ n = 4 ∧ m = 6) ∨ (d = 3 ∧ n = 8 ∧ m = 20)
theorem c_fabD (d n m : Nat) (hd : Dep d n m) (sa la : Option Addr) (sc lc : Nat) (s l : List Int) (w : World) (hs : RdI w sa m sc s) (hb : bitsL s) (hl : RdI w la n lc l) :
    Calls Try.prog 24 #[.slice sa m sc, .slice la n lc] w fun e w' => ∃ oa oc, e = .returned (.slice oa n oc) ∧ OwI w' 3 w.heap.size oa n oc (fabM d s l) ∧ Below w.heap.size w w' := by
  rcases hd with ⟨rfl, rfl, rfl⟩ | ⟨rfl, rfl, rfl⟩ | ⟨rfl, rfl, rfl⟩
  · exact c_fabD1 sa la sc lc s l w hs hb hl
  · exact c_fabD2 sa la sc lc s l w hs hb hl
  · exact c_fabD3 sa la sc lc s l w hs hb hl
theorem Dep.sw {d n m : Nat} (h : Dep d n m) : (n = 1 ∧ m = 0) ∨ (n = 2 ∧ m = 1) ∨ (n = 4 ∧ m = 6) ∨ (n = 8 ∧ m = 20) := by
  rcases h with ⟨rfl, rfl, rfl⟩ | ⟨rfl, rfl, rfl⟩ | ⟨rfl, rfl, rfl⟩ <;> omega
theorem Dep.pow {d n m : Nat} (h : Dep d n m) : n = 2 ^ d ∧ m = swM d ∧ n ≤ 8 ∧ m ≤ 20 ∧ 2 ≤ n := by
  rcases h with ⟨rfl, rfl, rfl⟩ | ⟨rfl, rfl, rfl⟩ | ⟨rfl, rfl, rfl⟩ <;> decide



/-- Index by number: writes k, k - 1, .. -/
def invT (o : List Int) (n : Nat) : Nat → List Int
  | 0 => List.replicate n 0
  | k + 1 => (invT o n k).set (oN o k) (k : Int)
theorem invT_len (o : List Int) (n k : Nat) : (invT o n k).length = n := by
  induction k with
  | zero => simp [invT]
  | succ k ih => simp [invT, ih]
theorem invT_at {o : List Int} {n : Nat} (hlt : ∀ p, p < n → oN o p < n) (hin : ∀ p q, p < n → q < n → oN o p = oN o q → p = q) (k : Nat) (hk : k ≤ n) : ∀ p, p < k → nth (invT o n k) (oN o p) = (p : Int) := by
  induction k with
  | zero => intro p hp; omega
  | succ k ih =>
    intro p hp
    rw [invT, nth_setL _ _ _ _ (by rw [invT_len]; exact hlt k (by omega))]
    by_cases e : oN o k = oN o p
    · rw [if_pos e, hin k p (by omega) (by omega) e]
    · rw [if_neg e]
      exact ih (by omega) p (by
        by_cases e2 : p = k
        · rw [e2] at e; exact absurd rfl e
        · omega)
set_option maxHeartbeats 1000000 in
theorem c_inverse (a : Option Addr) (n cap : Nat) (o : List Int) (w : World) (hr : RdI w a n cap o) (hn : n ≤ 100) (hb : ∀ p, p < n → 0 ≤ nth o p ∧ nth o p < n) :
    Calls Try.prog 30 #[.slice a n cap] w fun e w' => ∃ oa oc, e = .returned (.slice oa n oc) ∧ OwI w' 3 w.heap.size oa n oc (invT o n n) ∧ Below w.heap.size w w' := by
  have HB := Lib.hid hb
  have hmk := run_make_row' (P := Try.prog) 23 3 (.int .i64 0) 8 Try.underlying23 infoInt rfl .i64 .i64 n (by omega) (by omega)
  clear hb
  obtain ⟨w0, hw0⟩ : ∃ w0, w.alloc (.cells (madeCells #[.int .i64 0] n) 3) = w0 := ⟨_, rfl⟩
  have own0 : Ow w0 3 [w.heap.size] (some ⟨w.heap.size, 0, none⟩) n n (ints (invT o n 0)) := by
    rw [← hw0]
    exact Ow.new' _ _ _ _ _ (size_madeCells _ _) (by rw [toList_madeCells_one]; simp [invT]) (by unfold maxLen; omega)
  have b0 : Below w.heap.size w w0 := by rw [← hw0]; exact (Below.refl _ _).alloc (Nat.le_refl _) _
  have hs0 : w0.heap.size = w.heap.size + 1 := by rw [← hw0]; simp
  have HW0 := Lib.hid hw0
  have HS0 := Lib.hid hs0
  clear hw0 hs0
  go_enter Try.func30, Try.ntmps30
  go_wp2_with fail
  rw [HW0.out]
  obtain ⟨g, hg⟩ : ∃ g, w.heap.size = g := ⟨_, rfl⟩
  rw [hg] at own0 ⊢
  have HG := Lib.hid hg
  clear hg hmk
  go_loopw [11] (fun i wr => ∃ k : Nat, k ≤ n ∧ i = .int .i64 k ∧ Ow wr 3 [g] (some ⟨g, 0, none⟩) n n (ints (invT o n k)) ∧ Keeps [g] w0 wr) (fun i _ => n - (intOf i).toNat)
  case atStart => exact ⟨0, by omega, rfl, own0, Keeps.refl _ _⟩
  case round =>
    obtain ⟨k, hk, rfl, how, kk⟩ := hrel
    have Bk : Below w.heap.size w wr := kk.below b0 (fun i hi => by simp at hi; have := HG.out; omega) (by have := HS0.out; omega)
    by_cases hlt : k < n
    · obtain ⟨bo, oo, rfl, hbo, hco⟩ := hr.int (by omega)
      have co := (Bk.cell (p := ⟨bo, oo + k, none⟩) hbo).trans (hco k hlt)
      have hbk := HB.out k hlt
      obtain ⟨v, hv⟩ : ∃ v : Nat, nth o k = (v : Int) := ⟨(nth o k).toNat, by omega⟩
      rw [hv] at co hbk
      have hvn : v < n := by omega
      have HO := Lib.hid (show invT o n (k + 1) = (invT o n k).set v (k : Int) by rw [invT, show oN o k = v by unfold oN; rw [hv]; rfl])
      obtain ⟨g', e1, _, hgl, hoc, hof⟩ := how.int (by omega)
      obtain rfl : g = g' := by simpa using e1
      have o1 := hoc v hvn
      have f1 := hof v
      clear hco hoc hof hv e1 hbk
      go_wp2_with fail
      go_roundw
      case rel =>
        refine ⟨k + 1, by omega, by go_num, ?_, kk.trans (Keeps.setCell _ g v _) (Step.refl _ _)⟩
        have q := how.set v (.int .i64 (k : Int))
        rw [ints_set] at q
        rw [HO.out]; exact q
      case measure => simp [intOf]; omega
    · obtain rfl : k = n := by omega
      go_wp2_with fail
      go_ret
      exact ⟨_, _, rfl, ⟨[g], how, fun i hi => by simp at hi; have := HG.out; omega⟩, Bk⟩


end Go.Proofs.Ytcfpiblgddihmaa

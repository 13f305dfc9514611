/- Settings by loops: the program's walk. No condition but sizes. -/
import Derived.Test.YtcfpiblgddihmaaFab
import Derived.Test.YtcfpiblgddihmaaGreedyL
import Derived.Test.YtcfpiblgddihmaaConcat
import Derived.Deep.LoopGhost
namespace Go.Proofs.Ytcfpiblgddihmaa
open Go.RowKit
set_option linter.unusedVariables false
set_option linter.unusedSimpArgs false

theorem Order.ord2 {o : List Int} {h : Nat} (ho : Order o (2 * h)) : Ord2 o h := by
  refine ⟨fun p hp => ?_, fun p q hp hq e => ?_⟩
  · have := ho.2.1 p hp; unfold oN; omega
  · have a := ho.2.1 p hp
    have b := ho.2.1 q hq
    unfold oN at e
    rcases Nat.lt_trichotomy p q with h1 | h1 | h1
    · exact absurd (by omega) (ho.2.2 p q h1 hq)
    · exact h1
    · exact absurd (by omega) (ho.2.2 q p h1 hp)
theorem Order.find {o : List Int} {h : Nat} (ho : Order o (2 * h)) : ∀ v, v < 2 * h → ∃ p, p < 2 * h ∧ oN o p = v := by
  intro v hv
  obtain ⟨p, hp, e⟩ := take_sub ho v hv
  exact ⟨p, hp, by unfold oN; rw [e]; rfl⟩
theorem Split.orders {o first last upper lower : List Int} {h : Nat} (P : Split o h first last upper lower) : Order upper h ∧ Order lower h := by
  refine ⟨⟨P.hu, fun j hj => ?_, P.ui⟩, ⟨P.hw, fun j hj => ?_, P.li⟩⟩
  · obtain ⟨x, hx, e, _⟩ := P.uo j hj
    rw [e]; omega
  · obtain ⟨x, hx, e, _⟩ := P.lo j hj
    rw [e]; omega

structure Arr (wr : World) (Ti Tb : TypeId) (gf gl gu gw gs h : Nat) (S : List Bool) (last first upper lower : List Int) : Prop where
  f : Ow wr Ti [gf] (some ⟨gf, 0, none⟩) h h (ints first)
  l : Ow wr Ti [gl] (some ⟨gl, 0, none⟩) h h (ints last)
  u : Ow wr Ti [gu] (some ⟨gu, 0, none⟩) h h (ints upper)
  w : Ow wr Ti [gw] (some ⟨gw, 0, none⟩) h h (ints lower)
  s : Ow wr Tb [gs] (some ⟨gs, 0, none⟩) h h (bools S)

theorem Ow.at1 {w : World} {T : TypeId} {g n cap : Nat} {xs : List Int} (h : Ow w T [g] (some ⟨g, 0, none⟩) n cap (ints xs)) {j : Nat} (hj : j < n) : w.cell? ⟨g, j, none⟩ = some (.int .i64 (nth xs j)) ∧ w.frozen? ⟨g, j, none⟩ = false := by
  obtain ⟨g', e1, _, _, hc, hf⟩ := h.int (by have := h.le; omega)
  obtain rfl : g = g' := by simpa using e1
  exact ⟨hc j hj, hf j⟩
theorem Ow.at2 {w : World} {T : TypeId} {g n cap : Nat} {xs : List Bool} (h : Ow w T [g] (some ⟨g, 0, none⟩) n cap (bools xs)) {j : Nat} (hj : j < n) : w.cell? ⟨g, j, none⟩ = some (.bool (getB xs j)) ∧ w.frozen? ⟨g, j, none⟩ = false := by
  obtain ⟨g', e1, _, _, hc, hf⟩ := h.bool (by have := h.le; omega)
  obtain rfl : g = g' := by simpa using e1
  exact ⟨hc j hj, hf j⟩
theorem xor_pt : ∀ v : Nat, v < 16 → bits .xor .i64 (v : Int) 1 = (pt v : Int) := by decide +kernel
def Ne5 (gf gl gu gw gs : Nat) : Prop := gf ≠ gl ∧ gf ≠ gu ∧ gf ≠ gw ∧ gf ≠ gs ∧ gl ≠ gu ∧ gl ≠ gw ∧ gl ≠ gs ∧ gu ≠ gw ∧ gu ≠ gs ∧ gw ≠ gs
theorem Ow.far {w : World} {T : TypeId} {g : Nat} {a : Option Addr} {n cap : Nat} {vs : List Value} (h : Ow w T [g] a n cap vs) (g2 j : Nat) (v : Value) (hne : g ≠ g2) : Ow (w.setCell ⟨g2, j, none⟩ v) T [g] a n cap vs :=
  h.keep (Keeps.setCell w g2 j v) (fun i hi hm => hne (by simp at hi hm; omega))
theorem Arr.step {w : World} {Ti Tb : TypeId} {gf gl gu gw gs h : Nat} {S : List Bool} {last first upper lower : List Int} (A : Arr w Ti Tb gf gl gu gw gs h S last first upper lower) (NE : Ne5 gf gl gu gw gs) (k v2 p2 : Nat) (c x y z : Int) :
    Arr (((((w.setCell ⟨gs, k, none⟩ (.bool true)).setCell ⟨gl, k, none⟩ (.int .i64 c)).setCell ⟨gu, k, none⟩ (.int .i64 x)).setCell ⟨gf, v2, none⟩ (.int .i64 y)).setCell ⟨gw, p2, none⟩ (.int .i64 z)) Ti Tb gf gl gu gw gs h
      (S.set k true) (last.set k c) (first.set v2 y) (upper.set k x) (lower.set p2 z) := by
  obtain ⟨n1, n2, n3, n4, n5, n6, n7, n8, n9, n10⟩ := NE
  refine ⟨?_, ?_, ?_, ?_, ?_⟩
  · have := ((((A.f.far gs k (.bool true) n4).far gl k (.int .i64 c) n1).far gu k (.int .i64 x) n2).set v2 (.int .i64 y)).far gw p2 (.int .i64 z) n3
    rwa [ints_set] at this
  · have := ((((A.l.far gs k (.bool true) n7).set k (.int .i64 c)).far gu k (.int .i64 x) n5).far gf v2 (.int .i64 y) (Ne.symm n1)).far gw p2 (.int .i64 z) n6
    rwa [ints_set] at this
  · have := ((((A.u.far gs k (.bool true) n9).far gl k (.int .i64 c) (Ne.symm n5)).set k (.int .i64 x)).far gf v2 (.int .i64 y) (Ne.symm n2)).far gw p2 (.int .i64 z) n8
    rwa [ints_set] at this
  · have := ((((A.w.far gs k (.bool true) n10).far gl k (.int .i64 c) (Ne.symm n6)).far gu k (.int .i64 x) (Ne.symm n8)).far gf v2 (.int .i64 y) (Ne.symm n3)).set p2 (.int .i64 z)
    rwa [ints_set] at this
  · have := ((((A.s.set k (.bool true)).far gl k (.int .i64 c) (Ne.symm n7)).far gu k (.int .i64 x) (Ne.symm n9)).far gf v2 (.int .i64 y) (Ne.symm n4)).far gw p2 (.int .i64 z) (Ne.symm n10)
    rwa [bools_set] at this
theorem own_two (w : World) (T : TypeId) (cs : Array Value) (n : Nat) (vs : List Value) (hs : cs.size = n) (hv : cs.toList = vs) (hm : n ≤ maxLen) :
    Ow ((w.alloc (.cells cs T)).alloc (.cells cs T)).drew T [w.heap.size] (some ⟨w.heap.size, 0, none⟩) n n vs ∧ Ow ((w.alloc (.cells cs T)).alloc (.cells cs T)).drew T [w.heap.size + 1] (some ⟨w.heap.size + 1, 0, none⟩) n n vs ∧
    Below w.heap.size w ((w.alloc (.cells cs T)).alloc (.cells cs T)).drew := by
  have h1 := Ow.new' w T cs n vs hs hv hm
  have h2 := Ow.new' (w.alloc (.cells cs T)) T cs n vs hs hv hm
  rw [show (w.alloc (.cells cs T)).heap.size = w.heap.size + 1 by simp] at h2
  exact ⟨(h1.alloc _).drew, h2.drew, below_drewN (((Below.refl _ _).alloc (Nat.le_refl _) _).alloc (by simp) _) 1⟩


set_option maxHeartbeats 1000000 in
theorem c_settings1 (a : Option Addr) (cap : Nat) (o : List Int) (w : World) (hr : RdI w a 2 cap o) (ho : Order o 2) :
    Calls Try.prog 23 #[.slice a 2 cap] w fun e w' => ∃ sa sc s, e = .returned (.slice sa 1 sc) ∧ OwI w' 3 w.heap.size sa 1 sc s ∧ Good 1 o s ∧ Below w.heap.size w w' := by
  have HG := Lib.hid (good_one (Order.ord2 (h := 1) ho) (fun j hj => (ho.2.1 j hj).1) ho.1)
  obtain ⟨b, off, rfl, _, hc⟩ := hr.int (by omega)
  have c0 := hc 0 (by omega)
  rw [Nat.add_zero] at c0
  clear hc
  go_enter Try.func23, Try.ntmps23
  go_wp2_with fail
  go_ret
  have ow := Ow.new' w 3 #[.int .i64 (nth o 0)] 1 (ints [nth o 0]) rfl rfl (by unfold maxLen; omega)
  exact ⟨_, _, _, rfl, ⟨[w.heap.size], ow, fun i hi => by simp at hi; omega⟩, HG.out, (Below.refl _ _).alloc (Nat.le_refl _) _⟩

set_option maxRecDepth 100000 in
set_option maxHeartbeats 8000000 in
theorem c_settingsStep (h m d : Nat) (h2 : 2 ≤ h) (h8 : h ≤ 8) (hm : m ≤ 50) (hd : 2 ^ (d + 1) = h) (hsw : swM (d + 1) = m)
    (IH : ∀ (a : Option Addr) (cap : Nat) (o : List Int) (w : World), RdI w a h cap o → Order o h →
      Calls Try.prog 23 #[.slice a h cap] w fun e w' => ∃ sa sc s, e = .returned (.slice sa m sc) ∧ OwI w' 3 w.heap.size sa m sc s ∧ Good (d + 1) o s ∧ Below w.heap.size w w')
    (a : Option Addr) (n cap : Nat) (o : List Int) (w : World) (hn : n = 2 * h) (hr : RdI w a n cap o) (ho : Order o (2 * h)) :
    Calls Try.prog 23 #[.slice a n cap] w fun e w' => ∃ sa sc s, e = .returned (.slice sa (2 * h + 2 * m) sc) ∧ OwI w' 3 w.heap.size sa (2 * h + 2 * m) sc s ∧ Good (d + 2) o s ∧ Below w.heap.size w w' := by
  have HIH := Lib.hid IH
  have HO := Lib.hid ho
  have HN := Lib.hid hn
  have HD := Lib.hid (And.intro hd hsw)
  have hhalf : Int.tdiv (n : Int) 2 = (h : Int) := by rw [Int.tdiv_eq_ediv_of_nonneg (by omega)]; omega
  have z1 : ((n : Int) == 1) = false := by rw [beq_eq_false_iff_ne]; omega
  have z2 : ((n : Int) == 2) = false := by rw [beq_eq_false_iff_ne]; omega
  have hmk := run_make_row' (P := Try.prog) 23 3 (.int .i64 0) 8 Try.underlying23 infoInt rfl .i64 .i64 h (by omega) (by omega)
  have hmb := run_make_row' (P := Try.prog) 52 4 (.bool false) 1 Try.underlying52 infoBool rfl .i64 .i64 h (by omega) (by omega)
  have hn16 : n ≤ 16 := by omega
  have C1 := Lib.hid (c_inverse a n cap o w hr (by omega) (fun p hp => by have := ho.2.1 p (by omega); omega))
  clear IH ho hn hd hsw
  go_enter Try.func23, Try.ntmps23
  go_wp2_with fail
  refine C1.out.mono ?_
  rintro e w2 ⟨aa, ac, rfl, ⟨La, owa, nwa⟩, b2⟩
  clear C1
  have ra := owa.rd
  have hr2 := hr.below b2
  clear owa nwa
  go_upto_region 9 with (fail)
  go_cut [6, 7] from 32 to 35 (fun u v wc => ∃ gf gl, u = .slice (some ⟨gf, 0, none⟩) h h ∧ v = .slice (some ⟨gl, 0, none⟩) h h ∧ Ow wc 3 [gf] (some ⟨gf, 0, none⟩) h h (ints (List.replicate h 0)) ∧ Ow wc 3 [gl] (some ⟨gl, 0, none⟩) h h (ints (List.replicate h 0)) ∧ gf ≠ gl ∧ w2.heap.size ≤ gf ∧ w2.heap.size ≤ gl ∧ Below w2.heap.size w2 wc)
  case first =>
    have Z := own_two w2 3 (madeCells #[.int .i64 0] h) h (ints (List.replicate h 0)) (size_madeCells _ _) (by rw [toList_madeCells_one]; simp) (by unfold maxLen; omega)
    go_region
    all_goals
      go_wp2_with fail
      go_meet
    · exact ⟨_, _, rfl, rfl, Z.1, Z.2.1, by omega, by omega, by omega, Z.2.2⟩
    · exact ⟨_, _, rfl, rfl, Z.2.1, Z.1, by omega, by omega, by omega, Z.2.2⟩
  case rest =>
    obtain ⟨gf, gl, rfl, rfl, owf, owl, hfl, hgf, hgl, b3⟩ := hcut
    obtain ⟨w3, hw3⟩ : ∃ w3, w3 = wc := ⟨_, rfl⟩
    subst hw3
    go_upto_region 10 with (fail)
    go_cut [8, 9] from 36 to 39 (fun u v wd => ∃ gu gw, u = .slice (some ⟨gu, 0, none⟩) h h ∧ v = .slice (some ⟨gw, 0, none⟩) h h ∧ Ow wd 3 [gu] (some ⟨gu, 0, none⟩) h h (ints (List.replicate h 0)) ∧ Ow wd 3 [gw] (some ⟨gw, 0, none⟩) h h (ints (List.replicate h 0)) ∧ gu ≠ gw ∧ w3.heap.size ≤ gu ∧ w3.heap.size ≤ gw ∧ Below w3.heap.size w3 wd)
    case first =>
      have Z := own_two w3 3 (madeCells #[.int .i64 0] h) h (ints (List.replicate h 0)) (size_madeCells _ _) (by rw [toList_madeCells_one]; simp) (by unfold maxLen; omega)
      go_region
      all_goals
        go_wp2_with fail
        go_meet
      · exact ⟨_, _, rfl, rfl, Z.1, Z.2.1, by omega, by omega, by omega, Z.2.2⟩
      · exact ⟨_, _, rfl, rfl, Z.2.1, Z.1, by omega, by omega, by omega, Z.2.2⟩
    case rest =>
      obtain ⟨gu, gw, rfl, rfl, owu, oww, huw, hgu, hgw, b4⟩ := hcut
      obtain ⟨w4, hw4⟩ : ∃ w4, w4 = wc := ⟨_, rfl⟩
      subst hw4
      have of3 := owf.old gf (by simp)
      have ol3 := owl.old gl (by simp)
      have ou4 := owu.old gu (by simp)
      have ow4 := oww.old gw (by simp)
      have owf := owf.below b4
      have owl := owl.below b4
      have B4 : Below w2.heap.size w2 w4 := Below.nx b3 b4
      obtain ⟨gs, hgs⟩ : ∃ gs, w4.heap.size = gs := ⟨_, rfl⟩
      obtain ⟨w5, hw5⟩ : ∃ w5, w4.alloc (.cells (madeCells #[.bool false] h) 4) = w5 := ⟨_, rfl⟩
      have ows : Ow w5 4 [gs] (some ⟨gs, 0, none⟩) h h (bools (List.replicate h false)) := by
        rw [← hw5, ← hgs]
        exact Ow.new' _ _ _ _ _ (size_madeCells _ _) (by rw [toList_madeCells_one]; simp) (by unfold maxLen; omega)
      have b5 : Below w4.heap.size w4 w5 := by rw [← hw5]; exact (Below.refl _ _).alloc (Nat.le_refl _) _
      have B5 : Below w2.heap.size w2 w5 := Below.nx B4 b5
      have AR : Arr w5 3 4 gf gl gu gw gs h (List.replicate h false) (List.replicate h 0) (List.replicate h 0) (List.replicate h 0) (List.replicate h 0) :=
        ⟨owf.below b5, owl.below b5, owu.below b5, oww.below b5, ows⟩
      have hb3 := b3.size
      have hb4 := b4.size
      have hB2 := b2.size
      have NE : gf ≠ gl ∧ gf ≠ gu ∧ gf ≠ gw ∧ gf ≠ gs ∧ gl ≠ gu ∧ gl ≠ gw ∧ gl ≠ gs ∧ gu ≠ gw ∧ gu ≠ gs ∧ gw ≠ gs := by
        refine ⟨hfl, ?_, ?_, ?_, ?_, ?_, ?_, huw, ?_, ?_⟩ <;> omega
      have GE : w2.heap.size ≤ gf ∧ w2.heap.size ≤ gl ∧ w2.heap.size ≤ gu ∧ w2.heap.size ≤ gw ∧ w2.heap.size ≤ gs := by
        refine ⟨hgf, hgl, ?_, ?_, ?_⟩ <;> omega
      have HGS := Lib.hid hgs
      have HW5 := Lib.hid hw5
      have HNE := Lib.hid NE
      have HGE := Lib.hid GE
      clear hgs hw5 owf owl owu oww ows hfl huw hgf hgl hgu hgw of3 ol3 ou4 ow4 hb3 hb4 NE GE b3 b4 B4 b5
      go_wp2_with fail
      rw [HGS.out, HW5.out]
      go_loopw [43] (fun i wr => ∃ j : Nat, ∃ S last first upper lower, j ≤ h ∧ i = .int .i64 j ∧ Arr wr 3 4 gf gl gu gw gs h S last first upper lower ∧ Cls o h j S last first upper lower ∧ Below w2.heap.size w2 wr) (fun i _ => h - (intOf i).toNat)
      case atStart => exact ⟨0, _, _, _, _, _, by omega, rfl, AR, Cls.init o h, B5⟩
      case round =>
        as_aux_lemma =>
        obtain ⟨j, S, last, first, upper, lower, hj, rfl, ar, cl, hb⟩ := hrel
        by_cases hjh : j < h
        · clear AR
          go_wp2_with fail
          go_loopg [12, 13] (h + 1) (fun f u v wr => ∃ k cn prev : Nat, ∃ S last first upper lower, cn ≤ 1 ∧ u = .int .i64 k ∧ v = .int .i64 cn ∧ Arr wr 3 4 gf gl gu gw gs h S last first upper lower ∧ Pth o h j S last first upper lower k (cn : Int) prev ∧ cntF S < f ∧ Below w2.heap.size w2 wr)
          case atStart => exact ⟨j, 0, h, S, last, first, upper, lower, by omega, rfl, rfl, ar, cl.start hjh, by have := cntF_le S; rw [cl.hS] at this; omega, hb⟩
          case round =>
            clear ar cl hb
            obtain ⟨k, cn, prev, S, last, first, upper, lower, hcn, rfl, rfl, ar, pt0, hcf, hb⟩ := hrel
            have hkh := pt0.hk
            have HPT := Lib.hid pt0
            clear pt0
            obtain ⟨cs, fs⟩ := ar.s.at2 hkh
            cases hgk : getB S k
            case true =>
              rw [hgk] at cs
              have cl' := HPT.out.done HO.out.ord2 hgk
              clear hgk fs
              go_wp2_with fail
              go_roundw
              case rel => exact ⟨j + 1, S, last, first, upper, lower, by omega, by go_num, ar, cl', hb⟩
              case measure => simp [intOf]; omega
            case false =>
              rw [hgk] at cs
              obtain ⟨f, rfl⟩ : ∃ f, gk = f + 1 := ⟨gk - 1, by omega⟩
              have hks : ¬ getB S k = true := by rw [hgk]; simp
              have hn2 := HN.out
              have ho2 := HO.out.ord2
              obtain ⟨k2, hk2⟩ : ∃ k2 : Nat, (2 : Int) * (k : Int) = (k2 : Int) := ⟨2 * k, by omega⟩
              obtain ⟨q, hq⟩ : ∃ q : Nat, (k2 : Int) + (cn : Int) = (q : Int) := ⟨k2 + cn, by omega⟩
              have hqn : q < n := by omega
              obtain ⟨v, hv⟩ : ∃ v, oN o q = v := ⟨_, rfl⟩
              have hvn : v < n := by rw [← hv]; have := ho2.lt q (by omega); omega
              obtain ⟨p, hpn, hpv⟩ := HO.out.find (pt v) (pt_lt (by omega))
              obtain ⟨pv, hpv2⟩ : ∃ pv, pt v = pv := ⟨_, rfl⟩
              have hpvn : pv < n := by rw [← hpv2]; have := pt_lt (v := v) (h := h) (by omega); omega
              have P' := HPT.out.step ho2 hks (v := v) (p := p) (by rw [← hv]; congr 1; rw [Int.toNat_natCast]; omega) hpn hpv
              have hfu := HPT.out.fuel hks
              have hbo := HO.out.2.1 q (by omega)
              obtain ⟨bo, oo, hae, hbo1, hco⟩ := hr2.int (by omega)
              subst hae
              obtain ⟨ba, oa, hae, hba1, hca⟩ := ra.int (by omega)
              subst hae
              have co := (hb.cell (p := ⟨bo, oo + q, none⟩) hbo1).trans (hco q hqn)
              have ca := (hb.cell (p := ⟨ba, oa + pv, none⟩) hba1).trans (hca pv hpvn)
              have e1 : nth o q = (v : Int) := by unfold oN at hv; omega
              have e2 : nth (invT o n n) pv = (p : Int) := by
                have := invT_at (o := o) (n := n) (fun r hr => by have := ho2.lt r (by omega); omega) (fun r s hr hs e => ho2.inj r s (by omega) (by omega) e) n (Nat.le_refl _) p (by omega)
                rwa [hpv, hpv2] at this
              rw [e1] at co
              rw [e2] at ca
              obtain ⟨v2, hv2⟩ : ∃ v2, v / 2 = v2 := ⟨_, rfl⟩
              obtain ⟨vm, hvm⟩ : ∃ vm, v % 2 = vm := ⟨_, rfl⟩
              obtain ⟨p2, hp2⟩ : ∃ p2, p / 2 = p2 := ⟨_, rfl⟩
              obtain ⟨pm, hpm⟩ : ∃ pm, p % 2 = pm := ⟨_, rfl⟩
              obtain ⟨pc, hpc⟩ : ∃ pc : Nat, (1 : Int) - (pm : Int) = (pc : Int) := ⟨1 - pm, by omega⟩
              have t1 : Int.tdiv (v : Int) 2 = (v2 : Int) := by rw [Int.tdiv_eq_ediv_of_nonneg (by omega)]; omega
              have t2 : Int.tmod (v : Int) 2 = (vm : Int) := by rw [Int.tmod_eq_emod_of_nonneg (by omega)]; omega
              have t3 : Int.tdiv (p : Int) 2 = (p2 : Int) := by rw [Int.tdiv_eq_ediv_of_nonneg (by omega)]; omega
              have t4 : Int.tmod (p : Int) 2 = (pm : Int) := by rw [Int.tmod_eq_emod_of_nonneg (by omega)]; omega
              have hv2h : v2 < h := by omega
              have hp2h : p2 < h := by omega
              have hpc1 : pc ≤ 1 := by omega
              have hp16 : p < 16 := by omega
              rw [hv2, hvm, hp2, hpm, hpc] at P'
              obtain ⟨cl1, fl1⟩ := ar.l.at1 hkh
              obtain ⟨cu1, fu1⟩ := ar.u.at1 hkh
              obtain ⟨cf1, ff1⟩ := ar.f.at1 hv2h
              obtain ⟨cw1, fw1⟩ := ar.w.at1 hp2h
              have AR' := ar.step HNE.out k v2 p2 (cn : Int) (v2 : Int) (vm : Int) (v2 : Int)
              obtain ⟨n1, n2, n3, n4, n5, n6, n7, n8, n9, n10⟩ := HNE.out
              obtain ⟨g1, g2, g3, g4, g5⟩ := HGE.out
              have BB : Below w2.heap.size w2 (((((wr.setCell ⟨gs, k, none⟩ (.bool true)).setCell ⟨gl, k, none⟩ (.int .i64 cn)).setCell ⟨gu, k, none⟩ (.int .i64 v2)).setCell ⟨gf, v2, none⟩ (.int .i64 vm)).setCell ⟨gw, p2, none⟩ (.int .i64 v2)) :=
                ((((hb.setCell g5 _).setCell g2 _).setCell g3 _).setCell g1 _).setCell g4 _
              have hx : bits .xor .i64 (v : Int) 1 = (pv : Int) := by rw [xor_pt v (by omega), hpv2]
              have m1 := Ne.symm n1
              have m2 := Ne.symm n2
              have m3 := Ne.symm n3
              have m4 := Ne.symm n4
              have m5 := Ne.symm n5
              have m6 := Ne.symm n6
              have m7 := Ne.symm n7
              have m8 := Ne.symm n8
              have m9 := Ne.symm n9
              have m10 := Ne.symm n10
              have o1 : ¬ (bo = gs) := by omega
              have o2 : ¬ (bo = gl) := by omega
              have o3 : ¬ (bo = gu) := by omega
              have o4 : ¬ (bo = gf) := by omega
              have a1 : ¬ (ba = gs) := by omega
              have a2 : ¬ (ba = gl) := by omega
              have a3 : ¬ (ba = gu) := by omega
              have a4 : ¬ (ba = gf) := by omega
              have HP' := Lib.hid P'
              have HFU := Lib.hid hfu
              have HCF := Lib.hid hcf
              clear P' hfu hgk hks hv hpv hpv2 hv2 hvm hp2 hpm hco hca e1 e2 hn2 ho2 hcf hbo
              go_wp2_with fail
              go_roundg f
              case measure => omega
              case rel => exact ⟨p2, pc, k, S.set k true, last.set k (cn : Int), first.set v2 (vm : Int), upper.set k (v2 : Int), lower.set p2 (v2 : Int), hpc1, rfl, rfl, AR', HP'.out, by have := HFU.out; have := HCF.out; omega, BB⟩
        · obtain rfl : j = h := by omega
          have SP := cl.split HO.out.ord2 HO.out.find
          have ⟨ou, ol⟩ := SP.orders
          have HSP := Lib.hid SP
          have HOU := Lib.hid ou
          have HOL := Lib.hid ol
          have B2 : Below w.heap.size w wr := Below.nx b2 hb
          have K1 := Lib.hid (HIH.out (some ⟨gu, 0, none⟩) j upper wr ar.u.rd HOU.out)
          clear AR cl ou ol
          go_wp2_with fail
          refine K1.out.mono ?_
          rintro e w6 ⟨ua, uc, sU, rfl, ⟨Lu, owu, _⟩, gU, b6⟩
          clear K1
          have HGU := Lib.hid gU
          have rw6 := ar.w.rd.below b6
          have rf6 := ar.f.rd.below b6
          have rl6 := ar.l.rd.below b6
          have K2 := Lib.hid (HIH.out (some ⟨gw, 0, none⟩) j lower w6 rw6 HOL.out)
          clear gU
          go_wp2_with fail
          refine K2.out.mono ?_
          rintro e w7 ⟨va, vc, sL, rfl, ⟨Lv, owv, _⟩, gL, b7⟩
          clear K2
          have HGL := Lib.hid gL
          clear gL
          have ru7 := (owu.below b7).rd
          have rf7 := rf6.below b7
          have rl7 := rl6.below b7
          have rv7 := owv.rd
          have B7 : Below w.heap.size w w7 := Below.nx (Below.nx B2 b6) b7
          obtain ⟨w8, hw8⟩ : ∃ w8, w7.alloc (.cells #[.slice (some ⟨gf, 0, none⟩) j j, .slice ua m uc, .slice va m vc, .slice (some ⟨gl, 0, none⟩) j j] 23) = w8 := ⟨_, rfl⟩
          have b8 : Below w7.heap.size w7 w8 := by rw [← hw8]; exact (Below.refl _ _).alloc (Nat.le_refl _) _
          have B8 : Below w.heap.size w w8 := Below.nx B7 b8
          have rg : RdG w8 (some ⟨w7.heap.size, 0, none⟩) 4 4 [first, sU, sL, last] := by
            refine ⟨[⟨[], some ⟨gf, 0, none⟩, j, j, first⟩, ⟨[], ua, m, uc, sU⟩, ⟨[], va, m, vc, sL⟩, ⟨[], some ⟨gl, 0, none⟩, j, j, last⟩], ?_, ?_, rfl⟩
            · rw [← hw8]
              exact (Ow.new' w7 23 #[.slice (some ⟨gf, 0, none⟩) j j, .slice ua m uc, .slice va m vc, .slice (some ⟨gl, 0, none⟩) j j] 4 _ rfl rfl (by unfold maxLen; omega)).rd
            · intro c hc
              simp at hc
              rcases hc with rfl | rfl | rfl | rfl
              · exact rf7.below b8
              · exact ru7.below b8
              · exact rv7.below b8
              · exact rl7.below b8
          obtain ⟨T, hT⟩ : ∃ T, 2 * j + 2 * m = T := ⟨_, rfl⟩
          have hfl : [first, sU, sL, last].flatten = first ++ (sU ++ (sL ++ last)) := by simp
          have hTl : [first, sU, sL, last].flatten.length = T := by
            rw [hfl]
            have e1 := HGU.out.len
            have e2 := HGL.out.len
            rw [HD.out.2] at e1 e2
            simp [HSP.out.hf, HSP.out.hl, e1, e2]; omega
          have K3 := c_Concat (some ⟨w7.heap.size, 0, none⟩) 4 4 T [first, sU, sL, last] w8 rg (by omega) hTl (by omega)
          rw [hfl] at K3
          have K3 := Lib.hid K3
          have HW8 := Lib.hid hw8
          have HTT := Lib.hid hT
          clear hw8 hfl hTl hT ar rw6 rf6 rl6 ru7 rf7 rl7 rv7 rg hb owu owv
          go_wp2_with fail
          rw [HW8.out]
          refine K3.out.mono ?_
          rintro e w9 ⟨xa, xc, rfl, ⟨Lx, owx, nwx⟩, b9⟩
          clear K3
          go_wp2_with fail
          go_ret
          have hG : Good (d + 2) o (first ++ (sU ++ (sL ++ last))) := by
            have P := HSP.out
            have hd := HD.out.1
            rw [← hd] at P
            exact good_step P (by rw [hd]; exact HO.out.ord2) HGU.out HGL.out
          exact ⟨xa, xc, _, by rw [HTT.out]; rfl, ⟨Lx, by rw [HTT.out]; exact owx, nwx.mono B8.size⟩, hG, Below.nx B8 b9⟩



theorem c_settings2 (a : Option Addr) (cap : Nat) (o : List Int) (w : World) (hr : RdI w a 4 cap o) (ho : Order o 4) :
    Calls Try.prog 23 #[.slice a 4 cap] w fun e w' => ∃ sa sc s, e = .returned (.slice sa 6 sc) ∧ OwI w' 3 w.heap.size sa 6 sc s ∧ Good 2 o s ∧ Below w.heap.size w w' :=
  c_settingsStep 2 1 0 (by omega) (by omega) (by omega) rfl rfl c_settings1 a 4 cap o w rfl hr ho
theorem c_settings3 (a : Option Addr) (cap : Nat) (o : List Int) (w : World) (hr : RdI w a 8 cap o) (ho : Order o 8) :
    Calls Try.prog 23 #[.slice a 8 cap] w fun e w' => ∃ sa sc s, e = .returned (.slice sa 20 sc) ∧ OwI w' 3 w.heap.size sa 20 sc s ∧ Good 3 o s ∧ Below w.heap.size w w' :=
  c_settingsStep 4 6 1 (by omega) (by omega) (by omega) rfl rfl c_settings2 a 8 cap o w rfl hr ho
theorem c_settingsD (d n m : Nat) (hd : Dep d n m) (a : Option Addr) (cap : Nat) (o : List Int) (w : World) (hr : RdI w a n cap o) (ho : Order o n) :
    Calls Try.prog 23 #[.slice a n cap] w fun e w' => ∃ sa sc s, e = .returned (.slice sa m sc) ∧ OwI w' 3 w.heap.size sa m sc s ∧ Good d o s ∧ Below w.heap.size w w' := by
  rcases hd with ⟨rfl, rfl, rfl⟩ | ⟨rfl, rfl, rfl⟩ | ⟨rfl, rfl, rfl⟩
  · exact c_settings1 a cap o w hr ho
  · exact c_settings2 a cap o w hr ho
  · exact c_settings3 a cap o w hr ho


end Go.Proofs.Ytcfpiblgddihmaa

/- Runs that a store writes: the reference. No condition but lengths. -/
import Derived.Test.YthlmopndmaemnaaRepQ
import Derived.Test.YthlmopndmaemnaaMergeR
import Derived.Test.YthlmopndmaemnaaIn
import Derived.Test.YthlmopndmaemnaaDrew
import Derived.Test.YthlmopndmaemnaaHelpG
import Derived.Deep.RegionLaw
import Derived.Deep.Cut
import Derived.Deep.CutRange
import Derived.Deep.CutBlock
namespace Go.Proofs.Ythlmopndmaemnaa
open Go.RowKit
set_option linter.unusedVariables false
set_option linter.unusedSimpArgs false

theorem lastR_at {out : List (List Int)} {r : List Int} (h : out.getD (out.length - 1) [] = r) : lastR out = nth r (r.length - 1) := by unfold lastR; rw [h]
theorem fq_empty {out : List (List Int)} {st : List Int} (h : out.length = 0) : ∀ m, fq out st m = none
  | 0 => rfl
  | m + 1 => by rw [fq, fq_empty h m]; simp [fits, h]
def lenR (v : Value) : Nat := match v with | .slice _ m _ => m | _ => 0
def natR (v : Value) : Nat := match v with | .int _ k => k.toNat | _ => 0
def opI : Option Nat → Int
  | some j => (j : Int)
  | none => -1

set_option maxRecDepth 100000 in
set_option maxHeartbeats 4000000 in
theorem cs_ReplacementRuns (a : Option Addr) (n cap : Nat) (xs : List Int) (k0 : Int) (w : World) (hr : RdI w a n cap xs) :
    Calls Try.prog 19 #[.slice a n cap, .int .i64 k0] w fun e w' => ∃ sa sn sc, e = .returned (.slice sa sn sc) ∧ RdG w' sa sn sc (rrV xs k0) ∧ SmallG sn (rrV xs k0) ∧ Below w.heap.size w w' := by
  have HL := Lib.hid hr.lens
  by_cases h16 : n ≤ 16
  case neg =>
    have HV := Lib.hid (rrV_no (xs := xs) (room := k0) (fun h => h16 (by rw [← HL.out]; exact h.1)))
    have hd : decide ((16 : Int) < (n : Int)) = true := decide_eq_true (by omega)
    go_enter Try.func19, Try.ntmps19
    go_wp2_with fail
    go_ret
    exact ⟨_, _, _, rfl, by rw [HV.out]; exact RdG.nil _ _ _ (by unfold maxLen; omega), by rw [HV.out]; exact ⟨by omega, fun _ h => by cases h⟩, Below.refl _ _⟩
  have hd : decide ((16 : Int) < (n : Int)) = false := decide_eq_false (by omega)
  by_cases hk : 1 ≤ k0 ∧ k0 ≤ 8
  case neg =>
    have HV := Lib.hid (rrV_no (xs := xs) (room := k0) (fun h => hk h.2))
    have HI := Lib.hid (c_in false k0 1 8 w (decide_eq_false hk))
    go_enter Try.func19, Try.ntmps19
    go_wp2_with (go_at_call 26; refine HI.out.mono ?_; rintro e w1 ⟨rfl, rfl⟩)
    go_ret
    exact ⟨_, _, _, rfl, by rw [HV.out]; exact RdG.nil _ _ _ (by unfold maxLen; omega), by rw [HV.out]; exact ⟨by omega, fun _ h => by cases h⟩, Below.refl _ _⟩
  have HI := Lib.hid (c_in true k0 1 8 w (decide_eq_true hk))
  obtain ⟨room, rfl⟩ : ∃ room : Nat, k0 = room := ⟨k0.toNat, by omega⟩
  have hr1 : 1 ≤ room := by omega
  have hr8 : room ≤ 8 := by omega
  have HV := Lib.hid (rrV_yes (xs := xs) (by rw [HL.out]; exact h16) hr1 hr8)
  clear hk
  go_enter Try.func19, Try.ntmps19
  go_wp2_with (go_at_call 26; refine HI.out.mono ?_; rintro e w1 ⟨rfl, rfl⟩)
  clear hd
  go_loopw [5, 6, 7] (fun o s x wr => ∃ k nx : Nat, ∃ L cs oa on oc M sa sn sc st, k ≤ n ∧ o = .slice oa on oc ∧ s = .slice sa sn sc ∧ x = .int .i64 (nx : Int) ∧ OwG wr 22 3 L oa on oc cs ∧ cs.map (·.xs) = (rp xs room k).1 ∧ Ow wr 3 M sa sn sc (ints st) ∧ Fill xs room k nx st ∧ New w1.heap.size (fp L cs) ∧ New w1.heap.size M ∧ Apart (fp L cs) M ∧ Below w1.heap.size w1 wr) (fun _ s x _ => lenR s + 2 * (n - natR x))
  case atStart =>
    exact ⟨0, 0, [], [], _, _, _, [], _, _, _, [], by omega, rfl, rfl, rfl, OwG.bare _ _ _ _, rfl, Ow.bare _ _ _, Fill.start xs room, (fun i hi => by simp [fp] at hi), (fun i hi => by cases hi), (fun i hi => by simp [fp] at hi), ((Below.refl _ _).alloc (Nat.le_refl _) _).alloc (by simp) _⟩
  case round =>
    obtain ⟨k, nx0, L, cs, oa, on, oc, M0, sa0, sn0, sc0, st0, hk, rfl, rfl, rfl, og0, hex, hst0, hfl0, hnG, hnM0, hap0, hb0⟩ := hrel
    have HEX := Lib.hid hex
    have HSN0 := Lib.hid hst0.lens
    have hnx0 : nx0 ≤ n := by rw [← HL.out]; exact hfl0.1
    have hsn0 : sn0 ≤ room := by rw [← HSN0.out]; exact hfl0.2.1
    have HM := Lib.hid (hfl0.more hr1 (by rw [HL.out]; exact hk))
    rw [HL.out, HSN0.out] at HM
    have HFL0 := Lib.hid hfl0
    clear hfl0 hex
    by_cases hkn : k < n
    · rcases Nat.lt_or_ge nx0 n with h1 | h1
      case' inl =>
        have h2 : ¬ n ≤ nx0 := by omega
        go_upto_block 2 with fail
        clear h1 h2
      case' inr =>
        have h3 : ¬ nx0 < n := by omega
        have h2 : 0 < sn0 := by
          rcases HM.out.2 hkn with h2 | h2
          · omega
          · omega
        go_upto_block 2 with fail
        clear h1 h2 h3
      all_goals
        obtain ⟨wq, rfl⟩ : ∃ wq : World, wq = wr := ⟨_, rfl⟩
        go_cut [6, 7] from 24 to 51 (fun s x wx => ∃ nx : Nat, ∃ M sa sn sc st, s = .slice sa sn sc ∧ x = .int .i64 (nx : Int) ∧ sn + 2 * (n - nx) ≤ sn0 + 2 * (n - nx0) ∧ OwG wx 22 3 L oa on oc cs ∧ Ow wx 3 M sa sn sc (ints st) ∧ st.Perm (rp xs room k).2 ∧ nx = min n (room + k) ∧ New w1.heap.size M ∧ Apart (fp L cs) M ∧ Below w1.heap.size w1 wx)
        case first =>
          go_wp2_with fail
          go_loopw [6, 7] (fun s x wf => ∃ nx : Nat, ∃ M sa sn sc st, s = .slice sa sn sc ∧ x = .int .i64 (nx : Int) ∧ sn + 2 * (n - nx) ≤ sn0 + 2 * (n - nx0) ∧ OwG wf 22 3 L oa on oc cs ∧ Ow wf 3 M sa sn sc (ints st) ∧ Fill xs room k nx st ∧ New w1.heap.size M ∧ Apart (fp L cs) M ∧ Below w1.heap.size w1 wf) (fun _ x _ => match x with | .int _ k => n - k.toNat | _ => 0)
          case atStart => exact ⟨nx0, M0, sa0, sn0, sc0, st0, rfl, rfl, Nat.le_refl _, og0, hst0, HFL0.out, hnM0, hap0, hb0⟩
          case round =>
            clear og0 hst0 hnM0 hap0 hb0
            obtain ⟨nx, M, sa, sn, sc, st, rfl, rfl, hms, og, hst, hfl, hnM, hap, hb⟩ := hrel
            have HSN := Lib.hid hst.lens
            have hnx : nx ≤ n := by rw [← HL.out]; exact hfl.1
            have hsn : sn ≤ room := by rw [← HSN.out]; exact hfl.2.1
            have HFL := Lib.hid hfl
            have hszb := hb.size
            clear hfl
            by_cases hgo : sn < room ∧ nx < n
            · obtain ⟨g1, g2⟩ := hgo
              have g3 : ¬ room ≤ sn := by omega
              have g4 : ¬ n ≤ nx := by omega
              obtain ⟨b, off, rfl, hbl, hcx⟩ := (hr.below hb).int (by omega)
              have c1 := hcx nx g2
              clear hcx
              go_wp2_with ((with_reducible show wpList _ _ _ (⟨some 49, _, _, _, _, _⟩ :: _) _ _); refine wpList_app _ rfl _ _ 22 rfl 3 Try.underlying22 infoInt rfl rfl rfl (hst.alloc _) (Rd.one _ _ _) (one_int _) (by omega) (by unfold maxLen; omega) ?_; intro a1 cap1 L1 w3 ow1 kp1 st1)
              go_roundw
              case rel =>
                rw [ints_snoc] at ow1
                exact ⟨nx + 1, L1, a1, sn + 1, cap1, st ++ [nth xs nx], rfl, by rw [Int.natCast_add]; rfl, by omega, (og.alloc _).keep kp1 hap, ow1, HFL.out.step (by rw [HSN.out]; exact g1) (by rw [HL.out]; exact g2), st1.new hnM (Nat.le_trans hszb (by simp)), (Apart.step hap.symm st1 (og.alloc _).old).symm, kp1.below (hb.alloc hszb _) hnM (Nat.le_trans hszb (by simp))⟩
              case measure => simp; omega
            · obtain ⟨hperm, hnxe⟩ := HFL.out.done (by rw [HSN.out, HL.out]; exact hgo)
              have HPERM := Lib.hid hperm
              have HNXE := Lib.hid hnxe
              clear hperm hnxe
              rcases Nat.lt_or_ge sn room with h1 | h1
              case' inl =>
                have h2 : ¬ room ≤ sn := by omega
                have h3 : n ≤ nx := by omega
                have h4 : ¬ nx < n := by omega
                go_wp2_with fail
                clear h1 h2 h3 h4
              case' inr =>
                have h2 : ¬ sn < room := by omega
                go_wp2_with fail
                clear h1 h2
              all_goals
                go_meet
                exact ⟨nx, M, sa, sn, sc, st, rfl, rfl, hms, og, hst, HPERM.out, by rw [HNXE.out, HL.out], hnM, hap, hb⟩
        case rest =>
          obtain ⟨nx, M, sa, sn, sc, st, rfl, rfl, hms, og, hst, hperm, hnx, hnM, hap, hb⟩ := hcut
          have HSN := Lib.hid hst.lens
          have HPERM := Lib.hid hperm
          have HNX := Lib.hid hnx
          have hlenS := rp_len xs room hr1 k (by rw [HL.out]; exact hk)
          rw [← hperm.length_eq, HSN.out, HL.out] at hlenS
          have hsn8 : sn ≤ 8 := by omega
          have hsp : 0 < sn := by omega
          have HSR := Lib.hid hlenS
          clear hlenS hperm hnx
          obtain ⟨O, hO⟩ : ∃ O, O = (rp xs room k).1 := ⟨_, rfl⟩
          have HROWS := Lib.hid (rp_rows xs room k)
          have HOUT := Lib.hid (rp_outlen xs room k)
          have HEXO := Lib.hid (show cs.map (fun x : Cell => x.xs) = O by rw [hO]; exact HEX.out)
          rw [← hO] at HROWS HOUT
          have HOL := Lib.hid (show O.length = on by rw [← HEXO.out, List.length_map, og.len])
          have hon : on ≤ k := by rw [← HOL.out]; exact HOUT.out
          have HO := Lib.hid hO
          clear hO
          obtain ⟨g, rfl, rfl, hgl, hgc, _⟩ := hst.int (by have := hst.le; omega)
          have HGC := Lib.hid hgc
          clear hgc
          obtain ⟨wb, rfl⟩ : ∃ wb : World, wb = wc := ⟨_, rfl⟩
          go_wp2_with fail
          go_loopw [8, 54] (fun p i wf => ∃ j : Nat, j ≤ sn ∧ p = .int .i64 (opI (fq O st j)) ∧ i = .int .i64 (j : Int) ∧ Dr wb wf) (fun _ i _ => match i with | .int _ k => sn - k.toNat | _ => 0)
          case atStart => exact ⟨0, by omega, rfl, rfl, Dr.refl _⟩
          case round =>
            obtain ⟨j, hj, rfl, rfl, m, rfl⟩ := hrel
            by_cases hjs : j < sn
            · have h4 : ¬ sn ≤ j := by omega
              have c1 := HGC.out j hjs
              rcases Nat.eq_zero_or_pos on with h0 | h0
              · subst h0
                go_wp2_with fail
                have FE := Lib.hid (fq_empty (out := O) (st := st) HOL.out)
                go_quiet (fail)
                go_wp2_with fail
                go_roundw
                case rel => exact ⟨j + 1, by omega, by rw [FE.out j, FE.out (j + 1)], by rw [Int.natCast_add]; rfl, ⟨m + nq, rfl⟩⟩
                case measure => simp; omega
              · obtain ⟨q, rfl⟩ : ∃ q, on = q + 1 := ⟨on - 1, by omega⟩
                obtain ⟨⟨cL, ca, cn, cc, cx⟩, hcj⟩ : ∃ c, cs[q]? = some c := ⟨_, List.getElem?_eq_getElem (by have := og.len; omega)⟩
                have hxO : O.getD q [] = cx := by rw [← HEXO.out, List.getD, List.getElem?_map, hcj]; rfl
                have hmemO : cx ∈ O := by rw [← HEXO.out]; exact List.mem_map.2 ⟨_, List.mem_of_getElem? hcj, rfl⟩
                obtain ⟨hcp, hck⟩ := HROWS.out cx hmemO
                have hcxn : cx.length = cn := (og.cells _ (List.mem_of_getElem? hcj)).lens
                obtain ⟨r, rfl⟩ : ∃ r, cn = r + 1 := ⟨cn - 1, by omega⟩
                have hr16 : r ≤ 16 := by omega
                have HLAST := Lib.hid (show lastR O = nth cx r by rw [lastR_at (r := cx) (by rw [HOL.out]; exact hxO), hcxn]; rfl)
                have HOP := Lib.hid (show 0 < O.length by rw [HOL.out]; omega)
                obtain ⟨gc, rfl, rfl, _, hec, _⟩ := (og.cells _ (List.mem_of_getElem? hcj)).int (Nat.lt_of_lt_of_le (Nat.succ_pos r) (og.cells _ (List.mem_of_getElem? hcj)).le)
                obtain ⟨g6, rfl, rfl, _, hgc, _⟩ := og.addr (by omega)
                have hcc := hgc q _ hcj
                have hel := hec r (Nat.lt_succ_self r)
                try simp only at hcc hel
                clear hgc hec hxO hmemO hcp hck hcxn hcj
                have hwq : IntKind.i64.wrap (q : Int) = (q : Int) := by rw [IntKind.wrap_i64]; omega
                have hwr : IntKind.i64.wrap (r : Int) = (r : Int) := by rw [IntKind.wrap_i64]; omega
                have hq0 : (0 : Int) < (q : Int) + 1 := by omega
                have hqlt : (q : Int) < (q : Int) + 1 := by omega
                have hrlt : (r : Int) < (r : Int) + 1 := by omega
                go_wp2_with fail
                go_quiet (fail)
                have FS := Lib.hid (show fq O st (j + 1) = match fq O st j with | none => if fits O (nth st j) = true then some j else none | some q => if fits O (nth st j) = true ∧ nth st j < nth st q then some j else some q from rfl)
                have FQL := Lib.hid (fq_law O st j)
                by_cases hf : nth cx r ≤ nth st j
                · have HF := Lib.hid (show fits O (nth st j) = true by unfold fits; rw [decide_eq_true HOP.out, HLAST.out, decide_eq_true hf]; rfl)
                  cases hfq : fq O st j with
                  | none =>
                    have HN := Lib.hid (show fq O st (j + 1) = some j by rw [FS.out, hfq]; simp only; rw [if_pos HF.out])
                    try simp only [hfq, opI]
                    go_wp2_with fail
                    go_roundw
                    case rel => exact ⟨j + 1, by omega, by rw [HN.out]; rfl, by rw [Int.natCast_add]; rfl, ⟨_, rfl⟩⟩
                    case measure => simp; omega
                  | some p =>
                    have hpj := ((FQL.out).2 p hfq).1
                    have c2 := HGC.out p (by omega)
                    try simp only [hfq, opI]
                    by_cases hlt : nth st j < nth st p
                    · have HN := Lib.hid (show fq O st (j + 1) = some j by rw [FS.out, hfq]; simp only; rw [if_pos ⟨HF.out, hlt⟩])
                      go_wp2_with fail
                      go_roundw
                      case rel => exact ⟨j + 1, by omega, by rw [HN.out]; rfl, by rw [Int.natCast_add]; rfl, ⟨_, rfl⟩⟩
                      case measure => simp; omega
                    · have HN := Lib.hid (show fq O st (j + 1) = some p by rw [FS.out, hfq]; simp only; rw [if_neg (fun h => hlt h.2)])
                      go_wp2_with fail
                      go_roundw
                      case rel => exact ⟨j + 1, by omega, by rw [HN.out]; rfl, by rw [Int.natCast_add]; rfl, ⟨_, rfl⟩⟩
                      case measure => simp; omega
                · have HF := Lib.hid (show fits O (nth st j) = false by unfold fits; rw [HLAST.out, decide_eq_false hf, Bool.and_false])
                  have HN := Lib.hid (show fq O st (j + 1) = fq O st j by rw [FS.out, HF.out]; cases fq O st j <;> simp)
                  go_wp2_with fail
                  go_roundw
                  case rel => exact ⟨j + 1, by omega, by rw [HN.out], by rw [Int.natCast_add]; rfl, ⟨_, rfl⟩⟩
                  case measure => simp; omega
            · obtain rfl : j = sn := by omega
              go_upto_if 98 with fail
              obtain ⟨Q, hQ⟩ : ∃ Q, Q = chQ O st := ⟨_, rfl⟩
              obtain ⟨F, hF⟩ : ∃ F, F = chF O st := ⟨_, rfl⟩
              go_cut [5, 8, 97, 98] from 99 to 117 (fun o p _ _ wx => p = .int .i64 (Q : Int) ∧ ∃ q : Nat, ∃ cs' : List Cell, ∃ c : Cell, ∃ g6 oc', o = .slice (some ⟨g6, 0, none⟩) (q + 1) oc' ∧ q ≤ k ∧ c.n ≤ k ∧ OwG wx 22 3 [g6] (some ⟨g6, 0, none⟩) (q + 1) oc' cs' ∧ cs'[q]? = some c ∧ (∀ c' : Cell, c'.xs = c.xs ++ [nth st Q] → (cs'.set q c').map (fun x : Cell => x.xs) = putR O F (nth st Q)) ∧ Ow wx 3 [g] (some ⟨g, 0, none⟩) j sc (ints st) ∧ New w1.heap.size (fp [g6] cs') ∧ Apart (fp [g6] cs') [g] ∧ Below w1.heap.size w1 wx)
              case first =>
                have ogd : OwG (wb.drewN m) 22 3 L oa on oc cs := og.below (below_drewN (Below.refl _ _) m)
                have std := hst.below (below_drewN (Below.refl _ _) m)
                have hbd := hb.trans (below_drewN (Below.refl _ _) m)
                obtain ⟨wd, hwd⟩ : ∃ wd, wd = wb.drewN m := ⟨_, rfl⟩
                rw [← hwd] at ogd std hbd ⊢
                clear hwd og hst hb HGC
                have hszd := hbd.size
                obtain ⟨g', e0, _, _, hgc0, _⟩ := std.int (by have := std.le; omega)
                have e0' := List.head_eq_of_cons_eq e0
                subst e0'
                have HGC := Lib.hid hgc0
                clear hgc0 e0
                cases hfq : fq O st j with
                | some p =>
                  have hpj := ((fq_law O st j).2 p hfq).1
                  have HQ := Lib.hid (show Q = p by rw [hQ]; unfold chQ; rw [HSN.out, hfq]; rfl)
                  have HF := Lib.hid (show F = true by rw [hF]; unfold chF; rw [HSN.out, hfq]; rfl)
                  have hon0 : on ≠ 0 := fun e => by
                    have h := fq_empty (out := O) (st := st) (by rw [HOL.out]; exact e) j
                    rw [hfq] at h; cases h
                  clear hfq hQ hF
                  obtain ⟨q, rfl⟩ : ∃ q, on = q + 1 := ⟨on - 1, by omega⟩
                  obtain ⟨⟨cL, ca, cn, cc, cx⟩, hcj⟩ : ∃ c, cs[q]? = some c := ⟨_, List.getElem?_eq_getElem (by have := ogd.len; omega)⟩
                  have hxO : O.getD q [] = cx := by rw [← HEXO.out, List.getD, List.getElem?_map, hcj]; rfl
                  have hmemO : cx ∈ O := by rw [← HEXO.out]; exact List.mem_map.2 ⟨_, List.mem_of_getElem? hcj, rfl⟩
                  have hck := (HROWS.out cx hmemO).2
                  have hcxn : cx.length = cn := (ogd.cells _ (List.mem_of_getElem? hcj)).lens
                  rw [hcxn] at hck
                  obtain ⟨g6, rfl, rfl, _, _, _⟩ := ogd.addr (by omega)
                  have HMP := Lib.hid (fun (c' : Cell) (hx : c'.xs = cx ++ [nth st Q]) => show (cs.set q c').map (fun x : Cell => x.xs) = putR O F (nth st Q) by
                    have h2 := map_addL HEXO.out (j := q) (by rw [HOL.out]) hcj (c' := c') (x := nth st Q) hx
                    rw [h2, HF.out]; rfl)
                  have HCJ := Lib.hid hcj
                  clear hcj hxO hmemO hcxn hon0
                  try simp only [opI]
                  go_wp2_with fail
                  go_meet
                  exact ⟨by rw [HQ.out], q, cs, ⟨cL, ca, cn, cc, cx⟩, g6, oc, rfl, by omega, hck, ogd, HCJ.out, HMP.out, std, hnG, hap, hbd⟩
                | none =>
                  have HQ := Lib.hid (show Q = lq st j by rw [hQ]; unfold chQ; rw [HSN.out, hfq]; rfl)
                  have HF := Lib.hid (show F = false by rw [hF]; unfold chF; rw [HSN.out, hfq]; rfl)
                  clear hfq hQ hF
                  try simp only [opI]
                  go_wp2_with fail
                  go_loopw [8, 101] (fun p i wf => ∃ z : Nat, z ≤ j ∧ p = .int .i64 (lq st z : Int) ∧ i = .int .i64 (z : Int) ∧ wd = wf) (fun _ i _ => match i with | .int _ k => j - k.toNat | _ => 0)
                  case atStart => exact ⟨0, by omega, rfl, rfl, rfl⟩
                  case round =>
                    obtain ⟨z, hz, rfl, rfl, rfl⟩ := hrel
                    by_cases hzj : z < j
                    · have h4 : ¬ j ≤ z := by omega
                      have c1 := HGC.out z hzj
                      have hlz := lq_lt st (by rw [HSN.out]; omega) z (by rw [HSN.out]; omega)
                      rw [HSN.out] at hlz
                      have c2 := HGC.out (lq st z) hlz
                      have LS := Lib.hid (show lq st (z + 1) = if nth st z < nth st (lq st z) then z else lq st z from rfl)
                      by_cases hlt : nth st z < nth st (lq st z)
                      · have HN := Lib.hid (show lq st (z + 1) = z by rw [LS.out, if_pos hlt])
                        go_wp2_with fail
                        go_roundw
                        case rel => exact ⟨z + 1, by omega, by rw [HN.out], by rw [Int.natCast_add]; rfl, by trivial⟩
                        case measure => simp; omega
                      · have HN := Lib.hid (show lq st (z + 1) = lq st z by rw [LS.out, if_neg hlt])
                        go_wp2_with fail
                        go_roundw
                        case rel => exact ⟨z + 1, by omega, by rw [HN.out], by rw [Int.natCast_add]; rfl, by trivial⟩
                        case measure => simp; omega
                    · obtain rfl : z = j := by omega
                      go_wp2_with ((with_reducible show wpList _ _ _ (⟨some 117, _, _, _, _, _⟩ :: _) _ _); refine wpList_app _ rfl _ _ 23 rfl 22 Try.underlying23 infoSl rfl rfl rfl ((ogd.alloc _).alloc _).row (Rd.one' _ _ _ _ (by simp)) (one_slice _ _ _) (by omega) (by unfold maxLen; omega) ?_; intro a1 cap1 L1 w3 ow1 kp1 st1; obtain ⟨g6, rfl, rfl, ogT, nT, bT, hgcT, hgfT, hglT⟩ := ogd.pushNew hnG hbd hszd (c := ⟨[], some ⟨wd.heap.size, 0, none⟩, 0, 0, []⟩) (Ow.bare _ _ _) (fun _ h => by cases h) ow1 kp1 st1)
                      have apT : Apart (fp [g6] (cs ++ [⟨[], some ⟨wd.heap.size, 0, none⟩, 0, 0, []⟩])) [g] := fun i hi hm => by
                        simp at hm; subst hm
                        rcases mem_fp.1 hi with h1 | ⟨d, hd, h1⟩
                        · rcases st1 i h1 with h2 | h2
                          · exact hap i (mem_fp.2 (.inl h2)) (by simp)
                          · simp at h2; have := std.old i (by simp); omega
                        · rcases List.mem_append.1 hd with h3 | h3
                          · exact hap i (mem_fp.2 (.inr ⟨d, h3, h1⟩)) (by simp)
                          · simp at h3; subst h3; cases h1
                      have owS := ((std.alloc (.cells #[] 3)).alloc (.cells #[.slice (some ⟨wd.heap.size, 0, none⟩) 0 0] 22)).keep kp1 (fun i hi hm => hap i (mem_fp.2 (.inl hm)) hi)
                      have hcjT := Lib.hid (show (cs ++ [⟨[], some ⟨wd.heap.size, 0, none⟩, 0, 0, []⟩])[on]? = some (⟨[], some ⟨wd.heap.size, 0, none⟩, 0, 0, []⟩ : Cell) by
                        have h1 := HOL.out
                        rw [← HEXO.out, List.length_map] at h1
                        rw [List.getElem?_append_right (by omega), show on - cs.length = 0 by omega]; rfl)
                      have HMP := Lib.hid (fun (c' : Cell) (hx : c'.xs = ([] : List Int) ++ [nth st Q]) => show ((cs ++ [(⟨[], some ⟨wd.heap.size, 0, none⟩, 0, 0, []⟩ : Cell)]).set on c').map (fun x : Cell => x.xs) = putR O F (nth st Q) by
                        have h1 := HOL.out
                        have h2 := map_addL (cs := cs ++ [⟨[], some ⟨wd.heap.size, 0, none⟩, 0, 0, []⟩]) (l := O ++ [[]]) (by rw [List.map_append, HEXO.out]; rfl) (j := on) (by rw [List.length_append, List.length_singleton, h1]) hcjT.out (c' := c') (x := nth st Q) hx
                        rw [h2, addL_new, HF.out]; rfl)
                      go_meet
                      exact ⟨by rw [HQ.out], on, _, _, g6, cap1, rfl, hon, by simp, ogT, hcjT.out, HMP.out, owS, nT, apT, bT⟩
              case rest =>
                clear og hst hb HGC hap hnG
                obtain ⟨rfl, q, cs', ⟨cL, ca, cn, cc, cx⟩, g6, oc', rfl, hqk, hck, ogT, hcjT0, hmp, owS, nT, apT, bT⟩ := hcut
                try simp only at hmp hck
                have hcjT := Lib.hid hcjT0
                have hCH := ch_is (out := O) (st := st) (rp_srt xs room k) HPERM.out (by rw [HSN.out]; exact hsp)
                have hQj : Q < j := by
                  have h := chQ_lt (out := O) (st := st) (by rw [HSN.out]; exact hsp)
                  rw [HSN.out] at h
                  rw [hQ]; exact h
                have HRP := Lib.hid (show (rp xs room (k + 1)).1 = putR O F (nth st Q) by
                  rw [hF, hQ, ← hCH.1, hCH.2.1, HO.out]; rfl)
                have HPM := Lib.hid (show (rmAt st Q).Perm (rmAt (rp xs room k).2 (rpP (rp xs room k).1 (rp xs room k).2)) by
                  have h := hCH.2.2
                  rw [← hQ] at h
                  rw [HO.out] at h
                  exact h)
                have HMP := Lib.hid (fun (c' : Cell) (hx : c'.xs = cx ++ [nth st Q]) => show (cs'.set q c').map (fun x : Cell => x.xs) = (rp xs room (k + 1)).1 by rw [HRP.out]; exact hmp c' hx)
                clear hQ hF hmp hCH
                obtain ⟨wv, rfl⟩ : ∃ wv : World, wv = wc := ⟨_, rfl⟩
                obtain ⟨g6', e6, _, _, hgc0, hgf0⟩ := ogT.addr (by omega)
                have e6' := List.head_eq_of_cons_eq e6
                subst e6'
                have hgcT := hgc0 q _ hcjT0
                have hgfT := hgf0 q
                clear hgc0 hgf0 e6 hcjT0
                obtain ⟨g9, e9, _, _, hoS, _⟩ := owS.int (by have := owS.le; omega)
                have e9' := List.head_eq_of_cons_eq e9
                subst e9'
                have c2 := hoS Q hQj
                clear hoS e9
                have hicT : Ow wv 3 cL ca cn cc (ints cx) := ogT.cells _ (List.mem_of_getElem? hcjT.out)
                have hb8 : (cn + 1) * 8 ≤ 140737488355328 := by omega
                have hb9 : cn + 1 ≤ maxLen := by unfold maxLen; omega
                have hgg : g6 ≠ g := fun e => apT g6 (mem_fp.2 (.inl (by simp))) (by simp [e])
                have hcLg : Apart [g] cL := fun i hi hm => apT i (mem_fp.2 (.inr ⟨_, List.mem_of_getElem? hcjT.out, hm⟩)) hi
                have hwq : IntKind.i64.wrap (q : Int) = (q : Int) := by rw [IntKind.wrap_i64]; omega
                have hq0 : (0 : Int) < (q : Int) + 1 := by omega
                have hqlt : (q : Int) < (q : Int) + 1 := by omega
                go_wp2_with fail
                go_cut [5] from 118 to 134 (fun o wx => o = .slice (some ⟨g6, 0, none⟩) (q + 1) oc' ∧ ∃ csF, OwG wx 22 3 [g6] (some ⟨g6, 0, none⟩) (q + 1) oc' csF ∧ csF.map (fun x : Cell => x.xs) = (rp xs room (k + 1)).1 ∧ Ow wx 3 [g] (some ⟨g, 0, none⟩) j sc (ints st) ∧ New w1.heap.size (fp [g6] csF) ∧ Below w1.heap.size w1 wx ∧ Apart (fp [g6] csF) [g])
                case first =>
                  go_region_law (refine step_appG rfl (.tmp 127) (.tmp 132) 22 rfl 3 Try.underlying22 infoInt rfl (by simp [Act.eval, Act.put]) (by simp [Act.eval, Act.put]) (xa := some ⟨wv.heap.size, 0, none⟩) (m := 1) (xcap := 1) (hicT.alloc _).drew (Rd.one _ _ _).drew (one_int (nth st Q)) hb8 hb9 ?_; intro a8 cap8 L8 w8 hc8 ow8 kp8 st8; obtain ⟨hc9, hf9, og9, nw9, bl9⟩ := (ogT.drewM).appAt nT (bT.trans (below_drewN (Below.refl _ _) 1)) bT.size hcjT.out ow8 kp8 st8)
                  all_goals
                    have kp9 := Keeps.setCell w8 g6 q (.slice a8 (cn + 1) cap8)
                    have ow9 := (((owS.alloc (.cells #[.int .i64 (nth st Q)] 3)).drew).keep kp8 hcLg).keep kp9 (fun i hi hm => by simp at hi hm; omega)
                    have ap9 := Apart.step apT (OwG.updStep (c' := ⟨L8, a8, cn + 1, cap8, cx ++ [nth st Q]⟩) hcjT.out st8) ((owS.alloc (.cells #[.int .i64 (nth st Q)] 3)).drew).old
                    go_wp2_with fail
                    go_meet
                    exact ⟨rfl, _, og9, HMP.out _ rfl, ow9, nw9, bl9, ap9⟩
                case rest =>
                  obtain ⟨rfl, csF, og9, hmF, ow9, nw9, bl9, ap9⟩ := hcut
                  have HMF := Lib.hid hmF
                  clear hmF ogT nT bT apT owS hicT hgcT hgfT c2 hb8 hb9 hcLg hwq hq0 hqlt
                  obtain ⟨wz, rfl⟩ : ∃ wz : World, wz = wc := ⟨_, rfl⟩
                  have hle := ow9.le
                  have hmx := ow9.max
                  have hQsc : Q ≤ sc := by omega
                  have hQ1 : Q + 1 ≤ sc := by omega
                  have hQj1 : (Q : Int) + 1 ≤ (j : Int) := by omega
                  have hwQ : IntKind.i64.wrap ((Q : Int) + 1) = (Q : Int) + 1 := by rw [IntKind.wrap_i64]; omega
                  have hQ01 : (0 : Int) ≤ (Q : Int) + 1 := by omega
                  have hQn : ((Q : Int) + 1).toNat = Q + 1 := by omega
                  have hone1 : ∀ u ∈ (ints st).take Q, u.oneCell' = true := fun u hu => one_ints _ u (List.mem_of_mem_take hu)
                  have hone2 : ∀ u ∈ (ints st).drop (Q + 1), u.oneCell' = true := fun u hu => one_ints _ u (List.mem_of_mem_drop hu)
                  obtain ⟨A, hA, SRC⟩ : ∃ A : Addr, (if sc = Q + 1 then (some ⟨g, 0, none⟩ : Option Addr) else some ⟨g, Q + 1, none⟩) = some A ∧ Hid (∀ w', Ow w' 3 [g] (some ⟨g, 0, none⟩) j sc (ints st) → Rd w' (some A) (j - (Q + 1)) (sc - (Q + 1)) ((ints st).drop (Q + 1))) := by
                    by_cases hc : sc = Q + 1
                    · refine ⟨⟨g, 0, none⟩, by rw [if_pos hc], Lib.hid fun w' h => ?_⟩
                      have h2 := h.rd.from (Q + 1) (by omega)
                      unfold cutAt at h2
                      rw [if_pos hc] at h2
                      exact h2
                    · refine ⟨⟨g, Q + 1, none⟩, by rw [if_neg hc], Lib.hid fun w' h => ?_⟩
                      have h2 := h.rd.from (Q + 1) (by omega)
                      unfold cutAt at h2
                      rw [if_neg hc, Option.map_some, Addr.add_lit, Nat.zero_add] at h2
                      exact h2
                  have hmQ : Q * 8 ≤ 140737488355328 := by omega
                  go_wp2_with fail
                  go_region_law (first | (refine step_appG rfl (.tmp 135) (.tmp 138) 22 rfl 3 Try.underlying22 infoInt rfl (by simp [Act.eval, Act.put]) (by simp [Act.eval, Act.put]) (L := []) (sa := some ⟨wz.heap.size, 0, none⟩) (n := 0) (cap := 0) (vs := []) (xa := some ⟨g, 0, none⟩) (m := Q) (xcap := sc) (Ow.bare _ _ _) (((ow9.alloc (.cells #[] 3)).drew).rd.head Q (by omega)) hone1 (by omega) (by unfold maxLen; omega) ?_; intro a1 cap1 L1 wa hc1 ow1 kp1 st1) | (refine step_appG rfl (.tmp 139) (.tmp 143) 22 rfl 3 Try.underlying22 infoInt rfl (by simp [Act.eval, Act.put]) (by simp [Act.eval, Act.put]) (xa := some A) (m := j - (Q + 1)) (xcap := sc - (Q + 1)) ow1 (SRC.out _ (((ow9.alloc (.cells #[] 3)).drew).keep kp1 (fun _ _ h => by cases h))) hone2 (by omega) (by unfold maxLen; omega) ?_; intro a2 cap2 L2 w2 hc2 ow2 kp2 st2))
                  all_goals
                    have hsz := bl9.size
                    have hsza : w1.heap.size ≤ ((wz.alloc (.cells #[] 3)).drew).heap.size := Nat.le_trans hsz (by show wz.heap.size ≤ (wz.alloc (.cells #[] 3)).heap.size; simp)
                    have hszb : w1.heap.size ≤ wa.heap.size := Nat.le_trans hsza kp1.size
                    have n1 : New w1.heap.size L1 := st1.new (fun i hi => by cases hi) hsza
                    have n2 : New w1.heap.size L2 := st2.new n1 hszb
                    have ogA := ((og9.alloc (.cells #[] 3)).drewM).keep kp1 (fun _ _ h => by cases h)
                    have ap1 : Apart L1 (fp [g6] csF) := Apart.step (L := []) (fun _ h => by cases h) st1 ((og9.alloc (.cells #[] 3)).drewM).old
                    have ogB := ogA.keep kp2 ap1.symm
                    have ap2 : Apart L2 (fp [g6] csF) := Apart.step ap1 st2 ogA.old
                    have bA := kp1.below ((bl9.alloc hsz (.cells #[] 3)).trans (below_drewN (Below.refl _ _) 1)) (fun i hi => by cases hi) hsza
                    have bB := kp2.below bA n1 hszb
                    rw [List.nil_append, ints_take, ints_drop, ints_append, Nat.zero_add] at ow2
                    have HNEW := Lib.hid (show Fill xs room (k + 1) nx (rmAt st Q) from Fill.next hr1 (by rw [HL.out]; exact hkn) HPERM.out (by rw [HL.out]; exact HNX.out) (by rw [HSN.out]; exact hQj) HPM.out)
                    clear hc1 hc2 hA hwQ hQn
                    go_wp2_with fail
                    go_roundw
                    case rel =>
                      (repeat apply Exists.intro)
                      refine ⟨?_, rfl⟩
                      exact ⟨k + 1, nx, [g6], csF, _, _, _, L2, a2, Q + (j - (Q + 1)), cap2, rmAt st Q, by omega, rfl, rfl, rfl, ogB, HMF.out, ow2, HNEW.out, nw9, n2, ap2.symm, bB⟩
                    case measure => simp [lenR, natR, Act.put]; omega
    · have h1 : n ≤ nx0 := by
        rcases Nat.lt_or_ge nx0 n with h | h
        · exact absurd (HM.out.1 (.inl h)) hkn
        · exact h
      have h3 : ¬ nx0 < n := by omega
      obtain rfl : sn0 = 0 := by
        rcases Nat.eq_zero_or_pos sn0 with h | h
        · exact h
        · exact absurd (HM.out.1 (.inr h)) hkn
      have hkk : k = n := by omega
      have HVV := Lib.hid (show cs.map (·.xs) = rrV xs (room : Int) by rw [HV.out, HEX.out, HL.out, hkk])
      have HR := Lib.hid (rp_rows xs room k)
      have HO := Lib.hid (rp_outlen xs room k)
      go_wp2_with fail
      go_ret
      exact ⟨oa, on, oc, rfl, by rw [← HVV.out]; exact og0.rd, by rw [← HVV.out, HEX.out]; exact ⟨by have h1 := HO.out; rw [← HEX.out, List.length_map, og0.len] at h1; omega, fun r hr => by have := HR.out r hr; omega⟩, hb0⟩

end Go.Proofs.Ythlmopndmaemnaa

/- Late records: impl.emit, impl.MarksOf. No condition but lengths. -/
import Derived.Test.YtaffokicnabkiaaEmo
import Derived.Deep.OwnRows
namespace Go.Proofs.Ytaffokicnabkiaa
open Go.RowKit
set_option linter.unusedVariables false
set_option linter.unusedSimpArgs false

theorem Emi.start {w w1 w2 w3 w4 w5 w6 : World} {a : Option Addr} {n cap : Nat} {xs : List Int} (hr : RdI w a n cap xs) (halo : ∀ ad, a = some ad → ad.block < w.heap.size) (hn : n ≤ 30) {B : Nat} (hB : B = w.heap.size)
    (e1 : w1 = w.alloc (.cells #[.slice a n cap] 22)) (e2 : w2 = w1.alloc (.cells #[.slice none 0 0, .slice none 0 0, .slice none 0 0, .slice none 0 0, .int .i64 0] 41)) (e3 : w3 = w2.alloc (.cells (madeCells #[.int .i64 0] n) 3))
    (e4 : w4 = w3.alloc (.cells #[.slice none 0 0, .slice none 0 0, .slice none 0 0, .slice (some ⟨B + 1 + 1, 0, none⟩) n n, .int .i64 0] 41)) (e5 : w5 = w4.alloc (.cells #[] 3)) (e6 : w6 = w5.alloc (.cells #[.slice (some ⟨B + 1 + 1 + 1 + 1, 0, none⟩) 0 0] 22)) :
    Emi w w6 (B + 1 + 1 + 1 + 1 + 1) (B + 1 + 1 + 1) B (B + 1 + 1) n a cap xs (B + 1 + 1 + 1 + 1) 0 0 [] none 0 0 [] none 0 0 [] none 0 0 [] [[B + 1]] ∧ w6.heap[B + 1]? = some (.cells #[.slice none 0 0, .slice none 0 0, .slice none 0 0, .slice none 0 0, .int .i64 0] 41 (0, 0)) := by
  have s1 : w1.heap.size = B + 1 := by rw [e1, hB]; simp
  have s2 : w2.heap.size = B + 1 + 1 := by rw [e2, ← s1]; simp
  have s3 : w3.heap.size = B + 1 + 1 + 1 := by rw [e3, ← s2]; simp
  have s4 : w4.heap.size = B + 1 + 1 + 1 + 1 := by rw [e4, ← s3]; simp
  have s5 : w5.heap.size = B + 1 + 1 + 1 + 1 + 1 := by rw [e5, ← s4]; simp
  have s6 : w6.heap.size = B + 1 + 1 + 1 + 1 + 1 + 1 := by rw [e6, ← s5]; simp
  have c2 : ∀ j, j < w1.heap.size → w2.heap[j]? = w1.heap[j]? := fun j h => by rw [e2]; exact Below.heap_alloc _ _ _ h
  have c3 : ∀ j, j < w2.heap.size → w3.heap[j]? = w2.heap[j]? := fun j h => by rw [e3]; exact Below.heap_alloc _ _ _ h
  have c4 : ∀ j, j < w3.heap.size → w4.heap[j]? = w3.heap[j]? := fun j h => by rw [e4]; exact Below.heap_alloc _ _ _ h
  have c5 : ∀ j, j < w4.heap.size → w5.heap[j]? = w4.heap[j]? := fun j h => by rw [e5]; exact Below.heap_alloc _ _ _ h
  have c6 : ∀ j, j < w5.heap.size → w6.heap[j]? = w5.heap[j]? := fun j h => by rw [e6]; exact Below.heap_alloc _ _ _ h
  have n1 : w1.heap[B]? = some (.cells #[.slice a n cap] 22 (0, 0)) := by rw [e1, hB]; exact heap_alloc_new w _
  have n2 : w2.heap[B + 1]? = some (.cells #[.slice none 0 0, .slice none 0 0, .slice none 0 0, .slice none 0 0, .int .i64 0] 41 (0, 0)) := by rw [e2, ← s1]; exact heap_alloc_new w1 _
  have n3 : Ow w3 3 [B + 1 + 1] (some ⟨B + 1 + 1, 0, none⟩) n n (ints (List.replicate n 0)) := by
    rw [e3, ← s2]
    exact Ow.new' _ _ _ _ _ (size_madeCells _ _) (by rw [toList_madeCells_one]; simp) (by unfold maxLen; omega)
  have n4 : w4.heap[B + 1 + 1 + 1]? = some (.cells #[.slice none 0 0, .slice none 0 0, .slice none 0 0, .slice (some ⟨B + 1 + 1, 0, none⟩) n n, .int .i64 0] 41 (0, 0)) := by rw [e4, ← s3]; exact heap_alloc_new w3 _
  have n5 : Ow w5 3 [B + 1 + 1 + 1 + 1] (some ⟨B + 1 + 1 + 1 + 1, 0, none⟩) 0 0 (ints []) := by
    rw [e5, ← s4]
    exact Ow.new' _ _ #[] 0 _ rfl rfl (by unfold maxLen; omega)
  have n6 : w6.heap[B + 1 + 1 + 1 + 1 + 1]? = some (.cells #[.slice (some ⟨B + 1 + 1 + 1 + 1, 0, none⟩) 0 0] 22 (0, 0)) := by rw [e6, ← s5]; exact heap_alloc_new w5 _
  have b1 : Below w.heap.size w w1 := by rw [e1]; exact (Below.refl _ _).alloc (Nat.le_refl _) _
  have b2 : Below w.heap.size w w2 := by rw [e2]; exact b1.alloc (by omega) _
  have b3 : Below w.heap.size w w3 := by rw [e3]; exact b2.alloc (by omega) _
  have b4 : Below w.heap.size w w4 := by rw [e4]; exact b3.alloc (by omega) _
  have b5 : Below w.heap.size w w5 := by rw [e5]; exact b4.alloc (by omega) _
  have b6 : Below w.heap.size w w6 := by rw [e6]; exact b5.alloc (by omega) _
  have k4 : Keeps [] w3 w4 := by rw [e4]; exact Keeps.alloc [] _ _
  have k5 : Keeps [] w4 w5 := by rw [e5]; exact Keeps.alloc [] _ _
  have k6 : Keeps [] w5 w6 := by rw [e6]; exact Keeps.alloc [] _ _
  have no : ∀ L : List Nat, Apart L [] := fun L i _ hj => by cases hj
  refine ⟨⟨⟨?_, ?_, ?_, b6⟩, n6, ?_, ⟨0, by omega, by omega, ?_⟩, ⟨[], n5.keep k6 (no _), fun _ h => by cases h⟩, ⟨[], Ow.bare _ _ _⟩, ⟨[], Ow.bare _ _ _⟩, Ow.bare _ _ _, ⟨_, ((n3.keep k4 (no _)).keep k5 (no _)).keep k6 (no _)⟩, hr.below b6, halo⟩, ?_⟩
  · simp [Apart]; omega
  · intro L hL i hi
    simp at hL
    rcases hL with rfl | rfl | rfl | rfl | rfl | rfl | rfl <;> (simp at hi; try omega)
  · intro L hL i hi
    simp at hL
    rcases hL with rfl | rfl | rfl | rfl | rfl | rfl | rfl <;> (simp at hi; try omega)
  · rw [c6 _ (by omega), c5 _ (by omega), c4 _ (by omega), c3 _ (by omega), c2 _ (by omega)]; exact n1
  · rw [c6 _ (by omega), c5 _ (by omega)]; exact n4
  · rw [c6 _ (by omega), c5 _ (by omega), c4 _ (by omega), c3 _ (by omega)]; exact n2
theorem Emi.dropX {W w : World} {wb eb tb db N : Nat} {ta : Option Addr} {tc : Nat} {ts : List Int} {g wn wcap : Nat} {Lo : List Nat} {oa : Option Addr} {on oc : Nat} {Ll : List Nat} {la : Option Addr} {ln lc : Nat} {Lk : List Nat} {ka : Option Addr} {kn kc : Nat} {ms : List Int} {X Y : List (List Nat)} (E : Emi W w wb eb tb db N ta tc ts g wn wcap Lo oa on oc Ll la ln lc Lk ka kn kc ms (X ++ Y)) : Emi W w wb eb tb db N ta tc ts g wn wcap Lo oa on oc Ll la ln lc Lk ka kn kc ms X :=
  ⟨E.blk.sub ((List.Sublist.refl _).append (List.sublist_append_left X Y)), E.box, E.tbx, E.st, E.row, E.ord, E.lat, E.mar, E.del, E.tms, E.tlo⟩
def GV (xs : List Int) (s : Int) (k : Nat) (gv : Int) : Prop := gv = if k = 0 then 0 else mkS xs s k + s

set_option maxRecDepth 100000 in
set_option maxHeartbeats 8000000 in
theorem c_emit (a : Option Addr) (n cap : Nat) (xs : List Int) (s : Int) (w : World) (hr : RdI w a n cap xs) (hn : n ≤ 30) (hx : ∀ j, j < xs.length → 0 ≤ nth xs j ∧ nth xs j ≤ 1000) (hs : 0 ≤ s ∧ s ≤ 1000) (halo : ∀ ad, a = some ad → ad.block < w.heap.size) :
    Calls Try.prog 30 #[.slice a n cap, .int .i64 s] w fun e w' => ∃ o l d mo ka kc, e = .returned (.agg #[o, l, .slice ka n kc, d, .int .i64 mo]) ∧ OwI w' 3 w.heap.size ka n kc (mkL xs s n) ∧ Below w.heap.size w w' := by
  have HL := Lib.hid hr.lens
  have HX := Lib.hid hx
  clear hx
  have hmk := run_make_row' (P := Try.prog) 22 3 (.int .i64 0) 8 Try.underlying22 infoInt rfl .i64 .i64 n (by omega) (by omega)
  have hmf : ∀ (fn : Fn) (first cp : Array Value) (w : World), (Instr.makeFunc fn first cp).run Try.prog w = .ok (.func fn first cp) w := fun _ _ _ _ => rfl
  go_enter Try.func30, Try.ntmps30
  go_upto_region 5 with fail
  obtain ⟨B, hB⟩ : ∃ B, B = w.heap.size := ⟨_, rfl⟩
  obtain ⟨w1, e1⟩ : ∃ w1, w1 = w.alloc (.cells #[.slice a n cap] 22) := ⟨_, rfl⟩
  obtain ⟨w2, e2⟩ : ∃ w2, w2 = w1.alloc (.cells #[.slice none 0 0, .slice none 0 0, .slice none 0 0, .slice none 0 0, .int .i64 0] 41) := ⟨_, rfl⟩
  obtain ⟨w3, e3⟩ : ∃ w3, w3 = w2.alloc (.cells (madeCells #[.int .i64 0] n) 3) := ⟨_, rfl⟩
  obtain ⟨w4, e4⟩ : ∃ w4, w4 = w3.alloc (.cells #[.slice none 0 0, .slice none 0 0, .slice none 0 0, .slice (some ⟨B + 1 + 1, 0, none⟩) n n, .int .i64 0] 41) := ⟨_, rfl⟩
  obtain ⟨w5, e5⟩ : ∃ w5, w5 = w4.alloc (.cells #[] 3) := ⟨_, rfl⟩
  obtain ⟨w6, e6⟩ : ∃ w6, w6 = w5.alloc (.cells #[.slice (some ⟨B + 1 + 1 + 1 + 1, 0, none⟩) 0 0] 22) := ⟨_, rfl⟩
  obtain ⟨E0, hrb⟩ := Emi.start hr halo hn hB e1 e2 e3 e4 e5 e6
  have HB := Lib.hid hB
  rw [← hB, ← e1, ← e2, ← e3, ← e4, ← e5, ← e6]
  clear hB e1 e2 e3 e4 e5 e6 w1 w2 w3 w4 w5 hmk
  obtain ⟨wb, hwb⟩ : ∃ wb, wb = B + 1 + 1 + 1 + 1 + 1 := ⟨_, rfl⟩
  obtain ⟨g0, hg0⟩ : ∃ g0, g0 = B + 1 + 1 + 1 + 1 := ⟨_, rfl⟩
  obtain ⟨eb, heb⟩ : ∃ eb, eb = B + 1 + 1 + 1 := ⟨_, rfl⟩
  obtain ⟨db, hdb⟩ : ∃ db, db = B + 1 + 1 := ⟨_, rfl⟩
  obtain ⟨rb, hrbe⟩ : ∃ rb, rb = B + 1 := ⟨_, rfl⟩
  rw [← hwb, ← hg0, ← heb, ← hdb, ← hrbe] at E0
  rw [← hrbe] at hrb
  rw [← hwb, ← hg0, ← heb, ← hdb, ← hrbe]
  clear hwb hg0 heb hdb hrbe
  have t0 : w6.cell? ⟨B, 0, none⟩ = some (.slice a n cap) := by rw [cell_of_row w6 B 0 _ _ _ E0.tbx]; rfl
  go_wp2_with fail
  clear t0
  go_loopw [7, 20] (fun v i wr => ∃ k g wn wcap : Nat, ∃ Lo oa on oc Ll la ln lc Lk ka kc gv, k ≤ n ∧ v = .int .i64 gv ∧ GV xs s k gv ∧ i = .int .i64 (k : Int) ∧ Emi w wr wb eb B db n a cap xs g wn wcap Lo oa on oc Ll la ln lc Lk ka k kc (mkL xs s k) [[rb]] ∧ on + wn ≤ k ∧ ln ≤ k ∧ wr.heap[rb]? = some (.cells #[.slice none 0 0, .slice none 0 0, .slice none 0 0, .slice none 0 0, .int .i64 0] 41 (0, 0))) (fun _ i _ => n - (intOf i).toNat)
  case atStart => exact ⟨0, g0, 0, 0, [], none, 0, 0, [], none, 0, 0, [], none, 0, 0, by omega, rfl, rfl, rfl, E0, by omega, by omega, hrb⟩
  case round =>
    clear E0 hrb
    obtain ⟨k, g, wn, wcap, Lo, oa, on, oc, Ll, la, ln, lc, Lk, ka, kc, gv, hk, rfl, hgv, rfl, E, how, hln, hrb⟩ := hrel
    have HGV := Lib.hid hgv
    clear hgv
    by_cases hkn : k < n
    · obtain ⟨bt, ot, rfl, _, htc⟩ := (hr.below E.blk.b).int (by omega)
      have c1 := htc k hkn
      clear htc
      have hx := HX.out k (by rw [HL.out]; exact hkn)
      have hbd := mkS_bd hs k (fun j hj => HX.out j (by rw [HL.out]; omega))
      obtain ⟨x, hxe⟩ : ∃ x, x = nth xs k := ⟨_, rfl⟩
      rw [← hxe] at c1 hx
      have HXE := Lib.hid hxe
      clear hxe
      obtain ⟨ws, rw1, rw2⟩ := E.row
      have b0 : wr.cell? ⟨wb, 0, none⟩ = some (.slice (some ⟨g, 0, none⟩) wn wcap) := by rw [cell_of_row wr wb 0 _ _ _ E.box]; rfl
      have hki : InR n (ws ++ [(k : Int)]) := fun y hy => by
        rcases List.mem_append.1 hy with h | h
        · exact rw2 y h
        · simp at h; subst h; omega
      have hgvb : (k = 0 ∧ gv = 0) ∨ (0 < k ∧ gv = mkS xs s k + s) := by
        have h := HGV.out
        unfold GV at h
        split at h
        · exact .inl ⟨by assumption, h⟩
        · exact .inr ⟨by omega, h⟩
      have HGB := Lib.hid hgvb
      have HRB := Lib.hid hrb
      have hgw : -1001 ≤ gv ∧ gv ≤ 2000 := by omega
      obtain ⟨mo0, mm1, mm2, m3⟩ := E.st
      have hmk1 := HX.out
      clear hmk1
      have hcase : k = 0 ∨ (0 < k ∧ x < gv - s) ∨ (0 < k ∧ ¬ x < gv - s) := by omega
      have HN1 := Lib.hid (show mkS xs s (k + 1) = if mkS xs s k < x - s then x - s else mkS xs s k by rw [HXE.out]; rfl)
      clear hgvb hrb
      rcases hcase with hc0 | ⟨hc1, hc2⟩ | ⟨hc1, hc2⟩
      case' inl =>
        have z1 : ¬ (0 : Int) < (k : Int) := by omega
        have z2 : ((k : Int) == 0) = true := by rw [beq_iff_eq]; omega
        have hG : GV xs s (k + 1) x := by
          unfold GV
          rw [if_neg (by omega), HN1.out, if_pos (by rw [hc0]; simp only [mkS]; omega)]; omega
        have HG := Lib.hid hG
        clear hG hc0
        go_upto_region 12 with ((with_reducible show wpList _ _ _ (⟨some 47, _, _, _, _, _⟩ :: _) _ _); refine wpList_app _ rfl _ _ 22 rfl 3 Try.underlying22 infoInt rfl rfl rfl (rw1.alloc _) (Rd.one _ _ _) (one_int _) (by omega) (by unfold maxLen; omega) ?_; intro a5 cap5 L5 w5 ow5 kp5 st5; rw [ints_snoc] at ow5; obtain ⟨f1, f2, g5, E5⟩ := E.pushW hki ow5 kp5 st5)
        have kk : Keeps [g] wr w5 := (Keeps.alloc [g] wr _).trans kp5 (Step.refl _ _)
        have xk := ((XK.refl wr [[rb]]).step kk (fun L hL => E.oldX hL) (fun L hL j hj => E.offL hL hj 3 (by omega))).step (Keeps.setCell w5 wb 0 (.slice a5 (wn + 1) cap5)) (fun L hL j hj => Nat.lt_of_lt_of_le (E.oldX hL j hj) kk.size) (fun L hL j hj => E.offL hL hj 0 (by omega))
        obtain ⟨wy, hwy⟩ : ∃ wy, wy = w5.setCell ⟨wb, 0, none⟩ (.slice a5 (wn + 1) cap5) := ⟨_, rfl⟩
        rw [← hwy] at E5 xk ⊢
        have HRY := Lib.hid ((xk [rb] (by simp) rb (by simp)).trans HRB.out)
        have hb1 : on + (wn + 1) ≤ k + 1 := by omega
        have hb2 : ln ≤ k + 1 := by omega
        clear E kk xk hwy kp5 st5 ow5 f1 f2 rw1 rw2 b0 c1 m3 HRB
        obtain ⟨g2, wn2, wcap2, Ll2, la2, ln2, lc2, E6, hb1, hb2⟩ : ∃ g2 wn2 wcap2 Ll2 la2 ln2 lc2, Emi w wy wb eb B db n (some ⟨bt, ot, none⟩) cap xs g2 wn2 wcap2 Lo oa on oc Ll2 la2 ln2 lc2 Lk ka k kc (mkL xs s k) [[rb]] ∧ on + wn2 ≤ k + 1 ∧ ln2 ≤ k + 1 := ⟨_, _, _, _, _, _, _, E5, hb1, hb2⟩
        clear E5
        go_upto_region 15 with fail
        clear z1 z2 HGB
        obtain ⟨y, hy⟩ : ∃ y, y = x := ⟨_, rfl⟩
        have hyb : -1001 ≤ y ∧ y ≤ 2000 := by omega
        rw [← hy] at HG ⊢
        clear hy
      case' inr.inl =>
        have z1 : (0 : Int) < (k : Int) := by omega
        have z2 : ((k : Int) == 0) = false := by rw [beq_eq_false_iff_ne]; omega
        have s1 : wr.cell? ⟨eb, 1, none⟩ = some (.slice la ln lc) := by rw [cell_of_row wr eb 1 _ _ _ m3]; rfl
        obtain ⟨ls, l1⟩ := E.lat
        go_upto_region 10 with ((with_reducible show wpList _ _ _ (⟨some 38, _, _, _, _, _⟩ :: _) _ _); refine wpList_app _ rfl _ _ 22 rfl 3 Try.underlying22 infoInt rfl rfl rfl (l1.alloc _) (Rd.one _ _ _) (one_int _) (by omega) (by unfold maxLen; omega) ?_; intro a5 cap5 L5 w5 ow5 kp5 st5; rw [ints_snoc] at ow5; obtain ⟨f1, f2, E5⟩ := E.pushL ow5 kp5 st5)
        have kk : Keeps Ll wr w5 := (Keeps.alloc Ll wr _).trans kp5 (Step.refl _ _)
        have xk := ((XK.refl wr [[rb]]).step kk (fun L hL => E.oldX hL) (fun L hL j hj => E.offL hL hj 6 (by omega))).step (Keeps.setCell w5 eb 1 (.slice a5 (ln + 1) cap5)) (fun L hL j hj => Nat.lt_of_lt_of_le (E.oldX hL j hj) kk.size) (fun L hL j hj => E.offL hL hj 1 (by omega))
        obtain ⟨wz, hwz⟩ : ∃ wz, wz = w5.setCell ⟨eb, 1, none⟩ (.slice a5 (ln + 1) cap5) := ⟨_, rfl⟩
        rw [← hwz] at E5 xk ⊢
        obtain ⟨mo5, _, _, n3⟩ := E5.st
        have s3 : wz.cell? ⟨eb, 3, none⟩ = some (.slice (some ⟨db, 0, none⟩) n n) := by rw [cell_of_row wz eb 3 _ _ _ n3]; rfl
        obtain ⟨ds, d1⟩ := E5.del
        obtain ⟨dx, ed, _, _, hdc, hdf⟩ := d1.int (by have := d1.le; omega)
        have ed' := List.head_eq_of_cons_eq ed
        subst ed'
        have d3 := hdc k hkn
        have d4 := hdf k
        have E6 := E5.setD k (-1)
        have xk2 := xk.step (Keeps.setCell wz db k (.int .i64 (-1))) (fun L hL => E5.oldX hL) (fun L hL j hj => E5.offL hL hj 4 (by omega))
        clear hdc hdf ed n3 E kk xk hwz kp5 st5 ow5 f1 f2 rw1 rw2 b0 c1 m3 s1 l1 hc2
        go_upto_region 12 with fail
        obtain ⟨wy, hwy⟩ : ∃ wy, wy = wz.setCell ⟨db, k, none⟩ (.int .i64 (-1)) := ⟨_, rfl⟩
        rw [← hwy] at E6 xk2 ⊢
        have HRY := Lib.hid ((xk2 [rb] (by simp) rb (by simp)).trans HRB.out)
        have hb1 : on + wn ≤ k + 1 := by omega
        have hb2 : ln + 1 ≤ k + 1 := by omega
        clear E5 d1 d3 d4 s3 xk2 hwy HRB
        obtain ⟨g2, wn2, wcap2, Ll2, la2, ln2, lc2, E6, hb1, hb2⟩ : ∃ g2 wn2 wcap2 Ll2 la2 ln2 lc2, Emi w wy wb eb B db n (some ⟨bt, ot, none⟩) cap xs g2 wn2 wcap2 Lo oa on oc Ll2 la2 ln2 lc2 Lk ka k kc (mkL xs s k) [[rb]] ∧ on + wn2 ≤ k + 1 ∧ ln2 ≤ k + 1 := ⟨_, _, _, _, _, _, _, E6, hb1, hb2⟩
        by_cases hmx : gv < x
        case' pos =>
          have HG := Lib.hid (show GV xs s (k + 1) x by
            have h := HGB.out
            unfold GV
            rw [if_neg (by omega), HN1.out, if_pos (by omega)]; omega)
          have hm1 : gv ≤ x := by omega
          have hm2 : max gv x = x := by omega
          go_upto_region 15 with fail
          clear z1 z2 HGB hmx hm1 hm2
          obtain ⟨y, hy⟩ : ∃ y, y = x := ⟨_, rfl⟩
          have hyb : -1001 ≤ y ∧ y ≤ 2000 := by omega
          rw [← hy] at HG ⊢
          clear hy
        case' neg =>
          have HG := Lib.hid (show GV xs s (k + 1) gv by
            have h := HGB.out
            unfold GV
            rw [if_neg (by omega), HN1.out, if_neg (by omega)]; omega)
          have hm1 : x ≤ gv := by omega
          have hm2 : max gv x = gv := by omega
          go_upto_region 15 with fail
          clear z1 z2 HGB hmx hm1 hm2
          obtain ⟨y, hy⟩ : ∃ y, y = gv := ⟨_, rfl⟩
          have hyb : -1001 ≤ y ∧ y ≤ 2000 := by omega
          rw [← hy] at HG ⊢
          clear hy
      case' inr.inr =>
        have z1 : (0 : Int) < (k : Int) := by omega
        have z2 : ((k : Int) == 0) = false := by rw [beq_eq_false_iff_ne]; omega
        go_upto_region 12 with ((with_reducible show wpList _ _ _ (⟨some 47, _, _, _, _, _⟩ :: _) _ _); refine wpList_app _ rfl _ _ 22 rfl 3 Try.underlying22 infoInt rfl rfl rfl (rw1.alloc _) (Rd.one _ _ _) (one_int _) (by omega) (by unfold maxLen; omega) ?_; intro a5 cap5 L5 w5 ow5 kp5 st5; rw [ints_snoc] at ow5; obtain ⟨f1, f2, g5, E5⟩ := E.pushW hki ow5 kp5 st5)
        have kk : Keeps [g] wr w5 := (Keeps.alloc [g] wr _).trans kp5 (Step.refl _ _)
        have xk := ((XK.refl wr [[rb]]).step kk (fun L hL => E.oldX hL) (fun L hL j hj => E.offL hL hj 3 (by omega))).step (Keeps.setCell w5 wb 0 (.slice a5 (wn + 1) cap5)) (fun L hL j hj => Nat.lt_of_lt_of_le (E.oldX hL j hj) kk.size) (fun L hL j hj => E.offL hL hj 0 (by omega))
        obtain ⟨wy, hwy⟩ : ∃ wy, wy = w5.setCell ⟨wb, 0, none⟩ (.slice a5 (wn + 1) cap5) := ⟨_, rfl⟩
        rw [← hwy] at E5 xk ⊢
        have HRY := Lib.hid ((xk [rb] (by simp) rb (by simp)).trans HRB.out)
        have hb1 : on + (wn + 1) ≤ k + 1 := by omega
        have hb2 : ln ≤ k + 1 := by omega
        clear E kk xk hwy kp5 st5 ow5 f1 f2 rw1 rw2 b0 c1 m3 HRB
        obtain ⟨g2, wn2, wcap2, Ll2, la2, ln2, lc2, E6, hb1, hb2⟩ : ∃ g2 wn2 wcap2 Ll2 la2 ln2 lc2, Emi w wy wb eb B db n (some ⟨bt, ot, none⟩) cap xs g2 wn2 wcap2 Lo oa on oc Ll2 la2 ln2 lc2 Lk ka k kc (mkL xs s k) [[rb]] ∧ on + wn2 ≤ k + 1 ∧ ln2 ≤ k + 1 := ⟨_, _, _, _, _, _, _, E5, hb1, hb2⟩
        clear E5
        by_cases hmx : gv < x
        case' pos =>
          have HG := Lib.hid (show GV xs s (k + 1) x by
            have h := HGB.out
            unfold GV
            rw [if_neg (by omega), HN1.out, if_pos (by omega)]; omega)
          have hm1 : gv ≤ x := by omega
          have hm2 : max gv x = x := by omega
          go_upto_region 15 with fail
          clear z1 z2 HGB hmx hm1 hm2
          obtain ⟨y, hy⟩ : ∃ y, y = x := ⟨_, rfl⟩
          have hyb : -1001 ≤ y ∧ y ≤ 2000 := by omega
          rw [← hy] at HG ⊢
          clear hy
        case' neg =>
          have HG := Lib.hid (show GV xs s (k + 1) gv by
            have h := HGB.out
            unfold GV
            rw [if_neg (by omega), HN1.out, if_neg (by omega)]; omega)
          have hm1 : x ≤ gv := by omega
          have hm2 : max gv x = gv := by omega
          go_upto_region 15 with fail
          clear z1 z2 HGB hmx hm1 hm2
          obtain ⟨y, hy⟩ : ∃ y, y = gv := ⟨_, rfl⟩
          have hyb : -1001 ≤ y ∧ y ≤ 2000 := by omega
          rw [← hy] at HG ⊢
          clear hy
      all_goals
        have HMK := Lib.hid (show y - s = mkS xs s (k + 1) by
          have h := HG.out
          unfold GV at h
          rw [if_neg (by omega)] at h; omega)
        have HML := Lib.hid (show mkL xs s (k + 1) = mkL xs s k ++ [mkS xs s (k + 1)] from rfl)
        go_upto_region 16 with fail
        obtain ⟨mk, hmke⟩ : ∃ mk, mk = wy.heap.size := ⟨_, rfl⟩
        obtain ⟨w8, hw8⟩ : ∃ w8, w8 = wy.alloc (.cells #[.int .i64 (y - s)] 3) := ⟨_, rfl⟩
        have k8 : Keeps [] wy w8 := by rw [hw8]; exact Keeps.alloc [] _ _
        have hs8 : mk < w8.heap.size := by rw [hw8, hmke]; simp
        have E8 := E6.withRest (r := mk) (by omega) k8 hs8
        have hmh : w8.heap[mk]? = some (.cells #[.int .i64 (y - s)] 3 (0, 0)) := by rw [hw8, hmke]; exact heap_alloc_new wy _
        have hmc : w8.cell? ⟨mk, 0, none⟩ = some (.int .i64 (y - s)) := by rw [cell_of_row w8 mk 0 _ _ _ hmh]; rfl
        have xk8 := (XK.refl wy [[rb]]).step k8 (fun L hL => E6.oldX hL) (fun _ _ _ _ h => by cases h)
        have HR8 := Lib.hid ((xk8 [rb] (by simp) rb (by simp)).trans HRY.out)
        rw [← hw8, ← hmke]
        clear hw8 hmke k8 E6 hmh xk8 HRY
        obtain ⟨mo8, _, _, n8⟩ := E8.st
        have s2 : w8.cell? ⟨eb, 2, none⟩ = some (.slice ka k kc) := by rw [cell_of_row w8 eb 2 _ _ _ n8]; rfl
        have kb2 := E8.mar.max
        go_upto_region 17 with ((with_reducible show wpList _ _ _ (⟨some 61, _, _, _, _, _⟩ :: _) _ _); refine wpList_app _ rfl _ _ 22 rfl 3 Try.underlying22 infoInt rfl rfl rfl (E8.mar.alloc _) (Rd.one _ _ _) (one_int _) (by omega) (by unfold maxLen; omega) ?_; intro a5 cap5 L5 w5 ow5 kp5 st5; rw [ints_snoc] at ow5; obtain ⟨f1, f2, E9⟩ := E8.pushK ow5 kp5 st5)
        have kk : Keeps Lk w8 w5 := (Keeps.alloc Lk w8 _).trans kp5 (Step.refl _ _)
        have xk9 := ((XK.refl w8 ([[rb]] ++ [[mk]])).step kk (fun L hL => E8.oldX hL) (fun L hL j hj => E8.offL hL hj 7 (by omega))).step (Keeps.setCell w5 eb 2 (.slice a5 (k + 1) cap5)) (fun L hL j hj => Nat.lt_of_lt_of_le (E8.oldX hL j hj) kk.size) (fun L hL j hj => E8.offL hL hj 1 (by omega))
        obtain ⟨w9, hw9⟩ : ∃ w9, w9 = w5.setCell ⟨eb, 2, none⟩ (.slice a5 (k + 1) cap5) := ⟨_, rfl⟩
        rw [← hw9] at E9 xk9 ⊢
        rw [HMK.out, ← HML.out] at E9
        have HR9 := Lib.hid ((xk9 [rb] (by simp) rb (by simp)).trans HR8.out)
        have hmc9 : w9.cell? ⟨mk, 0, none⟩ = some (.int .i64 (y - s)) := (World.cell?_of_block (a := ⟨mk, 0, none⟩) (xk9 [mk] (by simp) mk (by simp))).trans hmc
        clear hw9 kk kp5 st5 ow5 f1 f2 E8 xk9 hmc HR8 n8 s2
        go_upto_region 18 with (go_at_call 52; refine (c_out2 mk (y - s) hmc9 E9 (by omega) (by omega) _ (by omega)).mono ?_; rintro e w10 ⟨rfl, g3, wn3, wcap3, Lo3, oa3, on3, oc3, E10, hsum, xk10⟩)
        have HR10 := Lib.hid ((xk10 [rb] (by simp) rb (by simp)).trans HR9.out)
        obtain ⟨mo, q1, q2, n10⟩ := E10.st
        have s4 : w10.cell? ⟨eb, 4, none⟩ = some (.int .i64 mo) := by rw [cell_of_row w10 eb 4 _ _ _ n10]; rfl
        have sf : w10.frozen? ⟨eb, 4, none⟩ = false := frozen_of_row w10 eb 4 _ _ n10
        have sb : w10.cell? ⟨wb, 0, none⟩ = some (.slice (some ⟨g3, 0, none⟩) wn3 wcap3) := by rw [cell_of_row w10 wb 0 _ _ _ E10.box]; rfl
        clear E9 HR9 hmc9
        by_cases hmo : mo < (wn3 : Int)
        · have hy1 : mo ≤ (wn3 : Int) := by omega
          have hy2 : max mo (wn3 : Int) = (wn3 : Int) := by omega
          have E11 := (E10.setM (wn3 : Int) (by omega)).dropX
          have hrF := (((Keeps.setCell w10 eb 4 (.int .i64 (wn3 : Int))).block rb (E10.oldX (L := [rb]) (by simp) rb (by simp)) (E10.offL (L := [rb]) (by simp) (by simp) 1 (by omega)))).trans HR10.out
          clear E10 HR10 n10 xk10
          go_wp2_with fail
          go_roundw
          case rel => exact ⟨k + 1, g3, wn3, wcap3, Lo3, oa3, on3, oc3, Ll2, la2, ln2, lc2, L5, a5, cap5, y, by omega, rfl, HG.out, by rw [Int.natCast_add]; rfl, E11, by omega, by omega, hrF⟩
          case measure => simp [intOf] <;> omega
        · have hy1 : (wn3 : Int) ≤ mo := by omega
          have hy2 : max mo (wn3 : Int) = mo := by omega
          have E11 := (E10.setM mo (by omega)).dropX
          have hrF := (((Keeps.setCell w10 eb 4 (.int .i64 mo)).block rb (E10.oldX (L := [rb]) (by simp) rb (by simp)) (E10.offL (L := [rb]) (by simp) (by simp) 1 (by omega)))).trans HR10.out
          clear E10 HR10 n10 xk10
          go_wp2_with fail
          go_roundw
          case rel => exact ⟨k + 1, g3, wn3, wcap3, Lo3, oa3, on3, oc3, Ll2, la2, ln2, lc2, L5, a5, cap5, y, by omega, rfl, HG.out, by rw [Int.natCast_add]; rfl, E11, by omega, by omega, hrF⟩
          case measure => simp [intOf] <;> omega
    · obtain rfl : k = n := by omega
      have t0 : wr.cell? ⟨B, 0, none⟩ = some (.slice a k cap) := by rw [cell_of_row wr B 0 _ _ _ E.tbx]; rfl
      go_upto_region 21 with (go_at_call 52; refine (c_out3 E (by omega) (by omega) _ (by omega)).mono ?_; rintro e w2 ⟨rfl, g', wn', wcap', Lo', oa', on', oc', E2, hsum, hxk⟩)
      have hrb2 := (hxk [rb] (by simp) rb (by simp)).trans hrb
      obtain ⟨mo, m1, m2, m3⟩ := E2.st
      have s0 : w2.cell? ⟨eb, 0, none⟩ = some (.slice oa' on' oc') := by rw [cell_of_row w2 eb 0 _ _ _ m3]; rfl
      have s1 : w2.cell? ⟨eb, 1, none⟩ = some (.slice la ln lc) := by rw [cell_of_row w2 eb 1 _ _ _ m3]; rfl
      have s2 : w2.cell? ⟨eb, 2, none⟩ = some (.slice ka k kc) := by rw [cell_of_row w2 eb 2 _ _ _ m3]; rfl
      have s3 : w2.cell? ⟨eb, 3, none⟩ = some (.slice (some ⟨db, 0, none⟩) k k) := by rw [cell_of_row w2 eb 3 _ _ _ m3]; rfl
      have s4 : w2.cell? ⟨eb, 4, none⟩ = some (.int .i64 mo) := by rw [cell_of_row w2 eb 4 _ _ _ m3]; rfl
      have z0 : w2.cell? ⟨rb, 0, none⟩ = some (.slice none 0 0) := by rw [cell_of_row w2 rb 0 _ _ _ hrb2]; rfl
      have z1 : w2.cell? ⟨rb, 1, none⟩ = some (.slice none 0 0) := by rw [cell_of_row w2 rb 1 _ _ _ hrb2]; rfl
      have z2 : w2.cell? ⟨rb, 2, none⟩ = some (.slice none 0 0) := by rw [cell_of_row w2 rb 2 _ _ _ hrb2]; rfl
      have z3 : w2.cell? ⟨rb, 3, none⟩ = some (.slice none 0 0) := by rw [cell_of_row w2 rb 3 _ _ _ hrb2]; rfl
      have z4 : w2.cell? ⟨rb, 4, none⟩ = some (.int .i64 0) := by rw [cell_of_row w2 rb 4 _ _ _ hrb2]; rfl
      have zf : ∀ j, w2.frozen? ⟨rb, j, none⟩ = false := fun j => frozen_of_row w2 rb j _ _ hrb2
      have f0 := heap_setCell_same w2 rb 0 _ _ (.slice oa' on' oc') hrb2
      have f1 := heap_setCell_same _ rb 1 _ _ (.slice la ln lc) f0
      have f2 := heap_setCell_same _ rb 2 _ _ (.slice ka k kc) f1
      have f3 := heap_setCell_same _ rb 3 _ _ (.slice (some ⟨db, 0, none⟩) k k) f2
      have f4 := heap_setCell_same _ rb 4 _ _ (.int .i64 mo) f3
      have hrbk : Apart Lk [rb] := fun i hi hj => by
        rw [List.mem_singleton.1 hj] at hi
        exact E2.offL (L := [rb]) (List.mem_singleton.2 rfl) (List.mem_singleton.2 rfl) 7 (by omega) hi
      have hrbn : w.heap.size ≤ rb := E2.blk.new [rb] (by simp) rb (by simp)
      have kf : Keeps [rb] w2 (((((w2.setCell ⟨rb, 0, none⟩ (.slice oa' on' oc')).setCell ⟨rb, 1, none⟩ (.slice la ln lc)).setCell ⟨rb, 2, none⟩ (.slice ka k kc)).setCell ⟨rb, 3, none⟩ (.slice (some ⟨db, 0, none⟩) k k)).setCell ⟨rb, 4, none⟩ (.int .i64 mo)) := ((((Keeps.setCell w2 rb 0 _).trans (Keeps.setCell _ rb 1 _) (Step.refl _ _)).trans (Keeps.setCell _ rb 2 _) (Step.refl _ _)).trans (Keeps.setCell _ rb 3 _) (Step.refl _ _)).trans (Keeps.setCell _ rb 4 _) (Step.refl _ _)
      have MF := E2.mar.keep kf hrbk
      have hnk : New w.heap.size Lk := E2.newA 7 (by omega)
      have bF := kf.below E2.blk.b (fun i hi => by simp at hi; omega) E2.blk.sz
      go_wp2_with fail
      obtain ⟨w7, hw7⟩ : ∃ w7, w7 = (((((w2.setCell ⟨rb, 0, none⟩ (.slice oa' on' oc')).setCell ⟨rb, 1, none⟩ (.slice la ln lc)).setCell ⟨rb, 2, none⟩ (.slice ka k kc)).setCell ⟨rb, 3, none⟩ (.slice (some ⟨db, 0, none⟩) k k)).setCell ⟨rb, 4, none⟩ (.int .i64 mo)) := ⟨_, rfl⟩
      rw [← hw7] at f4 MF bF ⊢
      have q0 : w7.cell? ⟨rb, 0, none⟩ = some (.slice oa' on' oc') := by rw [cell_of_row w7 rb 0 _ _ _ f4]; rfl
      have q1 : w7.cell? ⟨rb, 1, none⟩ = some (.slice la ln lc) := by rw [cell_of_row w7 rb 1 _ _ _ f4]; rfl
      have q2 : w7.cell? ⟨rb, 2, none⟩ = some (.slice ka k kc) := by rw [cell_of_row w7 rb 2 _ _ _ f4]; rfl
      have q3 : w7.cell? ⟨rb, 3, none⟩ = some (.slice (some ⟨db, 0, none⟩) k k) := by rw [cell_of_row w7 rb 3 _ _ _ f4]; rfl
      have q4 : w7.cell? ⟨rb, 4, none⟩ = some (.int .i64 mo) := by rw [cell_of_row w7 rb 4 _ _ _ f4]; rfl
      clear hw7
      refine bodyPost_ret (v := .agg #[.slice oa' on' oc', .slice la ln lc, .slice ka k kc, .slice (some ⟨db, 0, none⟩) k k, .int .i64 mo]) (by simp [results, Try.results30, go_sem, q0, q1, q2, q3, q4]) rfl ?_
      exact ⟨_, _, _, mo, ka, kc, rfl, ⟨Lk, MF, hnk⟩, bF⟩

end Go.Proofs.Ytaffokicnabkiaa

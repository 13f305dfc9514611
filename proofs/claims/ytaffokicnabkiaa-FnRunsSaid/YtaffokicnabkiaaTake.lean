/- The cheapest merge's taking of a shortest run: impl.cheapest$1. -/
import Derived.Test.YtaffokicnabkiaaDelR
import Derived.Deep.Cut
import Derived.Handy
import Derived.Deep.CutRange
import Derived.Deep.CutBlock
namespace Go.Proofs.Ytaffokicnabkiaa
open Go.RowKit
set_option linter.unusedVariables false
set_option linter.unusedSimpArgs false

/-- A run in memory: its length; its members' slice. -/
structure RV where
  v : Int
  a : Option Addr
  n : Nat
  cap : Nat
def RV.cells (r : RV) : List Value := [.int .i64 r.v, .slice r.a r.n r.cap]
def runs (rs : List RV) : List Value := rs.flatMap RV.cells
theorem runs_cons (r : RV) (rs : List RV) : runs (r :: rs) = .int .i64 r.v :: .slice r.a r.n r.cap :: runs rs := rfl
theorem runs_app (rs ts : List RV) : runs (rs ++ ts) = runs rs ++ runs ts := by simp [runs]
theorem runs_len (rs : List RV) : (runs rs).length = 2 * rs.length := by
  induction rs with
  | nil => rfl
  | cons r rs ih => rw [runs_cons]; simp only [List.length_cons, ih]; omega
theorem runs_one (rs : List RV) : ∀ u ∈ runs rs, u.oneCell' = true := by
  induction rs with
  | nil => intro u hu; cases hu
  | cons r rs ih =>
    intro u hu
    rw [runs_cons] at hu
    rcases List.mem_cons.1 hu with rfl | hu
    · rfl
    · rcases List.mem_cons.1 hu with rfl | hu
      · rfl
      · exact ih u hu
theorem runs_at (rs : List RV) : ∀ (j : Nat) (r : RV), rs[j]? = some r → (runs rs)[2 * j]? = some (.int .i64 r.v) ∧ (runs rs)[2 * j + 1]? = some (.slice r.a r.n r.cap) := by
  induction rs with
  | nil => intro j r h; simp at h
  | cons s rs ih =>
    intro j r h
    rw [runs_cons]
    cases j with
    | zero => simp at h; subst h; exact ⟨rfl, rfl⟩
    | succ j =>
      have h1 := ih j r (by simpa using h)
      rw [show 2 * (j + 1) = 2 * j + 1 + 1 by omega]
      simpa using h1
theorem runs_take (rs : List RV) : ∀ i, (runs rs).take (2 * i) = runs (rs.take i) := by
  induction rs with
  | nil => intro i; simp [runs]
  | cons s rs ih =>
    intro i
    cases i with
    | zero => rfl
    | succ i => rw [runs_cons, show 2 * (i + 1) = 2 * i + 1 + 1 by omega, List.take_succ_cons, List.take_succ_cons, ih, List.take_succ_cons, runs_cons]
theorem runs_drop (rs : List RV) : ∀ i, (runs rs).drop (2 * i) = runs (rs.drop i) := by
  induction rs with
  | nil => intro i; simp [runs]
  | cons s rs ih =>
    intro i
    cases i with
    | zero => rfl
    | succ i => rw [runs_cons, show 2 * (i + 1) = 2 * i + 1 + 1 by omega, List.drop_succ_cons, List.drop_succ_cons, ih, List.drop_succ_cons]

def natT (v : Value) : Nat := match v with | .int _ k => k.toNat | _ => 0
def rvAt (rs : List RV) (j : Nat) : RV := rs.getD j ⟨0, none, 0, 0⟩
theorem rvAt_some {rs : List RV} {j : Nat} (h : j < rs.length) : rs[j]? = some (rvAt rs j) := by
  unfold rvAt; rw [List.getD, List.getElem?_eq_getElem h]; rfl
/-- The first of the shortest among the first k. -/
def lp (rs : List RV) : Nat → Nat
  | 0 => 0
  | k + 1 => if (rvAt rs k).v < (rvAt rs (lp rs k)).v then k else lp rs k
theorem lp_lt (rs : List RV) (h : 0 < rs.length) : ∀ k, k ≤ rs.length → lp rs k < rs.length
  | 0, _ => h
  | k + 1, hk => by
    unfold lp
    split
    · omega
    · exact lp_lt rs h k (by omega)
def rmR (rs : List RV) (p : Nat) : List RV := rs.take p ++ rs.drop (p + 1)

theorem Ow2.runAt {w : World} {T : TypeId} {L : List Nat} {a : Option Addr} {n cap : Nat} {rs : List RV} (h : Ow2 w T L a n cap (runs rs)) (hp : 0 < n) :
    ∃ g, L = [g] ∧ a = some ⟨g, 0, none⟩ ∧ g < w.heap.size ∧ (∀ j, j < n → w.cell? ⟨g, j * 2, none⟩ = some (.int .i64 (rvAt rs j).v) ∧ w.cell? ⟨g, j * 2 + 1, none⟩ = some (.slice (rvAt rs j).a (rvAt rs j).n (rvAt rs j).cap)) ∧ ∀ j, w.frozen? ⟨g, j, none⟩ = false := by
  have hl := h.len
  rw [runs_len] at hl
  obtain ⟨g, h1, h2, h3, h4, h5⟩ := h.at' (by have := h.le; omega)
  refine ⟨g, h1, h2, h3, fun j hj => ?_, h5⟩
  have h6 := runs_at rs j _ (rvAt_some (by omega))
  rw [Nat.mul_comm 2 j] at h6
  exact ⟨(h4 (j * 2) (by omega)).trans h6.1, (h4 (j * 2 + 1) (by omega)).trans h6.2⟩


set_option maxRecDepth 100000 in
set_option maxHeartbeats 4000000 in
theorem c_take (bx : Nat) (a : Option Addr) (n cap : Nat) (L : List Nat) (rs : List RV) (w : World) (hbl : bx < w.heap.size) (hb : w.cell? ⟨bx, 0, none⟩ = some (.slice a n cap)) (hf : w.frozen? ⟨bx, 0, none⟩ = false) (h : Ow2 w 62 L a n cap (runs rs)) (hx : bx ∉ L) (h0 : 0 < n) (hn : n ≤ 1000) :
    Calls Try.prog 60 #[.pointer (some ⟨bx, 0, none⟩)] w fun e w' => e = .returned (.agg #[.int .i64 (rvAt rs (lp rs n)).v, .slice (rvAt rs (lp rs n)).a (rvAt rs (lp rs n)).n (rvAt rs (lp rs n)).cap]) ∧ w'.cell? ⟨bx, 0, none⟩ = some (.slice a (n - 1) cap) ∧ w'.frozen? ⟨bx, 0, none⟩ = false ∧ Ow2 w' 62 L a (n - 1) cap (runs (rmR rs (lp rs n))) ∧ Keeps (bx :: L) w w' := by
  have hlen : rs.length = n := by have := h.len; rw [runs_len] at this; omega
  have hle := h.le
  have hmax := h.max
  unfold maxLen at hmax
  obtain ⟨g, rfl, rfl, hgl, hgc, hgf⟩ := h.at' (by omega)
  have HC := Lib.hid (show ∀ j, j < n → w.cell? ⟨g, j * 2, none⟩ = some (.int .i64 (rvAt rs j).v) ∧ w.cell? ⟨g, j * 2 + 1, none⟩ = some (.slice (rvAt rs j).a (rvAt rs j).n (rvAt rs j).cap) from fun j hj => by
    have h1 := runs_at rs j _ (rvAt_some (by omega))
    rw [Nat.mul_comm 2 j] at h1
    exact ⟨(hgc (j * 2) (by omega)).trans h1.1, (hgc (j * 2 + 1) (by omega)).trans h1.2⟩)
  have OW := Lib.hid h
  have HGF := Lib.hid hgf
  have hne : bx ≠ g := fun e => hx (by simp [e])
  clear h hgc hgf
  go_enter Try.func60, Try.ntmps60
  go_wp2_with fail
  obtain ⟨w0, hw0⟩ : ∃ w0, w0 = w.alloc (.cells #[.int .i64 0, .slice none 0 0] 62) := ⟨_, rfl⟩
  obtain ⟨B, hB⟩ : ∃ B, B = w.heap.size := ⟨_, rfl⟩
  have hs0 : w0.heap.size = B + 1 := by rw [hw0, hB]; simp
  have bel0 : Below w.heap.size w w0 := by rw [hw0]; exact (Below.refl _ _).alloc (Nat.le_refl _) _
  have hb0 := (bel0.cell hbl).trans hb
  have hf0 : w0.frozen? ⟨bx, 0, none⟩ = false := by exact (bel0.frozen hbl).trans hf
  have OW0 := Lib.hid (OW.out.below bel0)
  have hgl0 : g < w0.heap.size := by omega
  have hbl0 : bx < w0.heap.size := by omega
  rw [← hw0, ← hB]
  have HW0 := Lib.hid hw0
  have HB := Lib.hid hB
  have HS0 := Lib.hid hs0
  clear hw0 hB hs0
  go_loopw [2, 8] (fun at' k' wr => ∃ k : Nat, k ≤ n ∧ at' = .int .i64 (lp rs k : Int) ∧ k' = .int .i64 (k : Int) ∧ Below w0.heap.size w0 wr) (fun _ k' _ => n - natT k')
  case atStart => exact ⟨0, by omega, rfl, rfl, Below.refl _ _⟩
  case round =>
    obtain ⟨k, hk, rfl, rfl, hbw⟩ := hrel
    have hbr := (hbw.cell hbl0).trans hb0
    have hszr := hbw.size
    obtain ⟨g', e', _, _, hgc, hgf⟩ := (OW0.out.below hbw).runAt h0
    have e2 := List.head_eq_of_cons_eq e'
    subst e2
    have hgr : g < wr.heap.size := by omega
    have hgne : g ≠ wr.heap.size := by omega
    have hgne' : wr.heap.size ≠ g := by omega
    by_cases hkn : k < n
    · obtain ⟨c1, c2⟩ := hgc k hkn
      have hlk := lp_lt rs (by omega) k (by omega)
      rw [hlen] at hlk
      have c3 := (hgc _ hlk).1
      clear hgc
      go_wp2_with fail
      obtain ⟨wn, hwn⟩ : ∃ wn, wn = wr.alloc (.cells #[.int .i64 (rvAt rs k).v, .slice (rvAt rs k).a (rvAt rs k).n (rvAt rs k).cap] 62) := ⟨_, rfl⟩
      have n0 : Below w0.heap.size w0 wn := by rw [hwn]; exact hbw.alloc hszr _
      have n1 : wn.cell? ⟨wr.heap.size, 0, none⟩ = some (.int .i64 (rvAt rs k).v) := by rw [hwn]; exact (World.cell?_alloc_at _ _ _ _ (by simp))
      have nb : Below wr.heap.size wr wn := by rw [hwn]; exact (Below.refl _ _).alloc (Nat.le_refl _) _
      have n2 := (nb.cell (p := ⟨bx, 0, none⟩) (by show bx < wr.heap.size; omega)).trans hbr
      have n3 := (nb.cell (p := ⟨g, lp rs k * 2, none⟩) hgr).trans c3
      rw [← hwn]
      clear hwn nb c1 c2 c3
      have LS := Lib.hid (show lp rs (k + 1) = if (rvAt rs k).v < (rvAt rs (lp rs k)).v then k else lp rs k from rfl)
      have hmaxg : g < wn.heap.size := by have := n0.size; omega
      go_quiet (fail)
      have n4 : Below w0.heap.size w0 (wn.drewN nq) := n0.trans (below_drewN (Below.refl _ _) nq)
      by_cases hlt : (rvAt rs k).v < (rvAt rs (lp rs k)).v
      · have HN := Lib.hid (show lp rs (k + 1) = k by rw [LS.out, if_pos hlt])
        go_wp2_with fail
        go_roundw
        case rel => exact ⟨k + 1, by omega, by rw [HN.out], by rw [Int.natCast_add]; rfl, n4⟩
        case measure => simp [natT, Act.put]; omega
      · have HN := Lib.hid (show lp rs (k + 1) = lp rs k by rw [LS.out, if_neg hlt])
        go_wp2_with fail
        go_roundw
        case rel => exact ⟨k + 1, by omega, by rw [HN.out], by rw [Int.natCast_add]; rfl, n4⟩
        case measure => simp [natT, Act.put]; omega
    · obtain rfl : k = n := by omega
      have hlk := lp_lt rs (by omega) k (by omega)
      rw [hlen] at hlk
      obtain ⟨c1, c2⟩ := hgc _ hlk
      clear hgc
      have owr := OW0.out.below hbw
      have hlpk : (lp rs k : Int) + 1 = ((lp rs k + 1 : Nat) : Int) := by omega
      have hwl : IntKind.i64.wrap ((lp rs k : Int) + 1) = (lp rs k : Int) + 1 := by rw [IntKind.wrap_i64]; omega
      clear hlpk
      obtain ⟨D, hD⟩ : ∃ D, D = wr.heap.size := ⟨_, rfl⟩
      obtain ⟨wn, hwn⟩ : ∃ wn, wn = wr.alloc (.cells #[.int .i64 (rvAt rs (lp rs k)).v, .slice (rvAt rs (lp rs k)).a (rvAt rs (lp rs k)).n (rvAt rs (lp rs k)).cap] 62) := ⟨_, rfl⟩
      have hDs : wn.heap.size = D + 1 := by rw [hwn, hD]; simp
      have nb : Below wr.heap.size wr wn := by rw [hwn]; exact (Below.refl _ _).alloc (Nat.le_refl _) _
      have n1 : wn.cell? ⟨D, 0, none⟩ = some (.int .i64 (rvAt rs (lp rs k)).v) := by rw [hwn, hD]; exact (World.cell?_alloc_at _ _ _ _ (by simp))
      have n1' : wn.cell? ⟨D, 1, none⟩ = some (.slice (rvAt rs (lp rs k)).a (rvAt rs (lp rs k)).n (rvAt rs (lp rs k)).cap) := by rw [hwn, hD]; exact (World.cell?_alloc_at _ _ _ _ (by simp))
      have hbxr : bx < wr.heap.size := by omega
      have n2 := (nb.cell (p := ⟨bx, 0, none⟩) hbxr).trans hbr
      have n2f : wn.frozen? ⟨bx, 0, none⟩ = false := ((nb.frozen (p := ⟨bx, 0, none⟩) hbxr).trans (hbw.frozen hbl0)).trans hf0
      have hBr : B < wr.heap.size := by have := HS0.out; omega
      have hz0 : w0.heap[B]? = some (.cells #[.int .i64 0, .slice none 0 0] 62 (0, 0)) := by rw [HW0.out, HB.out]; exact heap_alloc_new w _
      have hzn : wn.heap[B]? = some (.cells #[.int .i64 0, .slice none 0 0] 62 (0, 0)) := by rw [nb.block B hBr, hbw.block B (by have := HS0.out; omega), hz0]
      have ZN := Lib.hid hzn
      have HD := Lib.hid hD
      have HDS := Lib.hid hDs
      have NB := Lib.hid nb
      have own := owr.below nb
      have hBD : B < D := by omega
      have hbD : bx < D := by omega
      have hgD : g < D := by omega
      have HWN := Lib.hid hwn
      rw [← hD] at hbxr hgr hBr
      clear hzn hz0 nb
      go_upto_region 9 with fail
      rw [← hwn, ← hD]
      clear hD hwn hDs
      go_upto_region 10 with (go_at_call 61; refine (c_DelRun (some ⟨g, 0, none⟩) k cap (lp rs k) [g] (runs rs) _ own hlk hn (runs_one rs) _ _ rfl rfl).mono ?_; rintro e w2 ⟨rfl, ow2, kp2⟩; have m2 : w2.cell? ⟨bx, 0, none⟩ = some (.slice (some ⟨g, 0, none⟩) k cap) := (World.cell?_of_block (kp2.block bx (by have := HDS.out; omega) (by simpa using hne))).trans n2; have m2f : w2.frozen? ⟨bx, 0, none⟩ = false := (World.frozen?_of_block (kp2.block bx (by have := HDS.out; omega) (by simpa using hne))).trans n2f)
      obtain ⟨w3, hw3⟩ : ∃ w3, w3 = w2.setCell ⟨bx, 0, none⟩ (.slice (some ⟨g, 0, none⟩) (k - 1) cap) := ⟨_, rfl⟩
      have hbB : bx < B := by rw [HB.out]; exact hbl
      have hgB : g < B := by rw [HB.out]; exact hgl
      have hblk : ∀ b, b ≠ bx → b ≠ g → b < wn.heap.size → w3.heap[b]? = wn.heap[b]? := fun b h1 h2 h3 => by
        rw [hw3, Below.heap_setCell _ _ _ _ h1]; exact kp2.block b h3 (by simpa using h2)
      have hD3 := hblk D (by omega) (by omega) (by have := HDS.out; omega)
      have hB3 := hblk B (by omega) (by omega) (by have := HDS.out; omega)
      have r1 := (World.cell?_of_block (a := ⟨D, 0, none⟩) hD3).trans n1
      have r2 := (World.cell?_of_block (a := ⟨D, 1, none⟩) hD3).trans n1'
      have hB4 := hB3.trans ZN.out
      have z1 : w3.cell? ⟨B, 0, none⟩ = some (.int .i64 0) := by rw [cell_of_row w3 B 0 _ _ _ hB4]; rfl
      have z2 : w3.cell? ⟨B, 1, none⟩ = some (.slice none 0 0) := by rw [cell_of_row w3 B 1 _ _ _ hB4]; rfl
      have z3 : ∀ j, w3.frozen? ⟨B, j, none⟩ = false := fun j => frozen_of_row w3 B j _ _ hB4
      have kp3 : Keeps [bx] w2 w3 := by rw [hw3]; exact Keeps.setCell _ _ _ _
      have y1 : w3.cell? ⟨bx, 0, none⟩ = some (.slice (some ⟨g, 0, none⟩) (k - 1) cap) := by
        rw [hw3]; exact World.cell?_setCell_same _ _ _ m2
      have y2 : w3.frozen? ⟨bx, 0, none⟩ = false := by
        rw [hw3, World.frozen?_setCell]; exact m2f
      have ow3 := ow2.keep kp3 (fun i hi hm => by simp at hi hm; omega)
      rw [← hw3]
      clear hw3 hblk hD3 hB3 hB4 m2 m2f
      go_wp2_with fail
      obtain ⟨w4, hw4⟩ : ∃ w4, w4 = (w3.setCell ⟨B, 0, none⟩ (.int .i64 (rvAt rs (lp rs k)).v)).setCell ⟨B, 1, none⟩ (.slice (rvAt rs (lp rs k)).a (rvAt rs (lp rs k)).n (rvAt rs (lp rs k)).cap) := ⟨_, rfl⟩
      have kp4 : Keeps [B] w3 w4 := by rw [hw4]; exact (Keeps.setCell _ _ _ _).trans (Keeps.setCell _ _ _ _) (Step.refl _ _)
      have q1 : w4.cell? ⟨B, 0, none⟩ = some (.int .i64 (rvAt rs (lp rs k)).v) := by
        rw [hw4, World.cell?_setCell_other _ _ _ _ (by simp)]; exact World.cell?_setCell_same _ _ _ z1
      have q2 : w4.cell? ⟨B, 1, none⟩ = some (.slice (rvAt rs (lp rs k)).a (rvAt rs (lp rs k)).n (rvAt rs (lp rs k)).cap) := by
        rw [hw4]
        refine World.cell?_setCell_same _ _ _ (u := .slice none 0 0) ?_
        rw [World.cell?_setCell_other _ _ _ _ (by simp)]; exact z2
      have hb3 : bx < w3.heap.size := by have h1 := kp3.size; have h2 := kp2.size; have := HDS.out; omega
      have hkb := kp4.block bx hb3 (by simp; omega)
      have x1 := (World.cell?_of_block (a := ⟨bx, 0, none⟩) hkb).trans y1
      have x2 := (World.frozen?_of_block (a := ⟨bx, 0, none⟩) hkb).trans y2
      have ow4 := ow3.keep kp4 (fun i hi hm => by simp at hi hm; omega)
      have hsz : w.heap.size = B := HB.out.symm
      have kN : Keeps [] w wn := (Keeps.of_below bel0 []).trans ((Keeps.of_below hbw []).trans (Keeps.of_below NB.out []) (Step.refl _ _)) (Step.refl _ _)
      have KF : Keeps [bx, g] w w4 := by
        refine (kN.mono (L' := [bx, g]) (fun i hi => by cases hi)).trans (L' := [g, bx, B]) ?_ (fun i hi => by simp at hi ⊢; omega)
        refine (kp2.mono (L' := [g, bx, B]) (fun i hi => .inl (by simp at hi ⊢; omega))).trans (L' := [bx, B]) ?_ (fun i hi => .inl (by simp at hi ⊢; omega))
        exact (kp3.mono (L' := [bx, B]) (fun i hi => .inl (by simp at hi ⊢; omega))).trans kp4 (fun i hi => .inl (by simp at hi ⊢; omega))
      rw [← hw4]
      clear hw4
      refine bodyPost_ret (v := .agg #[.int .i64 (rvAt rs (lp rs k)).v, .slice (rvAt rs (lp rs k)).a (rvAt rs (lp rs k)).n (rvAt rs (lp rs k)).cap]) (by simp [results, Try.results60, go_sem, q1, q2]) rfl ?_
      refine ⟨rfl, x1, x2, ?_, KF⟩
      rw [runs_take, runs_drop, ← runs_app] at ow4
      exact ow4

end Go.Proofs.Ytaffokicnabkiaa

/- Networks of comparators: whether one is valid, a list run through one. No condition but sizes. -/
import Derived.Test.YtpicnechmdbkfaaGapsL
import Derived.Test.YtpicnechmdbkfaaGrid
import Derived.Test.YtpicnechmdbkfaaInB
import Derived.Test.YtpicnechmdbkfaaTurn
import Derived.Test.YtpicnechmdbkfaaRis
import Derived.Deep.RegionHeld3
namespace Go.Proofs.Ytpicnechmdbkfaa
open Go.RowKit
set_option linter.unusedVariables false
set_option linter.unusedSimpArgs false

/-- Pairs of two wires out of n. -/
def OkN (n : Nat) (xss : List (List Int)) : Prop := ∀ j, j < xss.length → ∃ p q : Nat, xss.getD j [] = [(p : Int), (q : Int)] ∧ p < n ∧ q < n ∧ p ≠ q
def apN (ys : List Int) (xss : List (List Int)) : Nat → List Int
  | 0 => ys
  | k + 1 => cxL (apN ys xss k) (nth (xss.getD k []) 0).toNat (nth (xss.getD k []) 1).toNat
theorem apN_len (ys : List Int) (xss : List (List Int)) (k : Nat) : (apN ys xss k).length = ys.length := by
  induction k with
  | zero => rfl
  | succ k ih => rw [apN, cxL_len, ih]


theorem c_isWire (n k : Nat) (pv : Value) (w : World) (h : k < n) (hn : n ≤ 100) :
    Calls Try.prog 71 #[.agg #[.int .i64 n, pv], .int .i64 k] w fun e w' => e = .returned (.bool true) ∧ Below w.heap.size w w' := by
  have h1 : (0 : Int) ≤ (k : Int) := by omega
  have h2 : decide ((k : Int) < (n : Int)) = true := decide_eq_true (by omega)
  go_enter Try.func71, Try.ntmps71
  go_wp2_with fail
  go_ret
  exact ⟨by simp [*], (Below.refl _ _).alloc (Nat.le_refl _) _⟩



theorem c_isWires (n : Nat) (w : World) (h1 : 1 ≤ n) (h8 : n ≤ 8) : Calls Try.prog 56 #[.int .i64 n] w fun e w' => e = .returned (.bool true) ∧ w = w' := by
  have d1 : decide ((1 : Int) ≤ (n : Int)) = true := decide_eq_true (by omega)
  have d2 : decide ((n : Int) ≤ 8) = true := decide_eq_true (by omega)
  go_enter Try.func56, Try.ntmps56
  go_wp2_with fail
  go_ret
  exact ⟨by simp [*], rfl⟩



set_option maxRecDepth 100000 in
set_option maxHeartbeats 4000000 in
theorem c_NetworkOk (n m pc : Nat) (pa : Option Addr) (xss : List (List Int)) (w : World) (hr : RdG w pa m pc xss) (ho : OkN n xss) (h1 : 1 ≤ n) (h8 : n ≤ 8) (hm : m ≤ 60) :
    Calls Try.prog 58 #[.agg #[.int .i64 n, .slice pa m pc]] w fun e w' => e = .returned (.bool true) ∧ Below w.heap.size w w' := by
  have HL := Lib.hid hr.len
  have C1 := Lib.hid (fun wx => c_isWires n wx h1 h8)
  have d1 : decide ((60 : Int) < (m : Int)) = false := decide_eq_false (by omega)
  obtain ⟨w0, hw0⟩ : ∃ w0, w.alloc (.cells #[.int .i64 n, .slice pa m pc] 41) = w0 := ⟨_, rfl⟩
  have b0 : Below w.heap.size w w0 := by rw [← hw0]; exact (Below.refl _ _).alloc (Nat.le_refl _) _
  have hg0 : w0.cell? ⟨w.heap.size, 0, none⟩ = some (.int .i64 n) := by rw [← hw0, World.cell?_alloc_at _ _ _ _ (by simp)]; rfl
  have hg1 : w0.cell? ⟨w.heap.size, 1, none⟩ = some (.slice pa m pc) := by rw [← hw0, World.cell?_alloc_at _ _ _ _ (by simp)]; rfl
  go_enter Try.func58, Try.ntmps58
  go_wp2_with fail
  refine (C1.out _).mono ?_
  rintro e w' ⟨rfl, rfl⟩
  go_wp2_with fail
  go_loopw [18] (fun i wr => ∃ k : Nat, k ≤ m ∧ i = .int .i64 k ∧ Below w0.heap.size w0 wr) (fun i _ => m - (intOf i).toNat)
  case atStart => exact ⟨0, by omega, rfl, Below.refl _ _⟩
  case round =>
    as_aux_lemma =>
    obtain ⟨k, hk, rfl, hb⟩ := hrel
    by_cases hlt : k < m
    · obtain ⟨p, q, hrow, hp, hq, hpq⟩ := ho k (by rw [HL.out]; exact hlt)
      obtain ⟨b, off, a', n', cap', rfl, _, hcl, hrd⟩ := (hr.below (Below.nx b0 hb)).at' hlt
      rw [hrow] at hrd
      have hn2 : 2 = n' := hrd.lens
      subst hn2
      obtain ⟨b', off', rfl, _, hc⟩ := hrd.int (by omega)
      have e0 : nth [(p : Int), (q : Int)] 0 = (p : Int) := rfl
      have e1 : nth [(p : Int), (q : Int)] 1 = (q : Int) := rfl
      have c0 := hc 0 (by omega)
      have c1 := hc 1 (by omega)
      rw [e0, Nat.add_zero] at c0
      rw [e1] at c1
      have y0 := (hb.cell (p := ⟨w.heap.size, 0, none⟩) (World.block_lt_of_cell? w0 _ hg0)).trans hg0
      have y1 := (hb.cell (p := ⟨w.heap.size, 1, none⟩) (World.block_lt_of_cell? w0 _ hg1)).trans hg1
      have x0 := beW_cell c0
      have x1 := beW_cell c1
      have x2 := beW_cell y0
      have x3 := beW_cell y1
      have K0 := Lib.hid (inB_of (v := .bool true) (w0 := wr) (fun wx hx => c_isWire n p (.slice (some ⟨b, off, none⟩) m pc) wx hp (by omega)))
      have K1 := Lib.hid (inB_of (v := .bool true) (w0 := wr) (fun wx hx => c_isWire n q (.slice (some ⟨b, off, none⟩) m pc) wx hq (by omega)))
      have g1 : ((p : Int) == (q : Int)) = false := by simp; omega
      have g2 : (p == q) = false := by simp; omega
      clear hc e0 e1 c0 c1 y0 y1 hrd hrow
      go_wp2_with fail
      refine wp_region_inB (by kernel_rfl) (by kernel_rfl) (by kernel_rfl) ?_
      repeat (go_big_quiet_step ((first | with_reducible exact K0.out _ | with_reducible exact K1.out _)))
      refine wpQuiet_nil ?_
      rintro _ ⟨ex, rfl⟩
      have bex := beW_below wr ex
      obtain ⟨w5, hw5⟩ : ∃ w5, beW wr ex = w5 := ⟨_, rfl⟩
      rw [hw5] at bex ⊢
      have B5 : Below w0.heap.size w0 w5 := Below.nx hb bex
      clear hw5 ex x0 x1 x2 x3 K0 K1
      go_wp2_with fail
      go_roundw
      case rel => exact ⟨k + 1, by omega, by go_num, B5⟩
      case measure => simp [intOf]; omega
    · obtain rfl : k = m := by omega
      go_wp2_with fail
      go_ret
      exact ⟨rfl, Below.nx b0 hb⟩



theorem c_checked (n m pc : Nat) (pa : Option Addr) (xss : List (List Int)) (w : World) (hr : RdG w pa m pc xss) (ho : OkN n xss) (h1 : 1 ≤ n) (h8 : n ≤ 8) (hm : m ≤ 60) :
    Calls Try.prog 57 #[.agg #[.int .i64 n, .slice pa m pc]] w fun e w' => e = .returned (.tuple #[.agg #[.int .i64 n, .slice pa m pc], .bool true]) ∧ Below w.heap.size w w' := by
  obtain ⟨w0, hw0⟩ : ∃ w0, (w.alloc (.cells #[.int .i64 n, .slice pa m pc] 41)).alloc (.cells #[.int .i64 0, .slice none 0 0] 41) = w0 := ⟨_, rfl⟩
  have b0 : Below w.heap.size w w0 := by rw [← hw0]; exact ((Below.refl _ _).alloc (Nat.le_refl _) _).alloc (by simp) _
  have C1 := Lib.hid (c_NetworkOk n m pc pa xss w0 (hr.below b0) ho h1 h8 hm)
  have hg0 : w0.cell? ⟨w.heap.size, 0, none⟩ = some (.int .i64 n) := by rw [← hw0]; simp
  have hg1 : w0.cell? ⟨w.heap.size, 1, none⟩ = some (.slice pa m pc) := by rw [← hw0]; simp
  have hk0 : w0.cell? ⟨w.heap.size + 1, 0, none⟩ = some (.int .i64 0) := by rw [← hw0]; simp
  have hk1 : w0.cell? ⟨w.heap.size + 1, 1, none⟩ = some (.slice none 0 0) := by rw [← hw0]; simp
  have hf0 : w0.frozen? ⟨w.heap.size + 1, 0, none⟩ = false := by rw [← hw0]; simp
  have hf1 : w0.frozen? ⟨w.heap.size + 1, 1, none⟩ = false := by rw [← hw0]; simp
  have hsz : w0.heap.size = w.heap.size + 2 := by rw [← hw0]; simp
  go_enter Try.func57, Try.ntmps57
  go_wp2_with fail
  refine C1.out.mono ?_
  rintro e w1 ⟨rfl, b1⟩
  have y0 := (b1.cell (p := ⟨w.heap.size, 0, none⟩) (by rw [hsz]; show w.heap.size < _; omega)).trans hg0
  have y1 := (b1.cell (p := ⟨w.heap.size, 1, none⟩) (by rw [hsz]; show w.heap.size < _; omega)).trans hg1
  have z0 := (b1.cell (p := ⟨w.heap.size + 1, 0, none⟩) (by rw [hsz]; show w.heap.size + 1 < _; omega)).trans hk0
  have z1 := (b1.cell (p := ⟨w.heap.size + 1, 1, none⟩) (by rw [hsz]; show w.heap.size + 1 < _; omega)).trans hk1
  have u0 := (b1.frozen (p := ⟨w.heap.size + 1, 0, none⟩) (by rw [hsz]; show w.heap.size + 1 < _; omega)).trans hf0
  have u1 := (b1.frozen (p := ⟨w.heap.size + 1, 1, none⟩) (by rw [hsz]; show w.heap.size + 1 < _; omega)).trans hf1
  have B1 : Below w.heap.size w w1 := Below.nx b0 b1
  clear C1 hg0 hg1 hk0 hk1 hf0 hf1 hsz hw0
  go_wp2_with fail
  exact bodyPost_ret (v := .tuple #[.agg #[.int .i64 n, .slice pa m pc], .bool true]) (by simp [results, Try.results57, go_sem, z0, z1, u0, u1]) rfl ⟨rfl, (B1.setCell (by show w.heap.size ≤ w.heap.size + 1; omega) _).setCell (by show w.heap.size ≤ w.heap.size + 1; omega) _⟩



set_option maxRecDepth 100000 in
set_option maxHeartbeats 4000000 in
theorem c_apply (n m pc lc : Nat) (pa la : Option Addr) (xss : List (List Int)) (ys : List Int) (w : World) (hr : RdG w pa m pc xss) (ho : OkN n xss) (hm : m ≤ 60) (hl : RdI w la n lc ys) (hn : n ≤ 100) :
    Calls Try.prog 59 #[.agg #[.int .i64 n, .slice pa m pc], .slice la n lc] w fun e w' => ∃ oa oc, e = .returned (.slice oa n oc) ∧ OwI w' 3 w.heap.size oa n oc (apN ys xss m) ∧ Below w.heap.size w w' := by
  have HL := Lib.hid hr.len
  have HY := Lib.hid hl.lens
  obtain ⟨w0, hw0⟩ : ∃ w0, w.alloc (.cells #[.int .i64 n, .slice pa m pc] 41) = w0 := ⟨_, rfl⟩
  have b0 : Below w.heap.size w w0 := by rw [← hw0]; exact (Below.refl _ _).alloc (Nat.le_refl _) _
  have hg0 : w0.cell? ⟨w.heap.size, 0, none⟩ = some (.int .i64 n) := by rw [← hw0, World.cell?_alloc_at _ _ _ _ (by simp)]; rfl
  have hg1 : w0.cell? ⟨w.heap.size, 1, none⟩ = some (.slice pa m pc) := by rw [← hw0, World.cell?_alloc_at _ _ _ _ (by simp)]; rfl
  have C1 := Lib.hid (c_Clone la n lc ys w0 (hl.below b0) (by omega))
  go_enter Try.func59, Try.ntmps59
  go_wp2_with fail
  refine C1.out.mono ?_
  rintro e w1 ⟨oa, oc, rfl, ⟨L, how, hnew⟩, b1⟩
  have y1 := (b1.cell (p := ⟨w.heap.size, 1, none⟩) (World.block_lt_of_cell? w0 _ hg1)).trans hg1
  clear C1
  go_wp2_with fail
  have B1 : Below w.heap.size w w1 := Below.nx b0 b1
  have hnew : New w.heap.size L := hnew.mono b0.size
  have hr1 := hr.below B1
  clear hg0 hg1 y1 hw0 b0 b1
  obtain ⟨wv, hwv⟩ : ∃ wv : World, wv = w1 := ⟨_, rfl⟩
  subst hwv
  go_loopw [15] (fun i wr => ∃ k : Nat, k ≤ m ∧ i = .int .i64 k ∧ Ow wr 3 L oa n oc (ints (apN ys xss k)) ∧ Keeps L wv wr) (fun i _ => m - (intOf i).toNat)
  case atStart => exact ⟨0, by omega, rfl, how, Keeps.refl _ _⟩
  case round =>
    as_aux_lemma =>
    obtain ⟨k, hk, rfl, hok, kk⟩ := hrel
    by_cases hlt : k < m
    · obtain ⟨p, q, hrow, hp, hq, hpq⟩ := ho k (by rw [HL.out]; exact hlt)
      have Bw : Below w.heap.size w wr := kk.below B1 hnew B1.size
      obtain ⟨b, off, a', n', cap', rfl, hbl, hcl, hrd⟩ := hr.at' hlt
      rw [hrow] at hrd
      have hn2 : 2 = n' := hrd.lens
      subst hn2
      obtain ⟨b', off', rfl, hbl', hc⟩ := hrd.int (by omega)
      have e0 : nth [(p : Int), (q : Int)] 0 = (p : Int) := rfl
      have e1 : nth [(p : Int), (q : Int)] 1 = (q : Int) := rfl
      have hcl' := (Bw.cell (p := ⟨b, off + k, none⟩) hbl).trans hcl
      have c0 := (Bw.cell (p := ⟨b', off' + 0, none⟩) hbl').trans (hc 0 (by omega))
      have c1 := (Bw.cell (p := ⟨b', off' + 1, none⟩) hbl').trans (hc 1 (by omega))
      rw [e0, Nat.add_zero] at c0
      rw [e1] at c1
      have HK := Lib.hid (show apN ys xss (k + 1) = cxL (apN ys xss k) p q by rw [apN, hrow]; simp [nth])
      obtain ⟨zs, hzs⟩ : ∃ zs, apN ys xss k = zs := ⟨_, rfl⟩
      rw [hzs] at hok HK
      obtain ⟨g, rfl, rfl, hgl, hoc, hof⟩ := hok.int (by have := hok.le; omega)
      have o0 := hoc p hp
      have o1 := hoc q hq
      have f0 := hof p
      have f1 := hof q
      have hgn : w.heap.size ≤ g := hnew g (by simp)
      have hne : ¬ (b' = g) := by show ¬ (b' = g); have : b' < w.heap.size := hbl'; omega
      have hne2 : ¬ (g = b') := fun e => hne e.symm
      have hpq1 : ¬ (q = p) := fun e => hpq e.symm
      obtain ⟨x, hx⟩ : ∃ x, nth zs p = x := ⟨_, rfl⟩
      obtain ⟨y, hy⟩ : ∃ y, nth zs q = y := ⟨_, rfl⟩
      rw [hx] at o0
      rw [hy] at o1
      have HXY := Lib.hid (And.intro hx hy)
      clear hoc hof hx hy hzs hc hcl hrd hrow e0 e1 HY HL
      go_wp2_with fail
      go_quiet (fail)
      go_wp2_with fail
      go_region_held3 (fun w' => w'.cell? ⟨b', off', none⟩ = some (.int .i64 p) ∧ w'.cell? ⟨b', off' + 1, none⟩ = some (.int .i64 q)) (go_keep) (fail)
      all_goals
        go_wp2_with fail
        go_roundw
        case rel =>
          refine ⟨k + 1, by omega, by go_num, ?_, kk.trans ((Keeps.drewN [g] wr _).trans ((Keeps.setCell _ g p _).trans (Keeps.setCell _ g q _) (Step.refl _ _)) (Step.refl _ _)) (Step.refl _ _)⟩
          have h := ((hok.drewN (nq + 1)).set p (.int .i64 (min x y))).set q (.int .i64 (max x y))
          rw [ints_set, ints_set] at h
          rw [HK.out, cxL, HXY.out.1, HXY.out.2]
          exact h
        case measure => simp [intOf]; omega
    · obtain rfl : k = m := by omega
      go_wp2_with fail
      go_ret
      exact ⟨oa, oc, rfl, ⟨L, hok, hnew⟩, kk.below B1 hnew B1.size⟩



theorem c_ApplyNetwork (n m pc lc : Nat) (pa la : Option Addr) (xss : List (List Int)) (ys : List Int) (w : World) (hr : RdG w pa m pc xss) (ho : OkN n xss) (h1 : 1 ≤ n) (h8 : n ≤ 8) (hm : m ≤ 60) (hl : RdI w la n lc ys) :
    Calls Try.prog 33 #[.agg #[.int .i64 n, .slice pa m pc], .slice la n lc] w fun e w' => ∃ oa oc, e = .returned (.tuple #[.slice oa n oc, .bool true]) ∧ OwI w' 3 w.heap.size oa n oc (apN ys xss m) ∧ Below w.heap.size w w' := by
  obtain ⟨w0, hw0⟩ : ∃ w0, w.alloc (.cells #[.int .i64 n, .slice pa m pc] 41) = w0 := ⟨_, rfl⟩
  have b0 : Below w.heap.size w w0 := by rw [← hw0]; exact (Below.refl _ _).alloc (Nat.le_refl _) _
  have hg0 : w0.cell? ⟨w.heap.size, 0, none⟩ = some (.int .i64 n) := by rw [← hw0, World.cell?_alloc_at _ _ _ _ (by simp)]; rfl
  have hg1 : w0.cell? ⟨w.heap.size, 1, none⟩ = some (.slice pa m pc) := by rw [← hw0, World.cell?_alloc_at _ _ _ _ (by simp)]; rfl
  have C1 := Lib.hid (c_NetworkOk n m pc pa xss w0 (hr.below b0) ho h1 h8 hm)
  have hnn : ((n : Int) == (n : Int)) = true := by simp
  go_enter Try.func33, Try.ntmps33
  go_wp2_with fail
  refine C1.out.mono ?_
  rintro e w1 ⟨rfl, b1⟩
  have B1 : Below w.heap.size w w1 := Below.nx b0 b1
  have y0 := (b1.cell (p := ⟨w.heap.size, 0, none⟩) (World.block_lt_of_cell? w0 _ hg0)).trans hg0
  have y1 := (b1.cell (p := ⟨w.heap.size, 1, none⟩) (World.block_lt_of_cell? w0 _ hg1)).trans hg1
  have C2 := Lib.hid (c_apply n m pc lc pa la xss ys w1 (hr.below B1) ho hm (hl.below B1) (by omega))
  clear C1 hg0 hg1 hw0
  go_wp2_with fail
  refine C2.out.mono ?_
  rintro e w2 ⟨oa, oc, rfl, ow, b2⟩
  clear C2
  go_wp2_with fail
  go_ret2
  exact ⟨oa, oc, rfl, ow.mono B1.size, Below.nx B1 b2⟩



theorem Keeps.then_below {L : List Nat} {w0 a b : World} (k : Keeps L w0 a) (h : Below w0.heap.size a b) : Keeps L w0 b :=
  ⟨h.os.trans k.os, h.tape.trans k.tape, h.output.trans k.output, Nat.le_trans k.size h.size, fun i hi hn => (h.block i hi).trans (k.block i hi hn)⟩
/-- The first k pairs. -/
def npF (g m k : Nat) : List (List Int) := (List.range k).map fun j => [((j % m : Nat) : Int), ((j % m + g : Nat) : Int)]
theorem npF_len (g m k : Nat) : (npF g m k).length = k := by simp [npF]
theorem npF_succ (g m k : Nat) : npF g m (k + 1) = npF g m k ++ [[((k % m : Nat) : Int), ((k % m + g : Nat) : Int)]] := by simp [npF, List.range_succ]
theorem npF_at {g m k j : Nat} (h : j < k) : (npF g m k).getD j [] = [((j % m : Nat) : Int), ((j % m + g : Nat) : Int)] := by simp [npF, List.getD, h]
theorem npF_ok {g m k n : Nat} (hg : 1 ≤ g) (hm : m + g ≤ n) (h0 : k = 0 ∨ 1 ≤ m) : OkN n (npF g m k) := by
  intro j hj
  rw [npF_len] at hj
  have := Nat.mod_lt j (show 0 < m by omega)
  exact ⟨j % m, j % m + g, npF_at hj, by omega, by omega, by omega⟩
theorem apN_prefix (ys : List Int) (xss yss : List (List Int)) (k : Nat) (h : ∀ j, j < k → xss.getD j [] = yss.getD j []) : apN ys xss k = apN ys yss k := by
  induction k with
  | zero => rfl
  | succ k ih => rw [apN, apN, ih (fun j hj => h j (by omega)), h k (by omega)]
theorem apN_bub (ys : List Int) (g m K : Nat) (t : Nat) : ∀ i, i ≤ m → t * m + i ≤ K → apN ys (npF g m K) (t * m + i) = bub (bubs ys g m t) g i := by
  induction t with
  | zero =>
    intro i
    induction i with
    | zero => intro _ _; simp [apN, bub, bubs]
    | succ i ih =>
      intro hi hK
      have h1 := ih (by omega) (by omega)
      rw [show 0 * m + (i + 1) = (0 * m + i) + 1 by omega, apN, h1, npF_at (by omega), bub]
      have : (0 * m + i) % m = i := by rw [Nat.zero_mul, Nat.zero_add]; exact Nat.mod_eq_of_lt (by omega)
      rw [this]
      simp only [nth, List.getD, List.getElem?_cons_zero, List.getElem?_cons_succ, Option.getD_some, Int.toNat_natCast]
  | succ t iht =>
    intro i
    induction i with
    | zero =>
      intro _ hK
      rw [Nat.add_zero, Nat.succ_mul]
      rw [iht m (Nat.le_refl _) (by rw [Nat.succ_mul] at hK; omega)]
      rfl
    | succ i ih =>
      intro hi hK
      have h1 := ih (by omega) (by omega)
      rw [show (t + 1) * m + (i + 1) = ((t + 1) * m + i) + 1 by omega, apN, h1, npF_at (by omega), bub]
      have : ((t + 1) * m + i) % m = i := by rw [Nat.add_comm]; exact row_mod (by omega)
      rw [this]
      simp only [nth, List.getD, List.getElem?_cons_zero, List.getElem?_cons_succ, Option.getD_some, Int.toNat_natCast]
/-- All its pairs sort by the gap. -/
theorem apN_gs (ys : List Int) (g m T : Nat) (hg : 1 ≤ g) (hm : m + g = ys.length) (hT : ys.length ≤ T * g) : apN ys (npF g m (T * m)) (T * m) = gsG ys g g := by
  have h := apN_bub ys g m (T * m) T 0 (by omega) (by omega)
  rw [Nat.add_zero] at h
  rw [h]
  exact bubs_gs ys g m T hg hm hT

/-- What the loops keep: a struct of two cells whose second is an owned slice of the first k pairs. -/
structure NetSt (w0 : World) (T Ti : TypeId) (g6 n g m k : Nat) (L : List Nat) (cs : List Cell) (pa : Option Addr) (lc : Nat) (wr : World) : Prop where
  c0 : wr.cell? ⟨g6, 0, none⟩ = some (.int .i64 n)
  c1 : wr.cell? ⟨g6, 1, none⟩ = some (.slice pa k lc)
  fr : wr.frozen? ⟨g6, 1, none⟩ = false
  og : OwG wr T Ti L pa k lc cs
  ex : cs.map (·.xs) = npF g m k
  new : New w0.heap.size (fp L cs)
  kp : Keeps [g6] w0 wr


set_option maxRecDepth 100000 in
set_option maxHeartbeats 4000000 in
theorem c_GapNetwork (n g m T : Nat) (w : World) (h1 : 1 ≤ n) (h7 : n ≤ 7) (hg : 1 ≤ g) (hgn : m + g = n) (hT : T = (n + g - 1) / g) (hTm : T * m ≤ 60) :
    Calls Try.prog 32 #[.int .i64 n, .int .i64 g] w fun e w' => ∃ pa pc, e = .returned (.tuple #[.agg #[.int .i64 n, .slice pa (T * m) pc], .bool true]) ∧ RdG w' pa (T * m) pc (npF g m (T * m)) ∧ Below w.heap.size w w' := by
  have C1 := Lib.hid (fun wx => c_isWires n wx h1 (by omega))
  have d1 : decide ((g : Int) < 1) = false := decide_eq_false (by omega)
  have d2 : decide ((n : Int) < (g : Int)) = false := decide_eq_false (by omega)
  obtain ⟨s, hs⟩ : ∃ s : Nat, (n : Int) + (g : Int) - 1 = (s : Int) := ⟨n + g - 1, by omega⟩
  have hq : Int.tdiv (s : Int) (g : Int) = (T : Int) := by
    rw [Int.tdiv_eq_ediv_of_nonneg (by omega), hT, show n + g - 1 = s by omega]; rfl
  have hsub : (n : Int) - (g : Int) = (m : Int) := by omega
  have hg0 : ¬ ((g : Int) = 0) := by omega
  have hT7 : T ≤ 14 := by rw [hT]; exact Nat.le_trans (Nat.div_le_self _ _) (by omega)
  have HT := Lib.hid hT
  clear hT
  have d3 : decide (n < g) = false := decide_eq_false (by omega)
  obtain ⟨w0, hw0⟩ : ∃ w0, (w.alloc (.cells #[.int .i64 0, .slice none 0 0] 41)).alloc (.cells #[.int .i64 n, .slice none 0 0] 41) = w0 := ⟨_, rfl⟩
  have b0 : Below w.heap.size w w0 := by rw [← hw0]; exact ((Below.refl _ _).alloc (Nat.le_refl _) _).alloc (by simp) _
  have hk0 : w0.cell? ⟨w.heap.size, 0, none⟩ = some (.int .i64 0) := by rw [← hw0]; simp
  have hk1 : w0.cell? ⟨w.heap.size, 1, none⟩ = some (.slice none 0 0) := by rw [← hw0]; simp
  have hf0 : w0.frozen? ⟨w.heap.size, 0, none⟩ = false := by rw [← hw0]; simp
  have hf1 : w0.frozen? ⟨w.heap.size, 1, none⟩ = false := by rw [← hw0]; simp
  have hsz : w0.heap.size = w.heap.size + 2 := by rw [← hw0]; simp
  have st0 : NetSt w0 23 3 (w.heap.size + 1) n g m 0 [] [] none 0 w0 :=
    ⟨by rw [← hw0]; simp, by rw [← hw0]; simp, by rw [← hw0]; simp, OwG.bare _ _ _ _, rfl, fun _ h => by simp [fp] at h, Keeps.refl _ _⟩
  have HW0 := Lib.hid hw0
  clear hw0
  go_enter Try.func32, Try.ntmps32
  go_wp2_with fail
  refine (C1.out _).mono ?_
  rintro e w' ⟨rfl, rfl⟩
  go_wp2_with fail
  rw [HW0.out]
  obtain ⟨g6, hg6⟩ : ∃ g6, w.heap.size + 1 = g6 := ⟨_, rfl⟩
  obtain ⟨g4, hg4⟩ : ∃ g4, w.heap.size = g4 := ⟨_, rfl⟩
  rw [hg6] at st0 ⊢
  rw [hg4] at hk0 hk1 hf0 hf1 ⊢
  have hg46 : g4 < g6 := by omega
  have hg62 : g6 < w0.heap.size := by omega
  have HG4 := Lib.hid hg4
  clear HW0 hsz C1 hg6 hg4 d1 d2 d3 hq hs
  go_loopw [29] (fun i wr => ∃ t : Nat, ∃ L cs pa lc, t ≤ T ∧ i = .int .i64 t ∧ NetSt w0 23 3 g6 n g m (t * m) L cs pa lc wr) (fun i _ => T - (intOf i).toNat)
  case atStart => exact ⟨0, [], [], none, 0, by omega, rfl, by rw [Nat.zero_mul]; exact st0⟩
  case round =>
    as_aux_lemma =>
    obtain ⟨t, L, cs, pa, lc, ht, rfl, st⟩ := hrel
    by_cases htT : t < T
    · go_wp2_with fail
      clear st0
      go_loopw [34] (fun i wr => ∃ q k : Nat, ∃ L cs pa lc, q ≤ m ∧ k = t * m + q ∧ i = .int .i64 q ∧ NetSt w0 23 3 g6 n g m k L cs pa lc wr) (fun i _ => m - (intOf i).toNat)
      case atStart => exact ⟨0, t * m, L, cs, pa, lc, by omega, by omega, rfl, st⟩
      case round =>
        clear st
        obtain ⟨q, k, L, cs, pa, lc, hq, hk, rfl, st⟩ := hrel
        by_cases hqm : q < m
        · have hkm : k % m = q := by rw [hk, Nat.add_comm]; exact row_mod hqm
          have hk60 : k + 1 ≤ 60 := by
            have : (t + 1) * m ≤ T * m := Nat.mul_le_mul_right m htT
            rw [Nat.succ_mul] at this; omega
          have c1 := st.c1
          have hqg : q + g ≤ 7 := by omega
          have hszr := st.kp.size
          have ogr := st.og
          have hcl : cs.length = k := ogr.len
          have HK := Lib.hid hk
          have HEX := Lib.hid (show npF g m (k + 1) = npF g m k ++ [[(q : Int), ((q + g : Nat) : Int)]] by rw [npF_succ, hkm])
          have hrow : Ow ((wr.alloc (.cells #[.int .i64 (q : Int), .int .i64 ((q : Int) + (g : Int))] 3)).alloc (.cells #[.slice (some ⟨wr.heap.size, 0, none⟩) 2 2] 23)) 3 [wr.heap.size] (some ⟨wr.heap.size, 0, none⟩) 2 2 (ints [(q : Int), ((q + g : Nat) : Int)]) :=
            (Ow.new' wr 3 #[.int .i64 (q : Int), .int .i64 ((q : Int) + (g : Int))] 2 (ints [(q : Int), ((q + g : Nat) : Int)]) rfl rfl (by unfold maxLen; omega)).alloc _
          clear hk hkm hcl
          go_wp2_with ((with_reducible show wpList _ _ _ (⟨some 45, _, _, _, _, _⟩ :: _) _ _); refine wpList_app _ rfl _ _ 39 rfl 23 Try.underlying39 infoSl rfl rfl rfl ((ogr.alloc _).alloc _).row (Rd.one' _ _ _ _ (by simp)) (one_slice _ _ _) (by omega) (by unfold maxLen; omega) ?_; intro a1 cap1 L1 w1 ow1 kp1 st1; obtain ⟨g1, rfl, rfl, og2, nw2, bl2, _, _, _⟩ := ogr.pushNew st.new (Below.refl _ wr) hszr (c := ⟨[wr.heap.size], some ⟨wr.heap.size, 0, none⟩, 2, 2, [(q : Int), ((q + g : Nat) : Int)]⟩) hrow (fun i hi => by simp at hi; omega) ow1 kp1 st1; clear ow1 kp1 st1; have z1 := (bl2.cell (p := ⟨g6, 1, none⟩) hg62).trans st.c1; have u1 := (bl2.frozen (p := ⟨g6, 1, none⟩) hg62).trans st.fr; have z0 := (bl2.cell (p := ⟨g6, 0, none⟩) hg62).trans st.c0)
          have st5 : NetSt w0 23 3 g6 n g m (k + 1) [g1] (cs ++ [⟨[wr.heap.size], some ⟨wr.heap.size, 0, none⟩, 2, 2, [(q : Int), ((q + g : Nat) : Int)]⟩]) (some ⟨g1, 0, none⟩) cap1 (w1.setCell ⟨g6, 1, none⟩ (.slice (some ⟨g1, 0, none⟩) (k + 1) cap1)) := by
            have hne : ∀ i, i ∈ fp [g1] (cs ++ [⟨[wr.heap.size], some ⟨wr.heap.size, 0, none⟩, 2, 2, [(q : Int), ((q + g : Nat) : Int)]⟩]) → i ≠ g6 := fun i hi e => by have := nw2 i hi; omega
            refine ⟨?_, ?_, ?_, og2.keep (Keeps.setCell w1 g6 1 _) (fun i hi h => hne i hi (by simpa using h)), by rw [List.map_append, st.ex, HEX.out]; rfl, nw2, (st.kp.then_below bl2).trans (Keeps.setCell w1 g6 1 _) (Step.refl _ _)⟩
            · exact (World.cell?_setCell_other (w := w1) (a := ⟨g6, 1, none⟩) (b := ⟨g6, 0, none⟩) (v := .slice (some ⟨g1, 0, none⟩) (k + 1) cap1) (h := by intro e; cases e)).trans z0
            · exact World.cell?_setCell_same _ _ _ z1
            · rw [World.frozen?_setCell]; exact u1
          go_roundw
          case rel => exact ⟨q + 1, k + 1, _, _, _, _, by omega, by have := HK.out; omega, by go_num, st5⟩
          case measure => simp [intOf]; omega
        · obtain rfl : q = m := by omega
          go_wp2_with fail
          go_roundw
          case rel => exact ⟨t + 1, L, cs, pa, lc, by omega, by go_num, by rw [Nat.succ_mul, ← hk]; exact st⟩
          case measure => simp [intOf]; omega
    · obtain rfl : t = T := by omega
      have hrd := st.og.rd
      rw [st.ex] at hrd
      have Bk : Below w0.heap.size w0 wr ∨ True := Or.inr trivial
      have y0 := st.c0
      have y1 := st.c1
      have v0 : wr.cell? ⟨g4, 0, none⟩ = some (.int .i64 0) := (World.cell?_of_block (w := w0) (st.kp.block g4 (by omega) (by simp; omega))).trans hk0
      have v1 : wr.cell? ⟨g4, 1, none⟩ = some (.slice none 0 0) := (World.cell?_of_block (w := w0) (st.kp.block g4 (by omega) (by simp; omega))).trans hk1
      have v2 : wr.frozen? ⟨g4, 0, none⟩ = false := (World.frozen?_of_block (w := w0) (st.kp.block g4 (by omega) (by simp; omega))).trans hf0
      have v3 : wr.frozen? ⟨g4, 1, none⟩ = false := (World.frozen?_of_block (w := w0) (st.kp.block g4 (by omega) (by simp; omega))).trans hf1
      have hrs := st.kp.size
      have hgl : g6 < wr.heap.size := by omega
      have C2 := Lib.hid (c_checked n (t * m) lc pa (npF g m (t * m)) wr hrd (npF_ok hg (by omega) (by
        rcases Nat.eq_zero_or_pos m with h | h
        · exact Or.inl (by rw [h, Nat.mul_zero])
        · exact Or.inr h)) h1 (by omega) hTm)
      have bw : Below w.heap.size w wr := (Keeps.trans (Keeps.of_below b0 [g6]) st.kp (Step.refl _ _)).below0 (fun i hi => by simp at hi; subst hi; have := HG4.out; omega) (Nat.le_refl _)
      go_wp2_with fail
      refine C2.out.mono ?_
      rintro e w5 ⟨rfl, b5⟩
      have x0 := (b5.cell (p := ⟨g4, 0, none⟩) (by show g4 < _; omega)).trans v0
      have x1 := (b5.cell (p := ⟨g4, 1, none⟩) (by show g4 < _; omega)).trans v1
      have x2 := (b5.frozen (p := ⟨g4, 0, none⟩) (by show g4 < _; omega)).trans v2
      have x3 := (b5.frozen (p := ⟨g4, 1, none⟩) (by show g4 < _; omega)).trans v3
      clear C2
      go_wp2_with fail
      have hap : Apart (fp L cs) [g4] := fun i hi h => by have := st.new i hi; simp at h; omega
      have og5 := ((st.og.below b5).keep (Keeps.setCell w5 g4 0 (.int .i64 n)) hap).keep (Keeps.setCell _ g4 1 (.slice pa (t * m) lc)) hap
      have hr5 := og5.rd
      rw [st.ex] at hr5
      have bw5 : Below w.heap.size w w5 := Below.nx bw b5
      have hgw : w.heap.size ≤ g4 := by have := HG4.out; omega
      exact bodyPost_ret (v := .tuple #[.agg #[.int .i64 n, .slice pa (t * m) lc], .bool true]) (by simp [results, Try.results32, go_sem, x0, x1, x2, x3]) rfl ⟨pa, lc, rfl, hr5, (bw5.setCell hgw _).setCell hgw _⟩


end Go.Proofs.Ytpicnechmdbkfaa

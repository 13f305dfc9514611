/- The library's stable sort of indices by their times, weakly: it returns, and the indices stay indices. -/
import Derived.Test.YtaffokicnabkiaaRun1
import Derived.Test.YtaffokicnabkiaaDrew
import Derived.Deep.Cut
import Derived.Handy
import Derived.Deep.CutRange
import Derived.Deep.CutBlock
namespace Go.Proofs.Ytaffokicnabkiaa
open Go.RowKit
set_option linter.unusedVariables false
set_option linter.unusedSimpArgs false

def InR (N : Nat) (ys : List Int) : Prop := ∀ y ∈ ys, 0 ≤ y ∧ y < (N : Int)
theorem InR.nth {N : Nat} {ys : List Int} (h : InR N ys) {j : Nat} (hj : j < ys.length) : 0 ≤ nth ys j ∧ nth ys j < (N : Int) := h _ (by rw [nth_eq hj]; exact List.getElem_mem hj)
theorem InR.set {N : Nat} {ys : List Int} (h : InR N ys) (j : Nat) {v : Int} (hv : 0 ≤ v ∧ v < (N : Int)) : InR N (ys.set j v) := fun y hy => by
  rcases List.mem_or_eq_of_mem_set hy with h1 | h1
  · exact h y h1
  · subst h1; exact hv
/-- The row of the waiting ones; the times in their box. -/
structure Wt (w : World) (g n cap N tb : Nat) (ta : Option Addr) (tc : Nat) (ts ys : List Int) : Prop where
  row : Ow w 3 [g] (some ⟨g, 0, none⟩) n cap (ints ys)
  inr : InR N ys
  old : tb < w.heap.size
  box : w.cell? ⟨tb, 0, none⟩ = some (.slice ta N tc)
  tms : RdI w ta N tc ts
  ne : tb ≠ g
  na : ∀ ad, ta = some ad → ad.block ≠ g
section
variable {w w' : World} {g n cap N tb : Nat} {ta : Option Addr} {tc : Nat} {ts ys : List Int}
theorem Wt.upd (h : Wt w g n cap N tb ta tc ts ys) (k : Keeps [g] w w') {ys' : List Int} (o : Ow w' 3 [g] (some ⟨g, 0, none⟩) n cap (ints ys')) (hi : InR N ys') : Wt w' g n cap N tb ta tc ts ys' :=
  ⟨o, hi, Nat.lt_of_lt_of_le h.old k.size, (World.cell?_of_block (a := ⟨tb, 0, none⟩) (k.block tb h.old (by simpa using h.ne))).trans h.box, h.tms.keep k (fun ad had => by simpa using h.na ad had), h.ne, h.na⟩
theorem Wt.drewN (h : Wt w g n cap N tb ta tc ts ys) (m : Nat) : Wt (w.drewN m) g n cap N tb ta tc ts ys := h.upd (Keeps.drewN [g] w m) (h.row.drewN m) h.inr
theorem Wt.swap (h : Wt w g n cap N tb ta tc ts ys) {p q : Nat} (hp : p < n) (hq : q < n) :
    Wt (((w.setCell ⟨g, p, none⟩ (.int .i64 (nth ys q))).setCell ⟨g, q, none⟩ (.int .i64 (nth ys p))).drew) g n cap N tb ta tc ts ((ys.set p (nth ys q)).set q (nth ys p)) ∧ Keeps [g] w (((w.setCell ⟨g, p, none⟩ (.int .i64 (nth ys q))).setCell ⟨g, q, none⟩ (.int .i64 (nth ys p))).drew) := by
  have hl := h.row.lens
  have k : Keeps [g] w (((w.setCell ⟨g, p, none⟩ (.int .i64 (nth ys q))).setCell ⟨g, q, none⟩ (.int .i64 (nth ys p))).drew) := ((Keeps.setCell _ g p _).trans (Keeps.setCell _ g q _) (Step.refl _ _)).trans (Keeps.drew [g] _) (Step.refl _ _)
  have o0 := (h.row.set p (.int .i64 (nth ys q))).set q (.int .i64 (nth ys p))
  rw [ints_set, ints_set] at o0
  have o := o0.drew
  exact ⟨h.upd k o ((h.inr.set p (h.inr.nth (by omega))).set q (h.inr.nth (by omega))), k⟩
end
def cmpI (a b : Int) : Int := if a < b then -1 else if b < a then 1 else 0
theorem cmpI_bd (a b : Int) : -1 ≤ cmpI a b ∧ cmpI a b ≤ 1 := by unfold cmpI; split <;> (try split) <;> omega

theorem c_isNaN (a : Int) (w : World) : Calls Try.prog 72 #[.int .i64 a] w fun e w' => e = .returned (.bool false) ∧ w = w' := by
  have h : (a != a) = false := by simp
  go_enter Try.func72, Try.ntmps72
  go_wp2
  go_ret
  exact ⟨by simp, rfl⟩
theorem c_Compare (a b : Int) (w : World) : Calls Try.prog 55 #[.int .i64 a, .int .i64 b] w fun e w' => e = .returned (.int .i64 (cmpI a b)) ∧ w' = w := by
  have C := Lib.hid (fun x => c_isNaN x w)
  rcases Int.lt_trichotomy a b with h | h | h
  · have HV := Lib.hid (show cmpI a b = -1 by unfold cmpI; rw [if_pos h])
    go_enter Try.func55, Try.ntmps55
    go_wp2_with (go_at_call 72; refine (C.out _).mono ?_; rintro e w1 ⟨rfl, rfl⟩)
    go_ret
    exact ⟨by rw [HV.out]; rfl, rfl⟩
  · have HV := Lib.hid (show cmpI a b = 0 by unfold cmpI; rw [if_neg (by omega), if_neg (by omega)])
    have h1 : ¬ a < b := by omega
    have h2 : ¬ b < a := by omega
    clear h
    go_enter Try.func55, Try.ntmps55
    go_wp2_with (go_at_call 72; refine (C.out _).mono ?_; rintro e w1 ⟨rfl, rfl⟩)
    go_ret
    exact ⟨by rw [HV.out]; rfl, rfl⟩
  · have HV := Lib.hid (show cmpI a b = 1 by unfold cmpI; rw [if_neg (by omega), if_pos h])
    have h1 : ¬ a < b := by omega
    go_enter Try.func55, Try.ntmps55
    go_wp2_with (go_at_call 72; refine (C.out _).mono ?_; rintro e w1 ⟨rfl, rfl⟩)
    go_ret
    exact ⟨by rw [HV.out]; rfl, rfl⟩


theorem c_less (tb N : Nat) (ta : Option Addr) (tc : Nat) (ts : List Int) (x y : Int) (w : World) (hb : w.cell? ⟨tb, 0, none⟩ = some (.slice ta N tc)) (ht : RdI w ta N tc ts) (hx : 0 ≤ x ∧ x < (N : Int)) (hy : 0 ≤ y ∧ y < (N : Int)) :
    Calls Try.prog 54 #[.int .i64 x, .int .i64 y, .pointer (some ⟨tb, 0, none⟩)] w fun e w' => e = .returned (.int .i64 (cmpI (nth ts x.toNat) (nth ts y.toNat))) ∧ ∃ m, w' = w.drewN m := by
  obtain ⟨i, rfl⟩ : ∃ i : Nat, x = i := ⟨x.toNat, by omega⟩
  obtain ⟨j, rfl⟩ : ∃ j : Nat, y = j := ⟨y.toNat, by omega⟩
  obtain ⟨b, off, rfl, hbl, hc⟩ := ht.int (by omega)
  have c1 := hc i (by omega)
  have c2 := hc j (by omega)
  have hi : i < N := by omega
  have hj : j < N := by omega
  have K := Lib.hid (fun wx => c_Compare (nth ts i) (nth ts j) wx)
  rw [Int.toNat_natCast, Int.toNat_natCast]
  clear hc hx hy ht
  go_enter Try.func54, Try.ntmps54
  go_wp2_with fail
  go_quiet ((with_reducible refine Calls.quiet_of_same (K.out _)))
  go_wp2_with fail
  go_ret
  exact ⟨rfl, _, rfl⟩


set_option maxRecDepth 100000 in
set_option maxHeartbeats 2000000 in
theorem c_insC (g n cap N tb : Nat) (ta : Option Addr) (tc : Nat) (ts ys : List Int) (a b : Nat) (w : World) (h : Wt w g n cap N tb ta tc ts ys) (hab : a ≤ b) (hbn : b ≤ n) (hn : n ≤ 1000) :
    Calls Try.prog 84 #[.slice (some ⟨g, 0, none⟩) n cap, .int .i64 a, .int .i64 b, .func (.func 54) #[] #[.pointer (some ⟨tb, 0, none⟩)]] w fun e w' => e = .returned (.tuple #[]) ∧ (∃ ys', Wt w' g n cap N tb ta tc ts ys') ∧ Keeps [g] w w' := by
  have hle := h.row.le
  go_enter Try.func84, Try.ntmps84
  go_wp2_with fail
  go_loopw [8] (fun i wr => ∃ k : Nat, i = .int .i64 (k : Int) ∧ a < k ∧ k ≤ b + 1 ∧ (∃ ys, Wt wr g n cap N tb ta tc ts ys) ∧ Keeps [g] w wr) (fun i _ => b + 1 - (intOf i).toNat)
  case atStart => exact ⟨a + 1, by rw [Int.natCast_add]; rfl, by omega, by omega, ⟨ys, h⟩, Keeps.refl _ _⟩
  case round =>
    clear h
    obtain ⟨k, rfl, hak, hkb, ⟨ys, h⟩, kw⟩ := hrel
    by_cases hlt : k < b
    · go_wp2_with fail
      go_loopw [9] (fun j wx => ∃ z : Nat, j = .int .i64 (z : Int) ∧ a ≤ z ∧ z ≤ k ∧ (∃ ys, Wt wx g n cap N tb ta tc ts ys) ∧ Keeps [g] w wx) (fun j _ => (intOf j).toNat)
      case atStart => exact ⟨k, rfl, by omega, by omega, ⟨ys, h⟩, kw⟩
      case round =>
        clear h kw
        obtain ⟨z, rfl, haz, hzk, ⟨ys, h⟩, kw⟩ := hrel
        by_cases haz2 : a < z
        · obtain ⟨q, rfl⟩ : ∃ q, z = q + 1 := ⟨z - 1, by omega⟩
          have hyl := h.row.lens
          obtain ⟨g', e1, _, hg, hoc, hof⟩ := h.row.int (by omega)
          have e1' := List.head_eq_of_cons_eq e1
          subst e1'
          have c1 := hoc (q + 1) (by omega)
          have c2 := hoc q (by omega)
          have HW := Lib.hid h
          have K := Lib.hid (fun m => c_less tb N ta tc ts (nth ys (q + 1)) (nth ys q) (wr.drewN m) ((h.drewN m).box) ((h.drewN m).tms) (h.inr.nth (by omega)) (h.inr.nth (by omega)))
          have hcb := cmpI_bd (nth ts (nth ys (q + 1)).toNat) (nth ts (nth ys q).toNat)
          obtain ⟨v, hv⟩ : ∃ v, v = cmpI (nth ts (nth ys (q + 1)).toNat) (nth ts (nth ys q).toNat) := ⟨_, rfl⟩
          rw [← hv] at K hcb
          clear hoc hof e1 h hv
          have haq : (a : Int) < (q : Int) + 1 := by omega
          have hq0 : (0 : Int) ≤ (q : Int) := by omega
          have hq1 : (0 : Int) ≤ (q : Int) + 1 := by omega
          have hqn : (q : Int) + 1 < (n : Int) := by omega
          have hqn0 : (q : Int) < (n : Int) := by omega
          have e2 : (q : Int) + 1 - 1 = (q : Int) := by omega
          have e3 : IntKind.i64.wrap (q : Int) = (q : Int) := by rw [IntKind.wrap_i64]; omega
          go_wp2_with fail
          go_quiet ((with_reducible refine Calls.quiet_of (K.out _)))
          obtain ⟨wq, hwq⟩ : ∃ wq, wq = wr.drewN nq := ⟨_, rfl⟩
          have h := HW.out.drewN nq
          have kq : Keeps [g] w wq := by rw [hwq]; exact kw.trans (Keeps.drewN [g] _ _) (Step.refl _ _)
          rw [← hwq] at h ⊢
          clear hwq HW K c1 c2 kw
          by_cases hv : v < 0
          · obtain ⟨g', e1, _, hg, hoc, hof⟩ := h.row.int (by omega)
            have e1' := List.head_eq_of_cons_eq e1
            subst e1'
            have c1 := hoc (q + 1) (by omega)
            have c2 := hoc q (by omega)
            have f1 := hof (q + 1)
            have f2 := hof q
            obtain ⟨hs, ks⟩ := h.swap (p := q + 1) (q := q) (by omega) (by omega)
            clear hoc hof e1
            go_upto_region 6 with fail
            go_region
            all_goals
              go_wp2_with fail
              go_roundw
              case rel => exact ⟨q, rfl, by omega, by omega, ⟨_, hs⟩, kq.trans ks (Step.refl _ _)⟩
              case measure => simp [intOf] <;> omega
          · go_wp2_with fail
            go_roundw
            case rel => exact ⟨k + 1, by rw [Int.natCast_add]; rfl, by omega, by omega, ⟨ys, h⟩, kq⟩
            case measure => simp [intOf] <;> omega
        · have haz3 : ¬ (a : Int) < (z : Int) := by omega
          go_wp2_with fail
          go_quiet (fail)
          have h2 := h.drewN nq
          have kq := kw.trans (Keeps.drewN [g] wr nq) (Step.refl _ _)
          clear h kw
          go_wp2_with fail
          go_roundw
          case rel => exact ⟨k + 1, by rw [Int.natCast_add]; rfl, by omega, by omega, ⟨ys, h2⟩, kq⟩
          case measure => simp [intOf] <;> omega
    · go_wp2_with fail
      go_end0
      exact ⟨rfl, ⟨ys, h⟩, kw⟩


set_option maxRecDepth 100000 in
set_option maxHeartbeats 2000000 in
theorem c_swapR (g n cap N tb : Nat) (ta : Option Addr) (tc : Nat) (ts ys : List Int) (a b m : Nat) (x y z : Int) (F : Value) (w : World) (h : Wt w g n cap N tb ta tc ts ys) (hx : x = a) (hy : y = b) (hz : z = m) (h0 : a ≠ b) (h1 : a + m ≤ n) (h2 : b + m ≤ n) (hn : n ≤ 1000) :
    Calls Try.prog 93 #[.slice (some ⟨g, 0, none⟩) n cap, .int .i64 x, .int .i64 y, .int .i64 z, F] w fun e w' => e = .returned (.tuple #[]) ∧ (∃ ys', Wt w' g n cap N tb ta tc ts ys') ∧ Keeps [g] w w' := by
  subst hx; subst hy; subst hz
  have hle := h.row.le
  go_enter Try.func93, Try.ntmps93
  go_wp2_with fail
  go_loopw [10] (fun i wr => ∃ k : Nat, i = .int .i64 (k : Int) ∧ k ≤ m ∧ (∃ ys, Wt wr g n cap N tb ta tc ts ys) ∧ Keeps [g] w wr) (fun i _ => m - (intOf i).toNat)
  case atStart => exact ⟨0, rfl, by omega, ⟨ys, h⟩, Keeps.refl _ _⟩
  case round =>
    clear h
    obtain ⟨k, rfl, hkm, ⟨ys, h⟩, kw⟩ := hrel
    by_cases hlt : k < m
    · obtain ⟨g', e1, _, hg, hoc, hof⟩ := h.row.int (by omega)
      have e1' := List.head_eq_of_cons_eq e1
      subst e1'
      have c1 := hoc (a + k) (by omega)
      have c2 := hoc (b + k) (by omega)
      have f1 := hof (a + k)
      have f2 := hof (b + k)
      have hd1 : a + k ≠ b + k := by omega
      have hd2 : b + k ≠ a + k := by omega
      have hp1 : (a : Int) + (k : Int) < (n : Int) := by omega
      have hp2 : (b : Int) + (k : Int) < (n : Int) := by omega
      obtain ⟨hs, ks⟩ := h.swap (p := a + k) (q := b + k) (by omega) (by omega)
      clear hoc hof e1
      go_wp2_with fail
      go_region
      all_goals
        go_wp2_with fail
        go_roundw
        case rel => exact ⟨k + 1, by rw [Int.natCast_add]; rfl, by omega, ⟨_, hs⟩, kw.trans ks (Step.refl _ _)⟩
        case measure => simp [intOf] <;> omega
    · go_wp2_with fail
      go_end0
      exact ⟨rfl, ⟨ys, h⟩, kw⟩


set_option maxRecDepth 100000 in
set_option maxHeartbeats 2000000 in
theorem c_rotC (g n cap N tb : Nat) (ta : Option Addr) (tc : Nat) (ts ys : List Int) (a m b : Nat) (x y z : Int) (F : Value) (w : World) (h : Wt w g n cap N tb ta tc ts ys) (hx : x = a) (hy : y = m) (hz : z = b) (h1 : a < m) (h2 : m < b) (h3 : b ≤ n) (hn : n ≤ 1000) :
    Calls Try.prog 91 #[.slice (some ⟨g, 0, none⟩) n cap, .int .i64 x, .int .i64 y, .int .i64 z, F] w fun e w' => e = .returned (.tuple #[]) ∧ (∃ ys', Wt w' g n cap N tb ta tc ts ys') ∧ Keeps [g] w w' := by
  subst hx; subst hy; subst hz
  have hle := h.row.le
  go_enter Try.func91, Try.ntmps91
  go_wp2_with fail
  go_loopw [10, 11] (fun i j wr => ∃ p q : Nat, i = .int .i64 (p : Int) ∧ j = .int .i64 (q : Int) ∧ 1 ≤ p ∧ 1 ≤ q ∧ a + p ≤ m ∧ m + q ≤ b ∧ (∃ ys, Wt wr g n cap N tb ta tc ts ys) ∧ Keeps [g] w wr) (fun i j _ => (intOf i).toNat + (intOf j).toNat)
  case atStart => exact ⟨m - a, b - m, int_eq (by omega), int_eq (by omega), by omega, by omega, by omega, by omega, ⟨ys, h⟩, Keeps.refl _ _⟩
  case round =>
    clear h
    obtain ⟨p, q, rfl, rfl, hp1, hq1, hpm, hqb, ⟨ys, h⟩, kw⟩ := hrel
    rcases Nat.lt_trichotomy p q with hpq | hpq | hpq
    · have hne : ((p : Int) != (q : Int)) = true := by simp; omega
      have hng : ¬ (q : Int) < (p : Int) := by omega
      go_wp2_with (go_at_call 93; refine (c_swapR g n cap N tb ta tc ts ys (m - p) (m + q - p) p _ _ _ _ _ h (by omega) (by omega) (by omega) (by omega) (by omega) (by omega) hn).mono ?_; rintro e w2 ⟨rfl, ⟨ys2, h2⟩, k2⟩)
      go_roundw
      case rel => exact ⟨p, q - p, rfl, int_eq (by omega), by omega, by omega, by omega, by omega, ⟨ys2, h2⟩, kw.trans k2 (Step.refl _ _)⟩
      case measure => simp [intOf] <;> omega
    · subst hpq
      go_wp2_with (go_at_call 93; refine (c_swapR g n cap N tb ta tc ts ys (m - p) m p _ _ _ _ _ h (by omega) (by omega) (by omega) (by omega) (by omega) (by omega) hn).mono ?_; rintro e w2 ⟨rfl, ⟨ys2, h2⟩, k2⟩)
      go_end0
      exact ⟨rfl, ⟨ys2, h2⟩, kw.trans k2 (Step.refl _ _)⟩
    · have hne : ((p : Int) != (q : Int)) = true := by simp; omega
      have hng : (q : Int) < (p : Int) := by omega
      go_wp2_with (go_at_call 93; refine (c_swapR g n cap N tb ta tc ts ys (m - p) m q _ _ _ _ _ h (by omega) (by omega) (by omega) (by omega) (by omega) (by omega) hn).mono ?_; rintro e w2 ⟨rfl, ⟨ys2, h2⟩, k2⟩)
      go_roundw
      case rel => exact ⟨p - q, q, int_eq (by omega), rfl, by omega, by omega, by omega, by omega, ⟨ys2, h2⟩, kw.trans k2 (Step.refl _ _)⟩
      case measure => simp [intOf] <;> omega

theorem half_lt {i j : Nat} (h : i < j) : i ≤ (i + j) / 2 ∧ (i + j) / 2 < j := by omega

set_option maxRecDepth 100000 in
set_option maxHeartbeats 8000000 in
theorem c_symM (f : Nat) : ∀ (g n cap N tb : Nat) (ta : Option Addr) (tc : Nat) (ts ys : List Int) (a m b : Nat) (w : World), Wt w g n cap N tb ta tc ts ys → a < m → m < b → b ≤ n → n ≤ 1000 → b ≤ a + f →
    Calls Try.prog 85 #[.slice (some ⟨g, 0, none⟩) n cap, .int .i64 a, .int .i64 m, .int .i64 b, .func (.func 54) #[] #[.pointer (some ⟨tb, 0, none⟩)]] w fun e w' => e = .returned (.tuple #[]) ∧ (∃ ys', Wt w' g n cap N tb ta tc ts ys') ∧ Keeps [g] w w' := by
  induction f with
  | zero => intro g n cap N tb ta tc ts ys a m b w h h1 h2 h3 hn hf; omega
  | succ f ih =>
    intro g n cap N tb ta tc ts ys a m b w h h1 h2 h3 hn hf
    have IH := Lib.hid ih
    clear ih
    have hle := h.row.le
    by_cases hm1 : m = a + 1
    · have hma : (m : Int) - (a : Int) = 1 := by omega
      clear hm1
      go_enter Try.func85, Try.ntmps85
      go_wp2_with fail
      go_loopw [10, 11] (fun i j wr => ∃ p q : Nat, i = .int .i64 (p : Int) ∧ j = .int .i64 (q : Int) ∧ m ≤ p ∧ p ≤ q ∧ q ≤ b ∧ (∃ ys, Wt wr g n cap N tb ta tc ts ys) ∧ Keeps [g] w wr) (fun i j _ => (intOf j).toNat - (intOf i).toNat)
      case atStart => exact ⟨m, b, rfl, rfl, by omega, by omega, by omega, ⟨ys, h⟩, Keeps.refl _ _⟩
      case round =>
        clear h
        obtain ⟨p, q, rfl, rfl, hap, hpq, hqb, ⟨ys, h⟩, kw⟩ := hrel
        by_cases hlt : p < q
        · go_upto_region 5 with fail
          have eh : ((p : Int) + (q : Int)) / 2 = (((p + q) / 2 : Nat) : Int) := by omega
          obtain ⟨hh, hhe⟩ : ∃ hh, hh = (p + q) / 2 := ⟨_, rfl⟩
          have hh1 : p ≤ hh ∧ hh < q := by omega
          rw [eh, ← hhe]
          clear eh hhe
          have hx1 : (hh : Int) < (n : Int) := by omega
          have hx2 : (a : Int) < (n : Int) := by omega
          have hyl := h.row.lens
          obtain ⟨g', e1, _, hg, hoc, hof⟩ := h.row.int (by omega)
          have e1' := List.head_eq_of_cons_eq e1
          subst e1'
          have c1 := hoc hh (by omega)
          have c2 := hoc a (by omega)
          have HW := Lib.hid h
          have K := Lib.hid (fun z => c_less tb N ta tc ts (nth ys hh) (nth ys a) (wr.drewN z) ((h.drewN z).box) ((h.drewN z).tms) (h.inr.nth (by omega)) (h.inr.nth (by omega)))
          have hcb := cmpI_bd (nth ts (nth ys hh).toNat) (nth ts (nth ys a).toNat)
          obtain ⟨v, hv⟩ : ∃ v, v = cmpI (nth ts (nth ys hh).toNat) (nth ts (nth ys a).toNat) := ⟨_, rfl⟩
          rw [← hv] at K hcb
          clear hoc hof e1 h hv
          go_quiet ((with_reducible refine Calls.quiet_of (K.out _)))
          have h := HW.out.drewN nq
          have kq := kw.trans (Keeps.drewN [g] wr nq) (Step.refl _ _)
          obtain ⟨wq, hwq⟩ : ∃ wq, wq = wr.drewN nq := ⟨_, rfl⟩
          rw [← hwq] at h kq ⊢
          clear hwq HW K c1 c2 kw hcb
          by_cases hv : v < 0
          · go_wp2_with fail
            go_roundw
            case rel => exact ⟨hh + 1, q, by rw [Int.natCast_add]; rfl, rfl, by omega, by omega, by omega, ⟨ys, h⟩, kq⟩
            case measure => simp [intOf] <;> omega
          · go_wp2_with fail
            go_roundw
            case rel => exact ⟨p, hh, rfl, rfl, by omega, by omega, by omega, ⟨ys, h⟩, kq⟩
            case measure => simp [intOf] <;> omega
        · obtain rfl : p = q := by omega
          go_wp2_with fail
          go_loopw [13] (fun k wx => ∃ z : Nat, k = .int .i64 (z : Int) ∧ a ≤ z ∧ z + 1 ≤ p ∧ (∃ ys, Wt wx g n cap N tb ta tc ts ys) ∧ Keeps [g] w wx) (fun k _ => p - (intOf k).toNat)
          case atStart => exact ⟨a, rfl, by omega, by omega, ⟨ys, h⟩, kw⟩
          case round =>
            clear h kw
            obtain ⟨z, rfl, haz, hzp, ⟨ys, h⟩, kw⟩ := hrel
            by_cases hz2 : z + 1 < p
            · have hz3 : (z : Int) < (p : Int) - 1 := by omega
              have hz4 : (z : Int) + 1 < (n : Int) := by omega
              have hd1 : z ≠ z + 1 := by omega
              have hd2 : z + 1 ≠ z := by omega
              obtain ⟨g', e1, _, hg, hoc, hof⟩ := h.row.int (by omega)
              have e1' := List.head_eq_of_cons_eq e1
              subst e1'
              have c1 := hoc z (by omega)
              have c2 := hoc (z + 1) (by omega)
              have f1 := hof z
              have f2 := hof (z + 1)
              obtain ⟨hs, ks⟩ := h.swap (p := z) (q := (z + 1)) (by omega) (by omega)
              clear hoc hof e1
              go_wp2_with fail
              go_region
              all_goals
                go_wp2_with fail
                go_roundw
                case rel => exact ⟨z + 1, by rw [Int.natCast_add]; rfl, by omega, by omega, ⟨_, hs⟩, kw.trans ks (Step.refl _ _)⟩
                case measure => simp [intOf, Act.put] <;> omega
            · have hz3 : ¬ (z : Int) < (p : Int) - 1 := by omega
              go_wp2_with fail
              go_returns
              exact ⟨rfl, ⟨ys, h⟩, kw⟩
    · have hd1 : ((m : Int) - (a : Int) == 1) = false := by rw [beq_eq_false_iff_ne]; omega
      by_cases hb1 : b = m + 1
      · have hmb : (b : Int) - (m : Int) = 1 := by omega
        clear hb1
        go_enter Try.func85, Try.ntmps85
        go_wp2_with fail
        go_loopw [14, 15] (fun i j wr => ∃ p q : Nat, i = .int .i64 (p : Int) ∧ j = .int .i64 (q : Int) ∧ a ≤ p ∧ p ≤ q ∧ q ≤ m ∧ (∃ ys, Wt wr g n cap N tb ta tc ts ys) ∧ Keeps [g] w wr) (fun i j _ => (intOf j).toNat - (intOf i).toNat)
        case atStart => exact ⟨a, m, rfl, rfl, by omega, by omega, by omega, ⟨ys, h⟩, Keeps.refl _ _⟩
        case round =>
          clear h
          obtain ⟨p, q, rfl, rfl, hap, hpq, hqb, ⟨ys, h⟩, kw⟩ := hrel
          by_cases hlt : p < q
          · go_upto_region 17 with fail
            have eh : ((p : Int) + (q : Int)) / 2 = (((p + q) / 2 : Nat) : Int) := by omega
            obtain ⟨hh, hhe⟩ : ∃ hh, hh = (p + q) / 2 := ⟨_, rfl⟩
            have hh1 : p ≤ hh ∧ hh < q := by omega
            rw [eh, ← hhe]
            clear eh hhe
            have hx1 : (hh : Int) < (n : Int) := by omega
            have hx2 : (m : Int) < (n : Int) := by omega
            have hyl := h.row.lens
            obtain ⟨g', e1, _, hg, hoc, hof⟩ := h.row.int (by omega)
            have e1' := List.head_eq_of_cons_eq e1
            subst e1'
            have c1 := hoc m (by omega)
            have c2 := hoc hh (by omega)
            have HW := Lib.hid h
            have K := Lib.hid (fun z => c_less tb N ta tc ts (nth ys m) (nth ys hh) (wr.drewN z) ((h.drewN z).box) ((h.drewN z).tms) (h.inr.nth (by omega)) (h.inr.nth (by omega)))
            have hcb := cmpI_bd (nth ts (nth ys m).toNat) (nth ts (nth ys hh).toNat)
            obtain ⟨v, hv⟩ : ∃ v, v = cmpI (nth ts (nth ys m).toNat) (nth ts (nth ys hh).toNat) := ⟨_, rfl⟩
            rw [← hv] at K hcb
            clear hoc hof e1 h hv
            go_quiet ((with_reducible refine Calls.quiet_of (K.out _)))
            have h := HW.out.drewN nq
            have kq := kw.trans (Keeps.drewN [g] wr nq) (Step.refl _ _)
            obtain ⟨wq, hwq⟩ : ∃ wq, wq = wr.drewN nq := ⟨_, rfl⟩
            rw [← hwq] at h kq ⊢
            clear hwq HW K c1 c2 kw hcb
            by_cases hv : v < 0
            · rw [show (!decide (v < 0)) = false by rw [decide_eq_true hv]; rfl]
              go_wp2_with fail
              go_roundw
              case rel => exact ⟨p, hh, rfl, rfl, by omega, by omega, by omega, ⟨ys, h⟩, kq⟩
              case measure => simp [intOf] <;> omega
            · rw [show (!decide (v < 0)) = true by rw [decide_eq_false hv]; rfl]
              go_wp2_with fail
              go_roundw
              case rel => exact ⟨hh + 1, q, by rw [Int.natCast_add]; rfl, rfl, by omega, by omega, by omega, ⟨ys, h⟩, kq⟩
              case measure => simp [intOf] <;> omega
          · obtain rfl : p = q := by omega
            go_wp2_with fail
            go_loopw [17] (fun k wx => ∃ z : Nat, k = .int .i64 (z : Int) ∧ p ≤ z ∧ z ≤ m ∧ (∃ ys, Wt wx g n cap N tb ta tc ts ys) ∧ Keeps [g] w wx) (fun k _ => (intOf k).toNat)
            case atStart => exact ⟨m, rfl, by omega, by omega, ⟨ys, h⟩, kw⟩
            case round =>
              clear h kw
              obtain ⟨z, rfl, haz, hzp, ⟨ys, h⟩, kw⟩ := hrel
              by_cases hz2 : p < z
              · obtain ⟨y, rfl⟩ : ∃ y, z = y + 1 := ⟨z - 1, by omega⟩
                have hz3 : (p : Int) < (y : Int) + 1 := by omega
                have hz4 : (y : Int) + 1 < (n : Int) := by omega
                have hz5 : (y : Int) < (n : Int) := by omega
                have e2 : (y : Int) + 1 - 1 = (y : Int) := by omega
                have e3 : IntKind.i64.wrap (y : Int) = (y : Int) := by rw [IntKind.wrap_i64]; omega
                have hd1' : y ≠ y + 1 := by omega
                have hd2' : y + 1 ≠ y := by omega
                obtain ⟨g', e1, _, hg, hoc, hof⟩ := h.row.int (by omega)
                have e1' := List.head_eq_of_cons_eq e1
                subst e1'
                have c1 := hoc (y + 1) (by omega)
                have c2 := hoc y (by omega)
                have f1 := hof (y + 1)
                have f2 := hof y
                obtain ⟨hs, ks⟩ := h.swap (p := (y + 1)) (q := y) (by omega) (by omega)
                clear hoc hof e1
                go_wp2_with fail
                go_region
                all_goals
                  go_wp2_with fail
                  go_roundw
                  case rel => exact ⟨y, rfl, by omega, by omega, ⟨_, hs⟩, kw.trans ks (Step.refl _ _)⟩
                  case measure => simp [intOf, Act.put] <;> omega
              · have hz3 : ¬ (p : Int) < (z : Int) := by omega
                go_wp2_with fail
                go_returns
                exact ⟨rfl, ⟨ys, h⟩, kw⟩
      · have hd2 : ((b : Int) - (m : Int) == 1) = false := by rw [beq_eq_false_iff_ne]; omega
        go_enter Try.func85, Try.ntmps85
        go_upto_region 25 with fail
        have em : ((a : Int) + (b : Int)) / 2 = (((a + b) / 2 : Nat) : Int) := by omega
        obtain ⟨d, hde⟩ : ∃ d, d = (a + b) / 2 := ⟨_, rfl⟩
        have hd : a < d ∧ d < b ∧ 2 * d ≤ a + b ∧ a + b ≤ 2 * d + 1 := by omega
        rw [em, ← hde]
        clear em hde
        go_upto_if 140 with fail
        go_cut [20, 21, 140] from 141 to 146 (fun s r _ wx => ∃ s0 r0 : Nat, s = .int .i64 (s0 : Int) ∧ r = .int .i64 (r0 : Int) ∧ a ≤ s0 ∧ d + m ≤ s0 + b ∧ s0 ≤ r0 ∧ r0 ≤ m ∧ r0 ≤ d ∧ w = wx)
        case first =>
          by_cases hdm : d < m
          · go_wp2_with fail
            go_meet
            exact ⟨d + m - b, d, int_eq (by omega), rfl, by omega, by omega, by omega, by omega, by omega, by trivial⟩
          · go_wp2_with fail
            go_meet
            exact ⟨a, m, rfl, rfl, by omega, by omega, by omega, by omega, by omega, by trivial⟩
        case rest =>
          obtain ⟨s0, r0, rfl, rfl, hs1, hs2, hs3, hs4, hs5, rfl⟩ := hcut
          go_wp2_with fail
          obtain ⟨pn, hpn⟩ : ∃ pn : Nat, (d : Int) + (m : Int) - 1 = (pn : Int) := ⟨d + m - 1, by omega⟩
          rw [hpn]
          have HPN := Lib.hid hpn
          clear hpn
          go_loopw [20, 21] (fun i j wr => ∃ p q : Nat, i = .int .i64 (p : Int) ∧ j = .int .i64 (q : Int) ∧ a ≤ p ∧ d + m ≤ p + b ∧ p ≤ q ∧ q ≤ m ∧ q ≤ d ∧ (∃ ys, Wt wr g n cap N tb ta tc ts ys) ∧ Keeps [g] w wr) (fun i j _ => (intOf j).toNat - (intOf i).toNat)
          case atStart => exact ⟨s0, r0, rfl, rfl, hs1, hs2, hs3, hs4, hs5, ⟨ys, h⟩, Keeps.refl _ _⟩
          case round =>
            clear h hs1 hs2 hs3 hs4 hs5
            obtain ⟨p, q, rfl, rfl, hap, hdm, hpq, hqm, hqd, ⟨ys, h⟩, kw⟩ := hrel
            by_cases hlt : p < q
            · go_upto_region 35 with fail
              have eh : ((p : Int) + (q : Int)) / 2 = (((p + q) / 2 : Nat) : Int) := by omega
              obtain ⟨hh, hhe⟩ : ∃ hh, hh = (p + q) / 2 := ⟨_, rfl⟩
              have hh1 : p ≤ hh ∧ hh < q := by omega
              rw [eh, ← hhe]
              clear eh hhe
              obtain ⟨u, hu⟩ : ∃ u : Nat, (pn : Int) - (hh : Int) = (u : Int) := ⟨pn - hh, by have := HPN.out; omega⟩
              have hub : u < n := by have := HPN.out; omega
              have hx1 : (hh : Int) < (n : Int) := by omega
              have hx2 : (u : Int) < (n : Int) := by omega
              have e3 : IntKind.i64.wrap (u : Int) = (u : Int) := by rw [IntKind.wrap_i64]; omega
              have hyl := h.row.lens
              obtain ⟨g', e1, _, hg, hoc, hof⟩ := h.row.int (by omega)
              have e1' := List.head_eq_of_cons_eq e1
              subst e1'
              have c1 := hoc u (by omega)
              have c2 := hoc hh (by omega)
              have HW := Lib.hid h
              have K := Lib.hid (fun z => c_less tb N ta tc ts (nth ys u) (nth ys hh) (wr.drewN z) ((h.drewN z).box) ((h.drewN z).tms) (h.inr.nth (by omega)) (h.inr.nth (by omega)))
              have hcb := cmpI_bd (nth ts (nth ys u).toNat) (nth ts (nth ys hh).toNat)
              obtain ⟨v, hv⟩ : ∃ v, v = cmpI (nth ts (nth ys u).toNat) (nth ts (nth ys hh).toNat) := ⟨_, rfl⟩
              rw [← hv] at K hcb
              clear hoc hof e1 h hv
              go_quiet ((with_reducible refine Calls.quiet_of (K.out _)))
              have h := HW.out.drewN nq
              have kq := kw.trans (Keeps.drewN [g] wr nq) (Step.refl _ _)
              obtain ⟨wq, hwq⟩ : ∃ wq, wq = wr.drewN nq := ⟨_, rfl⟩
              rw [← hwq] at h kq ⊢
              clear hwq HW K c1 c2 kw hcb
              clear hu e3
              by_cases hv : v < 0
              · rw [show (!decide (v < 0)) = false by rw [decide_eq_true hv]; rfl]
                go_wp2_with fail
                go_roundw
                case rel => exact ⟨p, hh, rfl, rfl, by omega, by omega, by omega, by omega, by omega, ⟨ys, h⟩, kq⟩
                case measure => simp [intOf] <;> omega
              · rw [show (!decide (v < 0)) = true by rw [decide_eq_false hv]; rfl]
                go_wp2_with fail
                go_roundw
                case rel => exact ⟨hh + 1, q, by rw [Int.natCast_add]; rfl, rfl, by omega, by omega, by omega, by omega, by omega, ⟨ys, h⟩, kq⟩
                case measure => simp [intOf] <;> omega
            · obtain rfl : p = q := by omega
              go_upto_region 39 with fail
              obtain ⟨en, hen⟩ : ∃ en : Nat, (d : Int) + (m : Int) - (p : Int) = (en : Int) := ⟨d + m - p, by omega⟩
              have hen2 : en + p = d + m := by omega
              rw [hen]
              clear hen hlt
              obtain ⟨wx, rfl⟩ : ∃ wx : World, wx = wr := ⟨_, rfl⟩
              have g3 : (p < m ∧ m < en) ∨ (p < m ∧ ¬ m < en) ∨ ¬ p < m := by omega
              have g4 : (a < p ∧ p < d) ∨ (a < p ∧ ¬ p < d) ∨ ¬ a < p := by omega
              have g5 : (d < en ∧ en < b) ∨ (d < en ∧ ¬ en < b) ∨ ¬ d < en := by omega
              have G4 := Lib.hid g4
              have G5 := Lib.hid g5
              clear g4 g5
              rcases g3 with ⟨g1, g2⟩ | ⟨g1, g2⟩ | g1
              all_goals
                first
                  | (have g9 : m < en := g2
                     go_upto_region 41 with (go_at_call 91; refine (c_rotC g n cap N tb ta tc ts ys p m en _ _ _ _ _ h rfl rfl rfl g1 g9 (by omega) hn).mono ?_; rintro e w2 ⟨rfl, ⟨ys2, h2⟩, k2⟩)
                     have HK := Lib.hid (And.intro h2 (kw.trans k2 (Step.refl _ _)))
                     clear h kw k2 g9)
                  | (go_upto_region 41 with fail
                     have HK := Lib.hid (And.intro h kw)
                     clear h kw)
                rcases G4.out with ⟨e1, e2⟩ | ⟨e1, e2⟩ | e1
                all_goals
                  first
                    | (have g9 : p < d := e2
                       go_upto_region 43 with (go_at_call 85; refine (IH.out g n cap N tb ta tc ts _ a p d _ HK.out.1 e1 g9 (by omega) hn (by omega)).mono ?_; rintro e w5 ⟨rfl, ⟨ys5, h5⟩, k5⟩)
                       have HL := Lib.hid (And.intro h5 (HK.out.2.trans k5 (Step.refl _ _)))
                       clear HK k5 h5 g9)
                    | (go_upto_region 43 with fail
                       have HL := HK
                       clear HK)
                  rcases G5.out with ⟨f1, f2⟩ | ⟨f1, f2⟩ | f1
                  · go_wp2_with (go_at_call 85; refine (IH.out g n cap N tb ta tc ts _ d en b _ HL.out.1 f1 f2 (by omega) hn (by omega)).mono ?_; rintro e w7 ⟨rfl, h7, k7⟩)
                    go_end0
                    exact ⟨rfl, h7, HL.out.2.trans k7 (Step.refl _ _)⟩
                  · go_wp2_with fail
                    go_end0
                    exact ⟨rfl, ⟨_, HL.out.1⟩, HL.out.2⟩
                  · go_wp2_with fail
                    go_end0
                    exact ⟨rfl, ⟨_, HL.out.1⟩, HL.out.2⟩

end Go.Proofs.Ytaffokicnabkiaa

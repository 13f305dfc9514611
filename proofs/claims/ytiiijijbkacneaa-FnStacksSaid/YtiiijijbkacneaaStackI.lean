/- Sorting with a stack: the program. No condition but lengths. -/
import Derived.Test.YtiiijijbkacneaaTake
import Derived.Test.YtiiijijbkacneaaPerm
namespace Go.Proofs.Ytiiijijbkacneaa
open Go.RowKit
set_option linter.unusedVariables false

/-- The three variables that the closure captured, and the two rows. -/
structure StI (B v0 v1 v2 : Nat) (W w : World) (oa : Option Addr) (on oc : Nat) (sa : Option Addr) (sn sc : Nat) (M L : List Nat) (out st : List Int) (s : ByteArray) : Prop where
  b0 : Box w v0 (.slice oa on oc)
  b1 : Box w v1 (.slice sa sn sc)
  b2 : Box w v2 (.string s)
  out : Ow w 3 M oa on oc (ints out)
  st : Ow w 3 L sa sn sc (ints st.reverse)
  nM : New B M
  nL : New B L
  aM : ∀ v, v ∈ M → v ≠ v0 ∧ v ≠ v1 ∧ v ≠ v2
  aL : ∀ v, v ∈ L → v ≠ v0 ∧ v ≠ v1 ∧ v ≠ v2
  ap : Apart M L
  below : Below B W w


/-- One number is taken. -/
theorem StI.take {B v0 v1 v2 : Nat} {W w : World} {oa sa : Option Addr} {on oc m sc : Nat} {M L : List Nat} {out st : List Int} {y : Int} {s : ByteArray} (h : StI B v0 v1 v2 W w oa on oc sa (m + 1) sc M L out (y :: st) s)
    (hB : B ≤ v0 ∧ B ≤ v1 ∧ B ≤ v2) (hBw : B ≤ w.heap.size) (d01 : v0 ≠ v1) (d02 : v0 ≠ v2) (d12 : v1 ≠ v2) (hon : on ≤ 100) (hm : m ≤ 100) (hs : s.size ≤ 100) :
    Calls Try.prog 58 #[.pointer (some ⟨v0, 0, none⟩), .pointer (some ⟨v1, 0, none⟩), .pointer (some ⟨v2, 0, none⟩)] w fun e w' => e = .returned (.tuple #[]) ∧ ∃ M' oa' oc', StI B v0 v1 v2 W w' oa' (on + 1) oc' sa m sc M' L (out ++ [y]) st (s ++ ⟨#[116]⟩) ∧ w.heap.size ≤ w'.heap.size := by
  refine (c_take v0 v1 v2 M L oa sa on oc m sc out st y s w h.b0 h.b1 h.b2 h.out h.st d01 d02 d12 h.aM h.aL h.ap hon hm hs).mono ?_
  rintro e w' ⟨rfl, M', oa', oc', x0, x1, x2, o', s', st', kp⟩
  refine ⟨rfl, M', oa', oc', ⟨x0, x1, x2, o', s', st'.new h.nM hBw, h.nL, fun v hv => ?_, h.aL, ?_, kp.below h.below (fun i hi => ?_) hBw⟩, kp.size⟩
  · rcases st' v hv with h1 | h1
    · exact h.aM v h1
    · have := h.b0.old; have := h.b1.old; have := h.b2.old; omega
  · exact Apart.step h.ap st' h.st.old
  · simp at hi
    rcases hi with h1 | h1 | h1 | h1
    · omega
    · omega
    · omega
    · exact h.nM i h1

/-- One number is laid on the stack: what the stores meet, and what stands behind them. -/
theorem StI.push {B v0 v1 v2 : Nat} {W w : World} {oa sa : Option Addr} {on oc sn sc : Nat} {M L : List Nat} {out st : List Int} {s : ByteArray} (h : StI B v0 v1 v2 W w oa on oc sa sn sc M L out st s)
    (hB : B ≤ v0 ∧ B ≤ v1 ∧ B ≤ v2) (hBw : B ≤ w.heap.size) (d01 : v0 ≠ v1) (d02 : v0 ≠ v2) (d12 : v1 ≠ v2) {x : Int} {o : Obj} {w5 : World} {a5 : Option Addr} {cap5 : Nat} {L5 : List Nat}
    (ow5 : Ow w5 3 L5 a5 (sn + 1) cap5 (ints st.reverse ++ [.int .i64 x])) (kp5 : Keeps L (w.alloc o) w5) (st5 : Step (w.alloc o) L L5) :
    w5.cell? ⟨v1, 0, none⟩ = some (.slice sa sn sc) ∧ w5.frozen? ⟨v1, 0, none⟩ = false ∧ (w5.setCell ⟨v1, 0, none⟩ (.slice a5 (sn + 1) cap5)).cell? ⟨v2, 0, none⟩ = some (.string s) ∧ (w5.setCell ⟨v1, 0, none⟩ (.slice a5 (sn + 1) cap5)).frozen? ⟨v2, 0, none⟩ = false ∧
    ∀ u, StI B v0 v1 v2 W ((w5.setCell ⟨v1, 0, none⟩ (.slice a5 (sn + 1) cap5)).setCell ⟨v2, 0, none⟩ (.string u)) oa on oc a5 (sn + 1) cap5 M L5 out (x :: st) u ∧ w.heap.size ≤ ((w5.setCell ⟨v1, 0, none⟩ (.slice a5 (sn + 1) cap5)).setCell ⟨v2, 0, none⟩ (.string u)).heap.size := by
  have al := Keeps.alloc [] w o
  have q0 := (h.b0.keep al (by simp)).keep kp5 (fun hi => (h.aL _ hi).1 rfl)
  have q1 := (h.b1.keep al (by simp)).keep kp5 (fun hi => (h.aL _ hi).2.1 rfl)
  have q2 := (h.b2.keep al (by simp)).keep kp5 (fun hi => (h.aL _ hi).2.2 rfl)
  have s1 := Keeps.setCell w5 v1 0 (.slice a5 (sn + 1) cap5)
  have r0 := q0.keep s1 (by simpa using d01)
  have r1 := q1.set (.slice a5 (sn + 1) cap5)
  have r2 := q2.keep s1 (by simpa using fun e => d12 e.symm)
  refine ⟨q1.cell, q1.free, r2.cell, r2.free, fun u => ?_⟩
  have s2 := Keeps.setCell (w5.setCell ⟨v1, 0, none⟩ (.slice a5 (sn + 1) cap5)) v2 0 (.string u)
  have hL5 : ∀ v, v ∈ L5 → v ≠ v0 ∧ v ≠ v1 ∧ v ≠ v2 := fun v hv => by
    rcases st5 v hv with h1 | h1
    · exact h.aL v h1
    · have := h.b0.old; have := h.b1.old; have := h.b2.old; simp at h1; omega
  have hout := (((h.out.alloc o).keep kp5 h.ap).keep s1 (fun i hi hm => (h.aM i hi).2.1 (by simpa using hm))).keep s2 (fun i hi hm => (h.aM i hi).2.2 (by simpa using hm))
  have hst := (ow5.keep s1 (fun i hi hm => (hL5 i hi).2.1 (by simpa using hm))).keep s2 (fun i hi hm => (hL5 i hi).2.2 (by simpa using hm))
  have b1 : Below B W (w.alloc o) := h.below.alloc hBw o
  have hs1 : B ≤ (w.alloc o).heap.size := by simp; omega
  have b2 := kp5.below b1 h.nL hs1
  have hs2 : B ≤ w5.heap.size := Nat.le_trans hs1 kp5.size
  have b3 := s1.below b2 (fun i hi => by simp at hi; omega) hs2
  have b4 := s2.below b3 (fun i hi => by simp at hi; omega) (Nat.le_trans hs2 s1.size)
  refine ⟨⟨r0.keep s2 (by simpa using d02), r1.keep s2 (by simpa using d12), r2.set _, hout, by rw [List.reverse_cons, ← ints_snoc]; exact hst, h.nM, st5.new h.nL hs1, h.aM, hL5, (Apart.step h.ap.symm st5 (h.out.alloc o).old).symm, b4⟩, ?_⟩
  have e1 := kp5.size
  have e2 := s1.size
  have e3 := s2.size
  simp at e1
  omega

/-- How long the slice is that lies in a block. -/
def lenAtS (v : Nat) (w : World) : Nat := match w.cell? ⟨v, 0, none⟩ with | some (.slice _ m _) => m | _ => 0
theorem lenAt_box {w : World} {v m c : Nat} {a : Option Addr} (h : Box w v (.slice a m c)) : lenAtS v w = m := by unfold lenAtS; rw [h.cell]
theorem Box.new {w : World} {u : Value} {T : TypeId} : Box (w.alloc (.cells #[u] T)) w.heap.size u :=
  ⟨World.cell?_alloc_at _ _ _ _ (by simp), frozen_of_row _ _ 0 _ T (heap_alloc_new w _), by simp⟩

set_option maxHeartbeats 2000000 in
theorem c_stackSort (a : Option Addr) (n cap : Nat) (xs : List Int) (w : World) (hr : RdI w a n cap xs) (hn : n ≤ 8) :
    Calls Try.prog 33 #[.slice a n cap] w fun e w' => ∃ oa oc, e = .returned (.tuple #[.slice oa n oc, .string (drW (stS xs n).2 (stW xs n))]) ∧ OwI w' 3 w.heap.size oa n oc (stF xs n) ∧ Below w.heap.size w w' := by
  have hmf : ∀ (fn : Fn) (first cp : Array Value) (w : World), (Instr.makeFunc fn first cp).run Try.prog w = .ok (.func fn first cp) w := fun _ _ _ _ => rfl
  have HL := Lib.hid hr.lens
  go_enter Try.func33, Try.ntmps33
  go_wp2_with fail
  obtain ⟨v0, hv0⟩ : ∃ v, v = w.heap.size + 1 + 1 := ⟨_, rfl⟩
  rw [← hv0]
  have hB : w.heap.size ≤ v0 ∧ w.heap.size ≤ v0 + 1 ∧ w.heap.size ≤ v0 + 1 + 1 := by omega
  have d01 : v0 ≠ v0 + 1 := by omega
  have d02 : v0 ≠ v0 + 1 + 1 := by omega
  have d12 : v0 + 1 ≠ v0 + 1 + 1 := by omega
  go_loopw [9, 15] (fun x i wr => ∃ k : Nat, ∃ oa on oc sa sn sc M L, k ≤ n ∧ i = .int .i64 k ∧ StI w.heap.size v0 (v0 + 1) (v0 + 1 + 1) w wr oa on oc sa sn sc M L (stS xs k).1 (stS xs k).2 (stW xs k) ∧ v0 + 3 ≤ wr.heap.size) (fun _ i _ => n - (intOf i).toNat)
  case atStart =>
    obtain rfl := hv0
    refine ⟨0, some ⟨w.heap.size, 0, none⟩, 0, 0, some ⟨w.heap.size + 1, 0, none⟩, 0, 0, [], [], by omega, rfl, ?_, by simp⟩
    have B0 : Box ((((w.alloc (.cells #[] 3)).alloc (.cells #[] 3)).alloc (.cells #[.slice (some ⟨w.heap.size, 0, none⟩) 0 0] 24))) (w.heap.size + 1 + 1) (.slice (some ⟨w.heap.size, 0, none⟩) 0 0) := by
      have := Box.new (w := (w.alloc (.cells #[] 3)).alloc (.cells #[] 3)) (u := .slice (some ⟨w.heap.size, 0, none⟩) 0 0) (T := 24)
      simpa using this
    have B1 : Box (((((w.alloc (.cells #[] 3)).alloc (.cells #[] 3)).alloc (.cells #[.slice (some ⟨w.heap.size, 0, none⟩) 0 0] 24))).alloc (.cells #[.slice (some ⟨w.heap.size + 1, 0, none⟩) 0 0] 24)) (w.heap.size + 1 + 1 + 1) (.slice (some ⟨w.heap.size + 1, 0, none⟩) 0 0) := by
      have := Box.new (w := ((w.alloc (.cells #[] 3)).alloc (.cells #[] 3)).alloc (.cells #[.slice (some ⟨w.heap.size, 0, none⟩) 0 0] 24)) (u := .slice (some ⟨w.heap.size + 1, 0, none⟩) 0 0) (T := 24)
      simpa using this
    have B2 : Box ((((((w.alloc (.cells #[] 3)).alloc (.cells #[] 3)).alloc (.cells #[.slice (some ⟨w.heap.size, 0, none⟩) 0 0] 24))).alloc (.cells #[.slice (some ⟨w.heap.size + 1, 0, none⟩) 0 0] 24)).alloc (.cells #[.string ⟨#[]⟩] 9)) (w.heap.size + 1 + 1 + 1 + 1) (.string ⟨#[]⟩) := by
      have := Box.new (w := (((w.alloc (.cells #[] 3)).alloc (.cells #[] 3)).alloc (.cells #[.slice (some ⟨w.heap.size, 0, none⟩) 0 0] 24)).alloc (.cells #[.slice (some ⟨w.heap.size + 1, 0, none⟩) 0 0] 24)) (u := .string ⟨#[]⟩) (T := 9)
      simpa using this
    exact ⟨((B0.keep (Keeps.alloc [] _ _) (by simp)).keep (Keeps.alloc [] _ _) (by simp)), B1.keep (Keeps.alloc [] _ _) (by simp), B2, Ow.bare _ _ _, Ow.bare _ _ _, fun _ h => (by cases h), fun _ h => (by cases h), fun _ h => (by cases h), fun _ h => (by cases h), Apart.nil _,
      (((((Below.refl _ _).alloc (Nat.le_refl _) _).alloc (by simp) _).alloc (by simp; omega) _).alloc (by simp; omega) _).alloc (by simp; omega) _⟩
  case round =>
    obtain ⟨k, oa, on, oc, sa, sn, sc, M, L, hk, rfl, hS, hvs⟩ := hrel
    clear hv0
    by_cases hlt : k < n
    · obtain ⟨b, off, rfl, _, hc⟩ := (hr.below hS.below).int (by omega)
      have c1 := hc k hlt
      clear hc
      go_wp2_with fail
      obtain ⟨wo, rfl⟩ : ∃ wo : World, wo = wr := ⟨_, rfl⟩
      go_loopw [21] (fun _ wr => ∃ out st : List Int, ∃ s oa on oc sa sn sc M L, tkS (nth xs k) out st = tkS (nth xs k) (stS xs k).1 (stS xs k).2 ∧ tkW (nth xs k) st s = tkW (nth xs k) (stS xs k).2 (stW xs k) ∧ s.size = k + out.length ∧ StI w.heap.size v0 (v0 + 1) (v0 + 1 + 1) w wr oa on oc sa sn sc M L out st s ∧ v0 + 3 ≤ wr.heap.size) (fun _ wr => lenAtS (v0 + 1) wr)
      case atStart => exact ⟨_, _, _, oa, on, oc, sa, sn, sc, M, L, rfl, rfl, stW_size xs k, hS, hvs⟩
      case round =>
        clear hS hvs
        obtain ⟨out, st, s, oa, on, oc, sa, sn, sc, M, L, htk, htw, hss, hS, hvs⟩ := hrel
        have hlen := stS_len xs k
        have hl2 := tkS_len (nth xs k) st out
        rw [htk, tkS_len (nth xs k) (stS xs k).2 (stS xs k).1, hlen] at hl2
        have hon : out.length = on := hS.out.lens
        have hsn : st.reverse.length = sn := hS.st.lens
        rw [List.length_reverse] at hsn
        have hon8 : on ≤ 8 := by omega
        have hsn8 : sn ≤ 8 := by omega
        have hs8 : s.size ≤ 16 := by omega
        have HTK := Lib.hid htk
        have HTW := Lib.hid htw
        have HSN := Lib.hid hsn
        have HSS := Lib.hid hss
        have hBw : w.heap.size ≤ wr.heap.size := hS.below.size
        have hla := lenAt_box hS.b1
        have b1c := hS.b1.cell
        have b1f := hS.b1.free
        clear htk htw hl2 hsn hlen hss
        cases st with
        | nil =>
          obtain rfl : 0 = sn := HSN.out
          go_wp2_with ((with_reducible show wpList _ _ _ (⟨some 37, _, _, _, _, _⟩ :: _) _ _); refine wpList_app _ rfl _ _ 24 rfl 3 Try.underlying24 infoInt rfl rfl rfl (hS.st.alloc _) (Rd.one _ _ _) (one_int _) (by omega) (by unfold maxLen; omega) ?_; intro a5 cap5 L5 w5 ow5 kp5 st5; obtain ⟨q1c, q1f, q2c, q2f, hS5⟩ := hS.push hB hBw d01 d02 d12 ow5 kp5 st5)
          obtain ⟨hS6, hz6⟩ := hS5 (s ++ ⟨#[112]⟩)
          go_roundw
          case rel => exact ⟨k + 1, oa, on, oc, a5, _, cap5, M, L5, by omega, by go_num, by simp only [stS, stW]; rw [← HTK.out, ← HTW.out]; simpa [tkS, tkW] using hS6, Nat.le_trans hvs hz6⟩
          case measure => simp [intOf]; omega
        | cons y st =>
          obtain ⟨m, rfl⟩ : ∃ m, sn = m + 1 := ⟨st.length, by have := HSN.out; simp at this; omega⟩
          have hm : st.length = m := by have := HSN.out; simpa using this
          obtain ⟨g, rfl, rfl, _, hsc, _⟩ := hS.st.int (by have := hS.st.le; omega)
          have c2 := hsc m (by omega)
          have e2 : nth (y :: st).reverse m = y := by rw [← hm, nth_top]
          rw [e2] at c2
          clear hsc e2 hm
          have hlt1 : (m : Int) < (m : Int) + 1 := by omega
          have hwm : IntKind.i64.wrap (m : Int) = (m : Int) := by rw [IntKind.wrap_i64]; omega
          by_cases hyx : y < nth xs k
          · go_wp2_with (go_at_call 58; refine (hS.take hB hBw d01 d02 d12 (by omega) (by omega) (by omega)).mono ?_; rintro e w2 ⟨rfl, M2, oa2, oc2, hS2, hz2⟩)
            go_roundw
            case rel => exact ⟨out ++ [y], st, s ++ ⟨#[116]⟩, oa2, on + 1, oc2, _, m, sc, M2, [g], by rw [← tkS_yes hyx]; exact HTK.out, by rw [← tkW_yes hyx]; exact HTW.out, by rw [ba_size, List.length_append, List.length_singleton]; have := HSS.out; omega, hS2, by omega⟩
            case measure => rw [lenAt_box hS2.b1, hla]; omega
          · go_wp2_with ((with_reducible show wpList _ _ _ (⟨some 37, _, _, _, _, _⟩ :: _) _ _); refine wpList_app _ rfl _ _ 24 rfl 3 Try.underlying24 infoInt rfl rfl rfl (hS.st.alloc _) (Rd.one _ _ _) (one_int _) (by omega) (by unfold maxLen; omega) ?_; intro a5 cap5 L5 w5 ow5 kp5 st5; obtain ⟨q1c, q1f, q2c, q2f, hS5⟩ := hS.push hB hBw d01 d02 d12 ow5 kp5 st5)
            obtain ⟨hS6, hz6⟩ := hS5 (s ++ ⟨#[112]⟩)
            go_roundw
            case rel => exact ⟨k + 1, oa, on, oc, a5, _, cap5, M, L5, by omega, by go_num, by simp only [stS, stW]; rw [← HTK.out, ← HTW.out, tkS_no hyx, tkW_no hyx]; exact hS6, by omega⟩
            case measure => simp [intOf]; omega
    · obtain rfl : n = k := by omega
      go_wp2_with fail
      have hss0 := stW_size xs n
      have hlen0 := stS_len xs n
      go_loopw [43] (fun _ wr => ∃ out st : List Int, ∃ s oa on oc sa sn sc M L, out ++ st = stF xs n ∧ drW st s = drW (stS xs n).2 (stW xs n) ∧ s.size = n + out.length ∧ StI w.heap.size v0 (v0 + 1) (v0 + 1 + 1) w wr oa on oc sa sn sc M L out st s ∧ v0 + 3 ≤ wr.heap.size) (fun _ wr => lenAtS (v0 + 1) wr)
      case atStart => exact ⟨_, _, _, oa, on, oc, sa, sn, sc, M, L, rfl, rfl, hss0, hS, hvs⟩
      case round =>
        clear hS hvs
        obtain ⟨out, st, s, oa, on, oc, sa, sn, sc, M, L, htk, htw, hss, hS, hvs⟩ := hrel
        have hl2 : (out ++ st).length = n := by rw [htk]; simp only [stF, List.length_append]; omega
        rw [List.length_append] at hl2
        have hon : out.length = on := hS.out.lens
        have hsn : st.reverse.length = sn := hS.st.lens
        rw [List.length_reverse] at hsn
        have hon8 : on ≤ 8 := by omega
        have hsn8 : sn ≤ 8 := by omega
        have hs8 : s.size ≤ 16 := by omega
        have HTK := Lib.hid htk
        have HTW := Lib.hid htw
        have HSN := Lib.hid hsn
        have HSS := Lib.hid hss
        have HON := Lib.hid (show on + sn = n by omega)
        have hBw : w.heap.size ≤ wr.heap.size := hS.below.size
        have hla := lenAt_box hS.b1
        have b0c := hS.b0.cell
        have b1c := hS.b1.cell
        have b2c := hS.b2.cell
        clear htk htw hl2 hsn hss hon hss0 hlen0
        cases st with
        | nil =>
          obtain rfl : 0 = sn := HSN.out
          go_wp2_with fail
          go_quiet (fail)
          go_wp2_with fail
          go_ret2
          have hnn := HON.out
          rw [Nat.add_zero] at hnn
          subst hnn
          have h1 := HTK.out
          rw [List.append_nil] at h1
          exact ⟨oa, oc, by rw [← HTW.out]; rfl, ⟨M, by rw [← h1]; exact hS.out, hS.nM⟩, hS.below.trans (below_drewN (Below.refl _ _) _)⟩
        | cons y st =>
          obtain ⟨m, rfl⟩ : ∃ m, sn = m + 1 := ⟨st.length, by have := HSN.out; simp at this; omega⟩
          have hlt1 : (0 : Int) < (m : Int) + 1 := by omega
          go_wp2_with (go_at_call 58; refine (hS.take hB hBw d01 d02 d12 (by omega) (by omega) (by omega)).mono ?_; rintro e w2 ⟨rfl, M2, oa2, oc2, hS2, hz2⟩)
          go_roundw
          case rel => exact ⟨out ++ [y], st, s ++ ⟨#[116]⟩, oa2, on + 1, oc2, _, m, sc, M2, _, by rw [← HTK.out]; simp, by rw [← HTW.out]; rfl, by rw [ba_size, List.length_append, List.length_singleton]; have := HSS.out; omega, hS2, by omega⟩
          case measure => rw [lenAt_box hS2.b1, hla]; omega


end Go.Proofs.Ytiiijijbkacneaa

/- The reference's search by levels: lengths of its levels. No condition. -/
import Derived.Test.YtfnkddplmpcbgaaDistV
import Derived.Test.YtfnkddplmpcbgaaIn
namespace Go.Proofs.Ytfnkddplmpcbgaa
open Go.RowKit
set_option linter.unusedVariables false
set_option linter.unusedSimpArgs false

/-- The levels: those ahead of place a have outs' lengths, then m orders of the level now (q of them tried), then those of the next. -/
structure Lv (n : Nat) (es : List Ent) (outs : List Nat) (a m q j : Nat) : Prop where
  bf : Bf n es (a + q) j
  qm : q ≤ m
  len : a + m ≤ es.length
  low : ∀ i, i < a → (en es i).2 < outs.length
  mid : ∀ i, a ≤ i → i < a + m → (en es i).2 = outs.length
  hi : ∀ i, a + m ≤ i → i < es.length → (en es i).2 = outs.length + 1
  cnt : ∀ j, j < outs.length → outs.getD j 0 = cntD es j ∧ 0 < cntD es j
theorem cntD_app (es : List Ent) (e : Ent) (j : Nat) (h : e.2 ≠ j) : cntD (es ++ [e]) j = cntD es j := by
  unfold cntD; rw [List.countP_append]; simp [h]
theorem Lv.step {n : Nat} {es : List Ent} {outs : List Nat} {a m q j : Nat} (h : Lv n es outs a m q j) (hq : q < m) (hj : j + 2 ≤ n) : Lv n (stp (a + q) (j + 2) es) outs a m q (j + 1) := by
  have hl : a + q < es.length := by have := h.len; omega
  have hb := h.bf.step hl hj
  have hm := h.mid (a + q) (by omega) (by omega)
  unfold stp at *
  split
  · rename_i hh
    rw [if_pos hh] at hb
    exact ⟨hb, h.qm, h.len, h.low, h.mid, h.hi, h.cnt⟩
  · rename_i hh
    rw [if_neg hh] at hb
    have hlen := h.len
    refine ⟨hb, h.qm, by rw [List.length_append]; omega, fun i hi => by rw [en_app (by omega)]; exact h.low i hi, fun i h1 h2 => by rw [en_app (by omega)]; exact h.mid i h1 h2, fun i h1 h2 => ?_, fun j hj => ?_⟩
    · rw [List.length_append, List.length_singleton] at h2
      rcases (show i < es.length ∨ i = es.length by omega) with h3 | h3
      · rw [en_app h3]; exact h.hi i h1 h3
      · subst h3; rw [en_new]; show _ + 1 = _; rw [hm]
    · rw [cntD_app _ _ _ (by show (en es (a + q)).2 + 1 ≠ j; omega)]
      exact h.cnt j hj
theorem Lv.stay {n : Nat} {es : List Ent} {outs : List Nat} {a m q j : Nat} (h : Lv n es outs a m q j) (hq : q < m) (hj : n ≤ j + 1) : Lv n es outs a m (q + 1) 0 :=
  ⟨h.bf.next (by have := h.len; omega) hj, by omega, h.len, h.low, h.mid, h.hi, h.cnt⟩
theorem Lv.inn {n : Nat} {es : List Ent} {outs : List Nat} {a m q : Nat} (h : Lv n es outs a m q 0) (hq : q < m) (j : Nat) (hj : j = 0 ∨ j + 1 ≤ n) : Lv n (inn (a + q) j es) outs a m q j := by
  induction j with
  | zero => exact h
  | succ j ih => exact (ih (by omega)).step hq (by omega)
theorem Lv.round {n : Nat} {outs : List Nat} {a m q : Nat} (h : Lv n (srch n (a + q)) outs a m q 0) (hq : q < m) : Lv n (srch n (a + (q + 1))) outs a m (q + 1) 0 := by
  have hl : a + q < (srch n (a + q)).length := by have := h.len; omega
  rw [show a + (q + 1) = (a + q) + 1 by omega]
  simp only [srch]
  rw [if_pos hl]
  exact (h.inn hq (n - 1) (by omega)).stay hq (by omega)
theorem cntD_mid {es : List Ent} {d a m : Nat} (hl : a + m ≤ es.length) (low : ∀ i, i < a → (en es i).2 < d) (mid : ∀ i, a ≤ i → i < a + m → (en es i).2 = d) (hi : ∀ i, a + m ≤ i → i < es.length → (en es i).2 = d + 1) : cntD es d = m := by
  have e : es = es.take a ++ ((es.drop a).take m ++ es.drop (a + m)) := by
    rw [← List.drop_drop, List.take_append_drop, List.take_append_drop]
  unfold cntD
  rw [e, List.countP_append, List.countP_append]
  have h1 : (es.take a).countP (fun e => e.2 == d) = 0 := by
    rw [List.countP_eq_zero]
    intro x hx
    obtain ⟨i, hi', rfl⟩ := List.mem_iff_getElem.1 hx
    have hlt : i < a := by rw [List.length_take] at hi'; omega
    have := low i hlt
    rw [en_eq (by omega)] at this
    simp only [List.getElem_take]
    simp; omega
  have h2 : ((es.drop a).take m).countP (fun e => e.2 == d) = m := by
    have hlen : ((es.drop a).take m).length = m := by rw [List.length_take, List.length_drop]; omega
    rw [List.countP_eq_length.2, hlen]
    intro x hx
    obtain ⟨i, hi', rfl⟩ := List.mem_iff_getElem.1 hx
    rw [hlen] at hi'
    have := mid (a + i) (by omega) (by omega)
    rw [en_eq (by omega)] at this
    simp only [List.getElem_take, List.getElem_drop]
    simp; exact this
  have h3 : (es.drop (a + m)).countP (fun e => e.2 == d) = 0 := by
    rw [List.countP_eq_zero]
    intro x hx
    obtain ⟨i, hi', rfl⟩ := List.mem_iff_getElem.1 hx
    rw [List.length_drop] at hi'
    have := hi (a + m + i) (by omega) (by omega)
    rw [en_eq (by omega)] at this
    simp only [List.getElem_drop]
    simp; omega
  omega
theorem Lv.next {n : Nat} {es : List Ent} {outs : List Nat} {a m : Nat} (h : Lv n es outs a m m 0) (hm : 0 < m) : Lv n es (outs ++ [m]) (a + m) (es.length - (a + m)) 0 0 := by
  have hl := h.len
  have hc := cntD_mid hl h.low h.mid h.hi
  refine ⟨h.bf, by omega, by omega, fun i hi => ?_, fun i h1 h2 => ?_, fun i h1 h2 => by omega, fun j hj => ?_⟩
  · rw [List.length_append, List.length_singleton]
    rcases Nat.lt_or_ge i a with h1 | h1
    · have := h.low i h1; omega
    · have := h.mid i h1 hi; omega
  · rw [List.length_append, List.length_singleton]
    exact h.hi i h1 (by omega)
  · rw [List.length_append, List.length_singleton] at hj
    rcases (show j < outs.length ∨ j = outs.length by omega) with h1 | h1
    · have := h.cnt j h1
      rw [List.getD, List.getElem?_append_left h1]
      exact this
    · subst h1
      rw [List.getD, List.getElem?_append_right (Nat.le_refl _), Nat.sub_self, hc]
      exact ⟨rfl, hm⟩
theorem Lv.start (n : Nat) : Lv n (srch n 0) [] 0 1 0 0 := by
  refine ⟨Bf.start n, by omega, by simp [srch], fun i hi => by omega, fun i h1 h2 => ?_, fun i h1 h2 => by simp [srch] at h2; omega, fun j hj => by simp at hj⟩
  obtain rfl : i = 0 := by omega
  rfl
theorem Lv.done {n : Nat} {es : List Ent} {outs : List Nat} {a : Nat} (h : Lv n es outs a 0 0 0) (hl : es.length = a) : outs.length = maxD es + 1 ∧ ∀ j, cntD es j = outs.getD j 0 := by
  have hp := h.bf.pos
  have hlow : ∀ i, i < es.length → (en es i).2 < outs.length := fun i hi => h.low i (by omega)
  have hz : ∀ j, outs.length ≤ j → cntD es j = 0 := fun j hj => by
    unfold cntD
    rw [List.countP_eq_zero]
    intro x hx
    obtain ⟨i, hi', rfl⟩ := List.mem_iff_getElem.1 hx
    have := hlow i hi'
    rw [en_eq hi'] at this
    simp; omega
  refine ⟨?_, fun j => ?_⟩
  · have h1 : maxD es < outs.length := hlow (es.length - 1) (by omega)
    have h2 := (h.cnt (outs.length - 1) (by omega)).2
    have h3 : ∃ x ∈ es, (x.2 == outs.length - 1) = true := List.countP_pos_iff.1 h2
    obtain ⟨x, hx, hx2⟩ := h3
    obtain ⟨i, hi', rfl⟩ := List.mem_iff_getElem.1 hx
    have h4 := h.bf.max i hi'
    rw [en_eq hi'] at h4
    have h5 : es[i].2 = outs.length - 1 := by simpa using hx2
    omega
  · rcases Nat.lt_or_ge j outs.length with h1 | h1
    · exact (h.cnt j h1).1.symm
    · rw [hz j h1, List.getD, List.getElem?_eq_none h1]; rfl

/-- The orders' numbers. -/
def codesE (es : List Ent) : List Int := es.map fun e => (keyF 0 e.1 : Int)
theorem codesE_len (es : List Ent) : (codesE es).length = es.length := by simp [codesE]
theorem nth_codesE {es : List Ent} {i : Nat} (h : i < es.length) : nth (codesE es) i = keyF 0 (en es i).1 := by
  rw [nth_eq (by rw [codesE_len]; exact h), en_eq h]; simp [codesE]
theorem Bf.codeNo {n : Nat} {es : List Ent} {a j : Nat} (h : Bf n es a j) (hn : n ≤ 8) {x : List Int} (ho : Order x n) (hh : hasE es x = false) : ∀ i, i < es.length → nth (codesE es) i ≠ keyF 0 x := by
  intro i hi e
  rw [nth_codesE hi] at e
  have hoi := h.ord i hi
  have : hasE es x = true := hasE_iff.2 ⟨i, hi, (keyF_inj _ _ 0 0 (by rw [hoi.1, ho.1]) (hoi.dig hn) (ho.dig hn) (by omega)).2⟩
  rw [hh] at this; cases this
theorem Bf.codeYes {n : Nat} {es : List Ent} {x : List Int} (hh : hasE es x = true) : ∃ p, p < es.length ∧ nth (codesE es) p = keyF 0 x ∧ ∀ i, i < p → nth (codesE es) i ≠ keyF 0 x := by
  obtain ⟨i, hi, hx⟩ := hasE_iff.1 hh
  obtain ⟨k, h1, h2, h3⟩ := first_least (fun i => nth (codesE es) i = keyF 0 x) i (by rw [nth_codesE hi, hx])
  exact ⟨k, by omega, h2, h3⟩

/-- The values of slices with these lengths. -/
def Lens (vals : List Value) (outs : List Nat) : Prop := ∀ j, j < outs.length → ∃ a c, vals[j]? = some (.slice a (outs.getD j 0) c)
theorem Lens.snoc {vals : List Value} {outs : List Nat} (h : Lens vals outs) (hl : vals.length = outs.length) (a : Option Addr) (m c : Nat) : Lens (vals ++ [.slice a m c]) (outs ++ [m]) := by
  intro j hj
  rw [List.length_append, List.length_singleton] at hj
  rcases (show j < outs.length ∨ j = outs.length by omega) with h1 | h1
  · obtain ⟨a', c', e⟩ := h j h1
    exact ⟨a', c', by rw [List.getElem?_append_left (by omega), e, List.getD, List.getD, List.getElem?_append_left h1]⟩
  · subst h1
    exact ⟨a, c, by rw [List.getElem?_append_right (by omega), hl, Nat.sub_self, List.getD, List.getElem?_append_right (Nat.le_refl _), Nat.sub_self]; rfl⟩

/-- The memory of the search: the level now, the levels till now, the numbers, the next level. -/
structure Mm (W wr : World) (m : Nat) (Ln : List Nat) (csn : List Cell) (na : Option Addr) (nc : Nat) (on : Nat) (Lo : List Nat) (oa : Option Addr) (oc : Nat) (vals : List Value)
    (Lc : List Nat) (ca : Option Addr) (cn cc : Nat) (ks : List Int) (Lx : List Nat) (csx : List Cell) (xa : Option Addr) (xn xc : Nat) : Prop where
  now : OwG wr 26 3 Ln na m nc csn
  out : Ow wr 45 Lo oa on oc vals
  cod : Ow wr 3 Lc ca cn cc (ints ks)
  nxt : OwG wr 26 3 Lx xa xn xc csx
  nn : New W.heap.size (fp Ln csn)
  no : New W.heap.size Lo
  nc : New W.heap.size Lc
  nx : New W.heap.size (fp Lx csx)
  a1 : Apart (fp Ln csn) Lo
  a2 : Apart (fp Ln csn) Lc
  a3 : Apart (fp Ln csn) (fp Lx csx)
  a4 : Apart Lo Lc
  a5 : Apart Lo (fp Lx csx)
  a6 : Apart Lc (fp Lx csx)
  b : Below W.heap.size W wr
section
variable {W wr : World} {m : Nat} {Ln : List Nat} {csn : List Cell} {na : Option Addr} {nc : Nat} {on : Nat} {Lo : List Nat} {oa : Option Addr} {oc : Nat} {vals : List Value} {Lc : List Nat} {ca : Option Addr} {cn cc : Nat} {ks : List Int} {Lx : List Nat} {csx : List Cell} {xa : Option Addr} {xn xc : Nat}
theorem Mm.below (h : Mm W wr m Ln csn na nc on Lo oa oc vals Lc ca cn cc ks Lx csx xa xn xc) {w' : World} (k : Below wr.heap.size wr w') : Mm W w' m Ln csn na nc on Lo oa oc vals Lc ca cn cc ks Lx csx xa xn xc :=
  ⟨h.now.below k, h.out.below k, h.cod.below k, h.nxt.below k, h.nn, h.no, h.nc, h.nx, h.a1, h.a2, h.a3, h.a4, h.a5, h.a6, Below.nx h.b k⟩
theorem Mm.alloc (h : Mm W wr m Ln csn na nc on Lo oa oc vals Lc ca cn cc ks Lx csx xa xn xc) (o : Obj) : Mm W (wr.alloc o) m Ln csn na nc on Lo oa oc vals Lc ca cn cc ks Lx csx xa xn xc :=
  h.below ((Below.refl _ _).alloc (Nat.le_refl _) o)
theorem Mm.addCode (h : Mm W wr m Ln csn na nc on Lo oa oc vals Lc ca cn cc ks Lx csx xa xn xc) {w1 : World} {L1 : List Nat} {a1 : Option Addr} {n1 c1 : Nat} {ks1 : List Int} (ow : Ow w1 3 L1 a1 n1 c1 (ints ks1)) (kp : Keeps Lc wr w1) (st : Step wr Lc L1) :
    Mm W w1 m Ln csn na nc on Lo oa oc vals L1 a1 n1 c1 ks1 Lx csx xa xn xc :=
  ⟨h.now.keep kp h.a2, h.out.keep kp h.a4, ow, h.nxt.keep kp h.a6.symm, h.nn, h.no, st.new h.nc h.b.size, h.nx, h.a1, (h.a2.symm.step st h.now.old).symm, h.a3, (h.a4.symm.step st h.out.old).symm, h.a5, h.a6.step st h.nxt.old, kp.below h.b h.nc h.b.size⟩
theorem Mm.addOut (h : Mm W wr m Ln csn na nc on Lo oa oc vals Lc ca cn cc ks Lx csx xa xn xc) {w1 : World} {L1 : List Nat} {a1 : Option Addr} {n1 c1 : Nat} {vs1 : List Value} (ow : Ow w1 45 L1 a1 n1 c1 vs1) (kp : Keeps Lo wr w1) (st : Step wr Lo L1) :
    Mm W w1 m Ln csn na nc n1 L1 a1 c1 vs1 Lc ca cn cc ks Lx csx xa xn xc :=
  ⟨h.now.keep kp h.a1, ow, h.cod.keep kp h.a4.symm, h.nxt.keep kp h.a5.symm, h.nn, st.new h.no h.b.size, h.nc, h.nx, (h.a1.symm.step st h.now.old).symm, h.a2, h.a3, h.a4.step st h.cod.old, h.a5.step st h.nxt.old, h.a6, kp.below h.b h.no h.b.size⟩
theorem Mm.addNext (h : Mm W wr m Ln csn na nc on Lo oa oc vals Lc ca cn cc ks Lx csx xa xn xc) {c : Cell} (hc : Ow wr 3 c.L c.a c.n c.cap (ints c.xs)) (hn : New W.heap.size c.L) (x1 : Apart (fp Ln csn) c.L) (x2 : Apart Lo c.L) (x3 : Apart Lc c.L) (x4 : Apart (fp Lx csx) c.L)
    {w1 : World} {L1 : List Nat} {a1 : Option Addr} {c1 : Nat} (ow : Ow w1 26 L1 a1 (xn + 1) c1 (csx.map Cell.val ++ [c.val])) (kp : Keeps Lx wr w1) (st : Step wr Lx L1) :
    Mm W w1 m Ln csn na nc on Lo oa oc vals Lc ca cn cc ks L1 (csx ++ [c]) a1 (xn + 1) c1 := by
  have part : ∀ {M : List Nat}, Apart M (fp Lx csx) → Apart M c.L → Old wr M → Apart M (fp L1 (csx ++ [c])) := fun {M} h1 h2 h3 i hi hm => by
    rcases mem_fp.1 hm with h4 | ⟨d, hd, h4⟩
    · rcases st i h4 with h5 | h5
      · exact h1 i hi (mem_fp.2 (.inl h5))
      · have := h3 i hi; omega
    · rcases List.mem_append.1 hd with h5 | h5
      · exact h1 i hi (mem_fp.2 (.inr ⟨d, h5, h4⟩))
      · simp at h5; subst h5; exact h2 i hi h4
  have sub : ∀ {M : List Nat}, Apart M (fp Lx csx) → Apart M Lx := fun {M} h1 i hi hm => h1 i hi (mem_fp.2 (.inl hm))
  exact ⟨h.now.keep kp (sub h.a3), h.out.keep kp (sub h.a5), h.cod.keep kp (sub h.a6), h.nxt.push hc x4 ow kp st, h.nn, h.no, h.nc, h.nx.pushD hn st h.b.size, h.a1, h.a2, part h.a3 x1 h.now.old, h.a4, part h.a5 x2 h.out.old, part h.a6 x3 h.cod.old, kp.below h.b (fun i hi => h.nx i (mem_fp.2 (.inl hi))) h.b.size⟩
end
theorem Mm.fresh {W wr : World} {m : Nat} {Ln : List Nat} {csn : List Cell} {na : Option Addr} {nc : Nat} {on : Nat} {Lo : List Nat} {oa : Option Addr} {oc : Nat} {vals : List Value} {Lc : List Nat} {ca : Option Addr} {cn cc : Nat} {ks : List Int} {Lx : List Nat} {csx : List Cell} {xa : Option Addr} {xn xc : Nat}
    (h : Mm W wr m Ln csn na nc on Lo oa oc vals Lc ca cn cc ks Lx csx xa xn xc) (xa' : Option Addr) : Mm W wr m Ln csn na nc on Lo oa oc vals Lc ca cn cc ks [] [] xa' 0 0 :=
  ⟨h.now, h.out, h.cod, OwG.bare _ _ _ _, h.nn, h.no, h.nc, fun _ h => by simp [fp] at h, h.a1, h.a2, fun _ _ h => by simp [fp] at h, h.a4, fun _ _ h => by simp [fp] at h, fun _ _ h => by simp [fp] at h, h.b⟩
/-- The level behind the last: the next one is now. -/
theorem Mm.turn {W wr : World} {m : Nat} {Ln : List Nat} {csn : List Cell} {na : Option Addr} {nc : Nat} {on : Nat} {Lo : List Nat} {oa : Option Addr} {oc : Nat} {vals : List Value} {Lc : List Nat} {ca : Option Addr} {cn cc : Nat} {ks : List Int} {Lx : List Nat} {csx : List Cell} {xa : Option Addr} {xn xc : Nat}
    (h : Mm W wr m Ln csn na nc on Lo oa oc vals Lc ca cn cc ks Lx csx xa xn xc) : Mm W wr xn Lx csx xa xc on Lo oa oc vals Lc ca cn cc ks [] [] none 0 0 :=
  ⟨h.nxt, h.out, h.cod, OwG.bare _ _ _ _, h.nx, h.no, h.nc, fun _ h => by simp [fp] at h, h.a5.symm, h.a6.symm, fun _ _ h => by simp [fp] at h, h.a4, fun _ _ h => by simp [fp] at h, fun _ _ h => by simp [fp] at h, h.b⟩
theorem infoSG : (Try.prog.info? 45).map (fun i => (i.zero, i.size, i.bytes)) = some (some (.slice none 0 0), 1, 24) := by kernel_rfl
theorem stp_pre {a k : Nat} {es : List Ent} {i : Nat} (h : i < es.length) : en (stp a k es) i = en es i := by
  unfold stp; split
  · rfl
  · exact en_app h
theorem inn_pre {a : Nat} (j : Nat) {es : List Ent} {i : Nat} (h : i < es.length) : en (inn a j es) i = en es i := by
  induction j with
  | zero => rfl
  | succ j ih => exact (stp_pre (Nat.lt_of_lt_of_le h (inn_len a j es))).trans ih
theorem srch_pre {n a : Nat} (q : Nat) {i : Nat} (h : i < (srch n a).length) : en (srch n (a + q)) i = en (srch n a) i ∧ i < (srch n (a + q)).length := by
  induction q with
  | zero => exact ⟨rfl, h⟩
  | succ q ih =>
    rw [← Nat.add_assoc]
    simp only [srch]
    split
    · exact ⟨(inn_pre _ ih.2).trans ih.1, Nat.lt_of_lt_of_le ih.2 (inn_len _ _ _)⟩
    · exact ih
def slen : Value → Nat
  | .slice _ n _ => n
  | _ => 0


set_option maxHeartbeats 4000000 in
theorem c_l22Levels (n : Nat) (w : World) (hn : n ≤ 5) :
    Calls Try.prog 29 #[.int .i64 n] w fun e w' => ∃ oa oc vals outs, e = .returned (.slice oa outs.length oc) ∧ outs.length = maxD (dst n) + 1 ∧ (∀ j, cntD (dst n) j = outs.getD j 0) ∧ Lens vals outs ∧ Rd w' oa outs.length oc vals ∧ Below w.heap.size w w' := by
  go_enter Try.func29, Try.ntmps29
  go_wp2_with fail
  refine (c_l04First n _ (by omega)).mono ?_
  rintro e w1 ⟨a1, cap1, rfl, ⟨L1, ow1, n1⟩, b1⟩
  have hk1 := keyF_bd (idn n) 0 ((idn_order n).dig (by omega))
  have hk2 : 8 ^ (idn n).length ≤ 8 ^ 6 := Nat.pow_le_pow_right (by omega) (by rw [idn_len]; omega)
  have bd : 8 ^ n ≤ 262144 := Nat.le_trans (Nat.pow_le_pow_right (by omega) (show n ≤ 6 by omega)) (by decide)
  have BDN := Lib.hid bd
  have ho1 := ow1.old
  have hs1 := b1.size
  have CK := Lib.hid (c_l22Code a1 n cap1 (idn n) ((w1.alloc (.cells #[.slice a1 n cap1] 26)).alloc (.cells #[] 45)) ((ow1.alloc _).alloc _).rd ((idn_order n).dig (by omega)) (by omega))
  go_wp2_with fail
  refine CK.out.mono ?_
  rintro e w2 ⟨rfl, rfl⟩
  go_wp2_with fail
  have og0 : OwG (w1.alloc (.cells #[.slice a1 n cap1] 26)) 26 3 [w1.heap.size] (some ⟨w1.heap.size, 0, none⟩) 1 1 [⟨L1, a1, n, cap1, idn n⟩] :=
    ⟨Ow.new' _ _ _ _ _ rfl rfl (by unfold maxLen; omega), fun c hc => by simp at hc; subst hc; exact ow1.alloc _, fun c hc => by simp at hc; subst hc; intro i hi hm; have := ho1 i hm; simp at hi; omega, List.pairwise_singleton _ _⟩
  have hfp : ∀ i, i ∈ fp [w1.heap.size] [⟨L1, a1, n, cap1, idn n⟩] → w.heap.size ≤ i ∧ i ≤ w1.heap.size := fun i hi => by
    rcases mem_fp.1 hi with h | ⟨c, hc, h⟩
    · simp at h; omega
    · simp at hc; subst hc; have := ho1 i h; have := n1 i h; omega
  have mm0 : Mm w ((w1.alloc (.cells #[.slice a1 n cap1] 26)).alloc (.cells #[] 45)) 1 [w1.heap.size] [⟨L1, a1, n, cap1, idn n⟩] (some ⟨w1.heap.size, 0, none⟩) 1 0 [] (some ⟨w1.heap.size + 1, 0, none⟩) 0 [] [] none 0 0 [] [] [] none 0 0 :=
    ⟨og0.alloc _, Ow.bare _ _ _, Ow.bare _ _ _, OwG.bare _ _ _ _, fun i hi => (hfp i hi).1, fun _ h => by simp at h, fun _ h => by simp at h, fun _ h => by simp [fp] at h, fun _ _ h => by simp at h, fun _ _ h => by simp at h, fun _ _ h => by simp [fp] at h, Apart.nil _, Apart.nil _, Apart.nil _, (b1.alloc hs1 _).alloc (by simp; omega) _⟩
  have mm1 := mm0.addCode (L1 := [w1.heap.size + 1 + 1]) (a1 := some ⟨w1.heap.size + 1 + 1, 0, none⟩) (n1 := 1) (c1 := 1) (ks1 := codesE (srch n 0)) (w1 := (((w1.alloc (.cells #[.slice a1 n cap1] 26)).alloc (.cells #[] 45)).alloc (.cells #[.int .i64 (keyF 0 (idn n))] 3))) (by
    have h := Ow.new' ((w1.alloc (.cells #[.slice a1 n cap1] 26)).alloc (.cells #[] 45)) 3 #[.int .i64 (keyF 0 (idn n))] 1 (ints (codesE (srch n 0))) rfl rfl (by unfold maxLen; omega)
    simpa using h) (Keeps.alloc _ _ _) (fun i hi => .inr (by simp at hi; simp; omega))
  clear CK mm0 og0 hk1 hk2 bd ow1
  go_loopw [3, 4, 5] (fun nv ov cv wr => ∃ (a m : Nat) (outs : List Nat) (Ln : List Nat) (csn : List Cell) (na : Option Addr) (nc : Nat) (Lo : List Nat) (oa : Option Addr) (oc : Nat) (vals : List Value) (Lc : List Nat) (ca : Option Addr) (cn cc : Nat) (Lx : List Nat) (csx : List Cell) (xa : Option Addr) (xn xc : Nat), nv = .slice na m nc ∧ ov = .slice oa outs.length oc ∧ cv = .slice ca cn cc ∧ cn = (srch n a).length ∧ Lv n (srch n a) outs a m 0 0 ∧ cn = a + m ∧ csn.map (·.xs) = ((srch n a).map Prod.fst).drop a ∧ Lens vals outs ∧ Mm w wr m Ln csn na nc outs.length Lo oa oc vals Lc ca cn cc (codesE (srch n a)) Lx csx xa xn xc) (fun nv _ cv _ => 8 ^ n + 1 - (slen cv - slen nv))
  case atStart => exact ⟨0, 1, [], _, _, _, _, _, _, _, _, _, _, _, _, _, _, _, _, _, rfl, rfl, rfl, rfl, Lv.start n, rfl, rfl, fun j hj => by simp at hj, mm1⟩
  case round =>
    clear mm1
    obtain ⟨a, m, outs, Ln, csn, na, nc, Lo, oa, oc, vals, Lc, ca, cn, cc, Lx, csx, xa, xn, xc, rfl, rfl, rfl, hcn, lv, rfl, hex, hlens, mm⟩ := hrel
    have hbd := lv.bf.bound (by omega)
    rw [← hcn] at hbd
    have hlb := BDN.out
    have hvl := mm.out.len
    have holen : outs.length ≤ a := by
      rcases Nat.lt_or_ge 0 m with h | h
      · have h1 := lv.mid a (by omega) (by omega)
        have h2 := en_le lv.bf a (by rw [← hcn]; omega)
        omega
      · have hm0 : m = 0 := by omega
        subst hm0
        have h1 := (lv.done (by omega)).1
        have h2 := en_le lv.bf ((srch n a).length - 1) (by have := lv.bf.pos; omega)
        have h3 := lv.bf.pos
        unfold maxD at h1
        omega
    have LV := Lib.hid lv
    have HEX := Lib.hid hex
    have HCN := Lib.hid hcn
    have HLENS := Lib.hid hlens
    clear lv hex hcn hlens
    by_cases hm : 0 < m
    · have mm2 := mm.alloc (.cells #[.slice na m nc] 45)
      go_wp2_with ((with_reducible show wpList _ _ _ (⟨some 26, _, _, _, _, _⟩ :: _) _ _); refine wpList_app _ rfl _ _ 41 rfl 45 Try.underlying41 infoSG rfl rfl rfl mm2.out (Rd.one' _ _ _ _ (by simp)) (one_slice _ _ _) (by omega) (by unfold maxLen; omega) ?_; intro a3 cap3 L3 w3 ow3 kp3 st3)
      have mm3 := (mm2.addOut ow3 kp3 st3).alloc (.cells #[] 26)
      clear ow3 kp3 st3 mm2 mm
      have mm4 := mm3.fresh (some ⟨w3.heap.size, 0, none⟩)
      have hnl : (srch n a).length - (a + m) = 0 := by rw [← HCN.out]; omega
      have HNL := Lib.hid hnl
      have holen2 : outs.length + 1 ≤ 262144 := by omega
      have hmb : m ≤ 262144 := by omega
      clear mm3 hnl hvl
      go_loopw [5, 6, 30] (fun cv xv iv wr => ∃ (q : Nat) (Lc : List Nat) (ca : Option Addr) (cn cc : Nat) (Lx : List Nat) (csx : List Cell) (xa : Option Addr) (xn xc : Nat), q ≤ m ∧ iv = .int .i64 q ∧ cv = .slice ca cn cc ∧ xv = .slice xa xn xc ∧ cn = (srch n (a + q)).length ∧ Lv n (srch n (a + q)) outs a m q 0 ∧ csx.map (·.xs) = ((srch n (a + q)).map Prod.fst).drop (a + m) ∧ Mm w wr m Ln csn na nc (outs.length + 1) L3 a3 cap3 (vals ++ [.slice na m nc]) Lc ca cn cc (codesE (srch n (a + q))) Lx csx xa xn xc) (fun _ _ iv _ => m - (intOf iv).toNat)
      case atStart => exact ⟨0, Lc, ca, a + m, cc, [], [], _, _, _, by omega, rfl, rfl, rfl, HCN.out, LV.out, by rw [List.drop_of_length_le (by rw [List.length_map]; show (srch n a).length ≤ _; rw [← HCN.out]; exact Nat.le_refl _)]; rfl, mm4⟩
      case round =>
        clear mm4 hbd
        obtain ⟨q, Lc, ca, cn, cc, Lx, csx, xa, xn, xc, hqm, rfl, rfl, rfl, hcn, lv, hex2, mm⟩ := hrel
        have hcl : csn.length = m := mm.now.len
        have HCL := Lib.hid hcl
        have LV2 := Lib.hid lv
        have HCN2 := Lib.hid hcn
        have HEX2 := Lib.hid hex2
        clear hcl lv hcn hex2
        by_cases hq : q < m
        · obtain ⟨⟨rL, ra, rn, rc, rx⟩, hcj⟩ : ∃ c, csn[q]? = some c := ⟨_, List.getElem?_eq_getElem (by rw [HCL.out]; exact hq)⟩
          have hrx : rx = (en (srch n a) (a + q)).1 := by
            have h1 : (csn.map (·.xs))[q]? = some rx := by rw [List.getElem?_map, hcj]; rfl
            rw [HEX.out, List.getElem?_drop, List.getElem?_map, en_some (by rw [← HCN.out]; omega)] at h1
            exact (Option.some.inj h1).symm
          have hpre := srch_pre (n := n) (a := a) q (i := a + q) (by rw [← HCN.out]; omega)
          have hrx2 : rx = (en (srch n (a + q)) (a + q)).1 := by rw [hrx, hpre.1]
          have HRX := Lib.hid hrx2
          have HPL := Lib.hid hpre.2
          have hrow := mm.now.cells _ (List.mem_of_getElem? hcj)
          have hordx : Order rx n := by rw [hrx2]; exact LV2.out.bf.ord _ hpre.2
          obtain rfl : rn = n := by
            have h1 : rx.length = rn := hrow.lens
            rw [← h1]; exact hordx.1
          obtain ⟨g, rfl, rfl, hgl, hgc, hgf⟩ := mm.now.addr (by omega)
          have hcc := hgc q _ hcj
          have HCJ := Lib.hid hcj
          simp only at hcc
          clear hrx hrx2 hpre hgc hgf hcj hrow
          go_wp2_with fail
          go_loopw [5, 6, 9] (fun cv xv kv wr => ∃ (k : Nat) (Lc : List Nat) (ca : Option Addr) (cn cc : Nat) (Lx : List Nat) (csx : List Cell) (xa : Option Addr) (xn xc : Nat), 2 ≤ k ∧ (k = 2 ∨ k ≤ rn + 1) ∧ kv = .int .i64 k ∧ cv = .slice ca cn cc ∧ xv = .slice xa xn xc ∧ cn = (inn (a + q) (k - 2) (srch rn (a + q))).length ∧ csx.map (·.xs) = ((inn (a + q) (k - 2) (srch rn (a + q))).map Prod.fst).drop (a + m) ∧ Mm w wr m [g] csn (some ⟨g, 0, none⟩) nc (outs.length + 1) L3 a3 cap3 (vals ++ [.slice (some ⟨g, 0, none⟩) m nc]) Lc ca cn cc (codesE (inn (a + q) (k - 2) (srch rn (a + q)))) Lx csx xa xn xc) (fun _ _ kv _ => rn + 2 - (intOf kv).toNat)
          case atStart => exact ⟨2, Lc, ca, cn, cc, Lx, csx, xa, xn, xc, by omega, by omega, rfl, rfl, rfl, HCN2.out, HEX2.out, mm⟩
          case round =>
            clear mm HCN2 HEX2 hcc
            obtain ⟨k, Lc, ca, cn, cc, Lx, csx, xa, xn, xc, hk2, hkn, rfl, rfl, rfl, hcn, hex2, mm⟩ := hrel
            by_cases hk : k ≤ rn
            · have lvj := LV2.out.inn hq (k - 2) (by omega)
              have hal := Nat.lt_of_lt_of_le HPL.out (inn_len (a + q) (k - 2) (srch rn (a + q)))
              have hsucc : inn (a + q) (k + 1 - 2) (srch rn (a + q)) = stp (a + q) k (inn (a + q) (k - 2) (srch rn (a + q))) := by
                obtain ⟨j, rfl⟩ : ∃ j, k = j + 2 := ⟨k - 2, by omega⟩
                rfl
              have hcx : rx = (en (inn (a + q) (k - 2) (srch rn (a + q))) (a + q)).1 := by rw [inn_pre (k - 2) HPL.out, ← HRX.out]
              have HS := Lib.hid hsucc
              have HCX := Lib.hid hcx
              clear hsucc hcx
              generalize inn (a + q) (k - 2) (srch rn (a + q)) = es at *
              have hbd := lvj.bf.bound (by omega)
              have hlen := lvj.len
              rw [← hcn] at hbd hlen
              have hxn : xn ≤ 262144 := by
                have h1 := congrArg List.length hex2
                rw [List.length_map, List.length_drop, List.length_map, mm.nxt.len, ← hcn] at h1
                omega
              have hdig := hordx.dig (by omega)
              have hoy := hordx.flip k hk
              have hdy := hoy.dig (by omega)
              have hky := keyF_bd _ 0 hdy
              rw [hoy.1] at hky
              obtain ⟨qq, hqq⟩ : ∃ q : Nat, keyF 0 (flipL rx k) = q := ⟨_, rfl⟩
              rw [hqq] at hky
              have hrow := mm.now.cells _ (List.mem_of_getElem? HCJ.out)
              simp only at hrow
              have CF := Lib.hid (c_l22Flip ra rn rc k rx wr hrow.rd (by omega) (by omega) hk)
              have HLN := Lib.hid hcn
              have HEX3 := Lib.hid hex2
              have HQ := Lib.hid hqq
              have LVJ := Lib.hid lvj
              clear hcn hex2 hqq lvj hrow hal
              go_wp2_with fail
              refine CF.out.mono ?_
              rintro e w5 ⟨a5, cap5, rfl, _, ⟨L5, ow5, n5⟩, b5⟩
              have mm5 := mm.below b5
              have hsw := mm.b.size
              have hs5 := b5.size
              have K1 := c_l22Code a5 rn cap5 (flipL rx k) w5 ow5.rd hdy (by omega)
              rw [HQ.out] at K1
              have K1 := Lib.hid K1
              have ap : ∀ {M : List Nat}, Old wr M → Apart M L5 := fun {M} h i hi hm => by have := h i hi; have := n5 i hm; omega
              have x1 := ap mm.now.old
              have x2 := ap mm.out.old
              have x3 := ap mm.cod.old
              have x4 := ap mm.nxt.old
              clear mm CF
              cases hh : hasE es (flipL rx k)
              · have hno := LVJ.out.bf.codeNo (by omega) hoy hh
                rw [HQ.out, ← HLN.out] at hno
                have K2 := Lib.hid (c_l22HasNo ca cn cc _ (qq : Int) w5 mm5.cod.rd hno)
                have HH := Lib.hid hh
                clear hh hno
                go_wp2_with fail
                refine K1.out.mono ?_
                rintro e w' ⟨rfl, rfl⟩
                go_wp2_with fail
                refine K2.out.mono ?_
                rintro e w' ⟨rfl, rfl⟩
                go_wp2_with fail
                refine K1.out.mono ?_
                rintro e w' ⟨rfl, rfl⟩
                have mm6 := mm5.alloc (.cells #[.int .i64 (qq : Int)] 3)
                have ow6 := ow5.alloc (.cells #[.int .i64 (qq : Int)] 3)
                go_wp2_with (first | ((with_reducible show wpList _ _ _ (⟨some 51, _, _, _, _, _⟩ :: _) _ _); refine wpList_app _ rfl _ _ 26 rfl 3 Try.underlying26 infoInt rfl rfl rfl mm6.cod (Rd.one _ _ _) (one_int _) (by omega) (by unfold maxLen; omega) ?_; intro a7 cap7 L7 w7 ow7 kp7 st7; rw [ints_snoc] at ow7; have mm7 := (mm6.addCode ow7 kp7 st7).alloc (.cells #[.slice a5 rn cap5] 26); have ow8 := (ow6.keep kp7 x3.symm).alloc (.cells #[.slice a5 rn cap5] 26); have y3 : Apart L7 L5 := x3.step st7 ow6.old; clear ow7 kp7 st7 mm6 mm5) | ((with_reducible show wpList _ _ _ (⟨some 55, _, _, _, _, _⟩ :: _) _ _); refine wpList_app _ rfl _ _ 45 rfl 26 Try.underlying45 infoSlD rfl rfl rfl mm7.nxt.row (Rd.one' _ _ _ _ (by simp)) (one_slice _ _ _) (by omega) (by unfold maxLen; omega) ?_; intro a9 cap9 L9 w9 ow9 kp9 st9))
                have mm9 := mm7.addNext (c := ⟨L5, a5, rn, cap5, flipL rx k⟩) ow8 (n5.mono hsw) x1 x2 y3 x4 ow9 kp9 st9
                have hst : stp (a + q) k es = es ++ [(flipL rx k, (en es (a + q)).2 + 1)] := by
                  unfold stp; rw [← HCX.out, HH.out]; rfl
                have hcd : codesE (stp (a + q) k es) = codesE es ++ [(qq : Int)] := by
                  rw [hst]; unfold codesE; rw [List.map_append, ← HQ.out]; rfl
                have HST := Lib.hid hst
                have HCD := Lib.hid hcd
                clear ow9 kp9 st9 mm7 hst hcd
                go_roundw
                case rel => exact ⟨k + 1, L7, a7, cn + 1, cap7, L9, csx ++ [⟨L5, a5, rn, cap5, flipL rx k⟩], a9, xn + 1, cap9, by omega, by omega, by go_num, rfl, rfl, by rw [HS.out, HST.out, HLN.out]; simp, by rw [HS.out, HST.out, List.map_append, List.map_append (f := Prod.fst), HEX3.out, List.drop_append_of_le_length (by rw [List.length_map, ← HLN.out]; exact hlen)]; rfl, by rw [HS.out, HCD.out]; exact mm9⟩
                case measure => simp [intOf]; omega
              · obtain ⟨p, hp, hpx, hu⟩ := Bf.codeYes (n := rn) hh
                rw [HQ.out] at hpx hu
                rw [← HLN.out] at hp
                have K2 := Lib.hid (c_l22HasYes ca cn cc p _ (qq : Int) w5 mm5.cod.rd hp hpx hu)
                have HH := Lib.hid hh
                clear hh hpx hu
                go_wp2_with fail
                refine K1.out.mono ?_
                rintro e w' ⟨rfl, rfl⟩
                go_wp2_with fail
                refine K2.out.mono ?_
                rintro e w' ⟨rfl, rfl⟩
                go_wp2_with fail
                have hst : stp (a + q) k es = es := by
                  unfold stp; rw [← HCX.out, HH.out]; rfl
                have HST := Lib.hid hst
                clear hst
                go_roundw
                case rel => exact ⟨k + 1, Lc, ca, cn, cc, Lx, csx, xa, xn, xc, by omega, by omega, by go_num, rfl, rfl, by rw [HS.out, HST.out]; exact HLN.out, by rw [HS.out, HST.out]; exact HEX3.out, by rw [HS.out, HST.out]; exact mm5⟩
                case measure => simp [intOf]; omega
            · have hs : srch rn (a + (q + 1)) = inn (a + q) (k - 2) (srch rn (a + q)) := by
                rw [show a + (q + 1) = (a + q) + 1 by omega]
                simp only [srch]
                rw [if_pos HPL.out, show rn - 1 = k - 2 by omega]
              have HS := Lib.hid hs
              have HN := Lib.hid (LV2.out.round hq)
              have HLN := Lib.hid hcn
              have HEX3 := Lib.hid hex2
              clear hs hcn hex2
              go_wp2_with fail
              go_roundw
              case rel => exact ⟨q + 1, Lc, ca, cn, cc, Lx, csx, xa, xn, xc, by omega, by go_num, rfl, rfl, by rw [HS.out]; exact HLN.out, HN.out, by rw [HS.out]; exact HEX3.out, by rw [HS.out]; exact mm⟩
              case measure => simp [intOf]; omega
        · obtain rfl : q = m := by omega
          have hxn : xn = (srch n (a + q)).length - (a + q) := by
            have h1 := congrArg List.length HEX2.out
            rw [List.length_map, List.length_drop, List.length_map, mm.nxt.len] at h1
            exact h1
          have hlen := LV2.out.len
          have hbd := LV2.out.bf.bound (by omega)
          have HXN := Lib.hid hxn
          have HN := Lib.hid (LV2.out.next hm)
          rw [← HCN2.out] at hxn hlen hbd
          have mm5 := mm.turn
          have HL2 := Lib.hid (Lens.snoc HLENS.out (by have h := mm.out.len; simp at h; exact h) na q nc)
          clear mm
          go_wp2_with fail
          go_roundw
          case rel => exact ⟨a + q, xn, outs ++ [q], Lx, csx, xa, xc, L3, a3, cap3, _, Lc, ca, cn, cc, [], [], none, 0, 0, rfl, by simp, rfl, HCN2.out, by rw [HXN.out]; exact HN.out, by omega, HEX2.out, HL2.out, by rw [List.length_append]; exact mm5⟩
          case measure => simp [slen]; omega
    · obtain rfl : m = 0 := by omega
      obtain ⟨h1, h2⟩ := LV.out.done (by rw [← HCN.out]; rfl)
      have HD := Lib.hid (dst_of (by omega) LV.out.bf (by rw [← HCN.out]; rfl))
      have H1 := Lib.hid h1
      have H2 := Lib.hid h2
      clear h1 h2
      go_wp2_with fail
      go_ret
      exact ⟨oa, oc, vals, outs, rfl, by rw [← HD.out]; exact H1.out, by rw [← HD.out]; exact H2.out, HLENS.out, mm.out.rd, mm.b⟩



theorem cs_MostFlips (x : Int) (w : World) : Calls Try.prog 8 #[.int .i64 x] w fun e w' => e = .returned (.int .i64 (mfV x)) ∧ Below w.heap.size w w' := by
  by_cases hx : 0 ≤ x ∧ x ≤ 5
  case neg =>
    have HV := Lib.hid (mfV_no hx)
    go_enter Try.func8, Try.ntmps8
    go_wp2_with (go_at_call 28; refine (c_in false _ _ _ _ (by simp; omega)).mono ?_; rintro e w' ⟨rfl, rfl⟩)
    go_ret
    exact ⟨by rw [HV.out]; rfl, Below.refl _ _⟩
  obtain ⟨n, rfl⟩ : ∃ n : Nat, x = n := ⟨x.toNat, by omega⟩
  have hn : n ≤ 5 := by omega
  have HV := Lib.hid (mfV_yes hn)
  go_enter Try.func8, Try.ntmps8
  go_wp2_with (go_at_call 28; refine (c_in true _ _ _ _ (by simp; omega)).mono ?_; rintro e w' ⟨rfl, rfl⟩)
  refine (c_l22Levels n _ hn).mono ?_
  rintro e w1 ⟨oa, oc, vals, outs, rfl, h1, h2, h3, h4, b1⟩
  have h5 := en_le (dst_ok n (by omega)) ((dst n).length - 1) (by have := (dst_ok n (by omega)).pos; omega)
  have h6 := (dst_ok n (by omega)).bound (by omega)
  have h7 : 8 ^ n ≤ 262144 := Nat.le_trans (Nat.pow_le_pow_right (by omega) (show n ≤ 6 by omega)) (by decide)
  have h8 : maxD (dst n) ≤ 262144 := by unfold maxD; omega
  have H1 := Lib.hid h1
  generalize outs.length = ol at *
  have hol : ol ≤ 262145 := by omega
  clear h1
  go_wp2_with fail
  go_ret
  exact ⟨by rw [HV.out]; exact ret_int (by have := H1.out; omega), b1⟩



theorem cs_CountAtDistance (x f : Int) (w : World) : Calls Try.prog 10 #[.int .i64 x, .int .i64 f] w fun e w' => e = .returned (.int .i64 (cdV x f)) ∧ Below w.heap.size w w' := by
  by_cases hx : 0 ≤ x ∧ x ≤ 5
  case neg =>
    have HV := Lib.hid (cdV_no (x := x) (f := f) (fun h => hx h.1))
    go_enter Try.func10, Try.ntmps10
    go_wp2_with (go_at_call 28; refine (c_in false _ _ _ _ (by simp; omega)).mono ?_; rintro e w' ⟨rfl, rfl⟩)
    go_ret
    exact ⟨by rw [HV.out]; rfl, Below.refl _ _⟩
  by_cases hf : 0 ≤ f ∧ f ≤ 10
  case neg =>
    have HV := Lib.hid (cdV_no (x := x) (f := f) (fun h => hf h.2))
    go_enter Try.func10, Try.ntmps10
    go_wp2_with fail
    refine (c_in true x 0 5 _ (by simp; omega)).mono ?_
    rintro e w' ⟨rfl, rfl⟩
    go_wp2_with fail
    refine (c_in false f 0 10 _ (by simp; omega)).mono ?_
    rintro e w' ⟨rfl, rfl⟩
    go_wp2_with fail
    go_ret
    exact ⟨by rw [HV.out]; rfl, Below.refl _ _⟩
  obtain ⟨n, rfl⟩ : ∃ n : Nat, x = n := ⟨x.toNat, by omega⟩
  obtain ⟨g, rfl⟩ : ∃ g : Nat, f = g := ⟨f.toNat, by omega⟩
  have hn : n ≤ 5 := by omega
  have hg : g ≤ 10 := by omega
  have HV := Lib.hid (cdV_yes hn hg)
  go_enter Try.func10, Try.ntmps10
  go_wp2_with fail
  refine (c_in true (n : Int) 0 5 _ (by simp; omega)).mono ?_
  rintro e w' ⟨rfl, rfl⟩
  go_wp2_with fail
  refine (c_in true (g : Int) 0 10 _ (by simp; omega)).mono ?_
  rintro e w' ⟨rfl, rfl⟩
  go_wp2_with fail
  refine (c_l22Levels n _ hn).mono ?_
  rintro e w1 ⟨oa, oc, vals, outs, rfl, h1, h2, h3, h4, b1⟩
  have H2 := Lib.hid (h2 g)
  have hmx := h4.max
  have hle := h4.le
  unfold maxLen at hmx
  clear h1 h2
  by_cases hlt : g < outs.length
  · obtain ⟨ra, rc, hv⟩ := h3 g hlt
    obtain ⟨b, off, rfl, _, hc⟩ := h4.at' (by omega)
    have c1 := (hc g hlt).trans hv
    clear hc hv h3 h4
    generalize outs.getD g 0 = q at *
    generalize outs.length = ol at *
    go_wp2_with fail
    go_ret
    exact ⟨by rw [HV.out, H2.out]; rfl, b1⟩
  · have h5 : outs.getD g 0 = 0 := by rw [List.getD, List.getElem?_eq_none (by omega)]; rfl
    have H5 := Lib.hid h5
    clear h5 h3 h4
    generalize outs.length = ol at *
    go_wp2_with fail
    go_ret
    exact ⟨by rw [HV.out, H2.out, H5.out]; rfl, b1⟩


end Go.Proofs.Ytfnkddplmpcbgaa

/- The program's search for distances by flips: a map from an order's number to its distance. No condition but a length. -/
import Derived.Test.YtfnkddplmpcbgaaDistK
import Derived.Test.YtfnkddplmpcbgaaFlip
import Derived.Test.YtfnkddplmpcbgaaGrid
import Derived.Maps.OwnSet
import Derived.Maps.OwnOps
namespace Go.Proofs.Ytfnkddplmpcbgaa
open Go.RowKit Go.Maps
set_option linter.unusedVariables false
set_option linter.unusedSimpArgs false

theorem infoSlD : (Try.prog.info? 26).map (fun i => (i.zero, i.size, i.bytes)) = some (some (.slice none 0 0), 1, 24) := by kernel_rfl
theorem lawI : Keyed Try.prog 3 := int_keyed Try.underlying3
theorem zeroI (w : World) : (zeroValue 3).run Try.prog w = .ok (.int .i64 0) w := by kernel_rfl
theorem keyI {k : Int} (h1 : -9223372036854775808 ≤ k) (h2 : k ≤ 9223372036854775807) : keyOf Try.prog 3 (.int .i64 k) = some (.int .i64 k) := keyOf_int_mk Try.underlying3 (WalkArith.wf_i64 (by omega))

theorem snocInd {α : Type} {motive : List α → Prop} (nil : motive []) (snoc : ∀ l a, motive l → motive (l ++ [a])) (l : List α) : motive l := by
  rw [← List.reverse_reverse l]
  induction l.reverse with
  | nil => exact nil
  | cons a l ih => rw [List.reverse_cons]; exact snoc _ _ ih
/-- What the map reads as. -/
def mapD (es : List Ent) : DataW Unit := es.foldl (fun D e => D.put (.int .i64 (keyF 1 e.1)) (.lit (.int .i64 e.2))) (.map [])
theorem mapD_snoc (es : List Ent) (e : Ent) : mapD (es ++ [e]) = (mapD es).put (.int .i64 (keyF 1 e.1)) (.lit (.int .i64 e.2)) := by simp [mapD, List.foldl_append]
theorem mapD_isMap (es : List Ent) : IsMap (mapD es) := by
  induction es using snocInd with
  | nil => exact isMap_empty
  | snoc es e ih => rw [mapD_snoc]; exact ih.put _ _
theorem has_mapD (es : List Ent) (k : Int) : has (mapD es) (.int .i64 k) = true ↔ ∃ e, e ∈ es ∧ (keyF 1 e.1 : Int) = k := by
  induction es using snocInd with
  | nil => constructor
           · intro h; cases h
           · rintro ⟨e, he, _⟩; cases he
  | snoc es e ih =>
    rw [mapD_snoc]
    by_cases h : (keyF 1 e.1 : Int) = k
    · rw [← h, has_put_same (mapD_isMap es) (show WideAt.IsKeyLit (.int .i64 _) from trivial)]
      exact ⟨fun _ => ⟨e, by simp, rfl⟩, fun _ => rfl⟩
    · rw [has_put_other (by intro h2; simp at h2; omega), ih]
      constructor
      · rintro ⟨x, hx, hk⟩; exact ⟨x, by simp [hx], hk⟩
      · rintro ⟨x, hx, hk⟩
        rcases List.mem_append.1 hx with h2 | h2
        · exact ⟨x, h2, hk⟩
        · simp at h2; subst h2; exact absurd hk h
theorem atKey_mapD (es : List Ent) (hd : es.Pairwise fun e f => keyF 1 e.1 ≠ keyF 1 f.1) (e : Ent) (he : e ∈ es) (z : DataW Unit) : (mapD es).atKey (.int .i64 (keyF 1 e.1)) z = .lit (.int .i64 e.2) := by
  induction es using snocInd with
  | nil => cases he
  | snoc es f ih =>
    rw [mapD_snoc]
    have hp := List.pairwise_append.1 hd
    rcases List.mem_append.1 he with h2 | h2
    · rw [atKey_put_other (by have := hp.2.2 e h2 f (by simp); intro h3; simp at h3; omega)]
      exact ih hp.1 h2
    · simp at h2; subst h2
      exact atKey_put_same (mapD_isMap es) (show WideAt.IsKeyLit (.int .i64 _) from trivial) _ _

/-- Numbers part as orders do. -/
theorem Bf.key {n : Nat} {es : List Ent} {a j : Nat} (h : Bf n es a j) (hn : n ≤ 8) {x : List Int} (ho : Order x n) (hh : has (mapD es) (.int .i64 (keyF 1 x)) = true) : hasE es x = true := by
  obtain ⟨e, he, hk⟩ := (has_mapD es _).1 hh
  obtain ⟨i, hi, rfl⟩ := List.mem_iff_getElem.1 he
  rw [← en_eq hi] at hk
  have hoi := h.ord i hi
  exact hasE_iff.2 ⟨i, hi, (keyF_inj _ _ 1 1 (by rw [hoi.1, ho.1]) (hoi.dig hn) (ho.dig hn) (by omega)).2⟩
theorem Bf.has {n : Nat} {es : List Ent} {a j : Nat} (h : Bf n es a j) (hn : n ≤ 8) {x : List Int} (ho : Order x n) : Maps.has (mapD es) (.int .i64 (keyF 1 x)) = hasE es x := by
  cases hb : hasE es x
  · cases hh : Maps.has (mapD es) (.int .i64 (keyF 1 x))
    · rfl
    · have := h.key hn ho hh; rw [hb] at this; cases this
  · obtain ⟨i, hi, hx⟩ := hasE_iff.1 hb
    exact (has_mapD es _).2 ⟨en es i, by rw [en_eq hi]; exact List.getElem_mem hi, by rw [hx]⟩
theorem Bf.pw {n : Nat} {es : List Ent} {a j : Nat} (h : Bf n es a j) (hn : n ≤ 8) : es.Pairwise fun e f => keyF 1 e.1 ≠ keyF 1 f.1 := by
  rw [List.pairwise_iff_getElem]
  intro i i' h1 h2 hlt e
  have o1 := h.ord i h1
  have o2 := h.ord i' h2
  have hne := h.nd i i' hlt h2
  rw [en_eq h1] at o1 hne
  rw [en_eq h2] at o2 hne
  exact hne (keyF_inj _ _ 1 1 (by rw [o1.1, o2.1]) (o1.dig hn) (o2.dig hn) e).2
theorem Bf.val {n : Nat} {es : List Ent} {a j : Nat} (h : Bf n es a j) (hn : n ≤ 8) {i : Nat} (hi : i < es.length) (z : DataW Unit) : (mapD es).atKey (.int .i64 (keyF 1 (en es i).1)) z = .lit (.int .i64 (en es i).2) :=
  atKey_mapD es (h.pw hn) _ (by rw [en_eq hi]; exact List.getElem_mem hi) z

abbrev OM (w : World) (B : Nat) (es : List Ent) : Prop := w.ownsMap Try.prog 3 (plainElem (H := Unit) Try.prog 3) B es.length (mapD es)
theorem ownsMap_keep {w w' : World} {k : TypeId} {R : Value → Option (DataW Unit × List MemPlace)} {b n : Nat} {D : DataW Unit} {L : List Nat} (h : w.ownsMap Try.prog k R b n D) (kp : Keeps L w w') (hb : b ∉ L) : w'.ownsMap Try.prog k R b n D := by
  obtain ⟨es, clock, h1, h2⟩ := h
  exact ⟨es, clock, (kp.block b (Array.getElem?_eq_some_iff.1 h1).1 hb).trans h1, h2⟩
theorem ownsMap_below {w w' : World} {k : TypeId} {R : Value → Option (DataW Unit × List MemPlace)} {b n : Nat} {D : DataW Unit} (h : w.ownsMap Try.prog k R b n D) (kp : Below w.heap.size w w') : w'.ownsMap Try.prog k R b n D := ownsMap_keep h (Keeps.of_below kp []) (by simp)
theorem Keeps.of_grown {w w' : World} {b : Nat} (h : w.grownBy w' (some b)) : Keeps [b] w w' := ⟨h.os, h.tape, h.output, h.size, fun k hk hn => h.block k hk (fun e => hn (by cases e; simp))⟩

theorem wrap_small {d : Nat} (h : d ≤ 1099511627776) : IntKind.i64.wrap ((d : Int) + 1) = ((d + 1 : Nat) : Int) := by
  simp [IntKind.wrap, IntKind.bits, IntKind.signed]; omega
/-- 'insert' (a composite literal's entry) at the operation. -/
theorem wpList_insert_own {H : Type} {P : Program} (w : World) {ops : Array Oper} {rest : List Oper} {o : Oper} {a : Act} {Q : Exit → Act → World → Prop}
    (hg : o.guard = none) (m x v : Operand) (t : TypeId) (hop : o.op = Op.insert t m x v)
    (k e : TypeId) (K : Keyed P k) (ht : P.underlying t = some (.map k e)) (R : Value → Option (DataW H × List MemPlace)) (b n : Nat) (D : DataW H)
    (hm : a.eval m = .map (some b)) (hown : w.ownsMap P k R b n D) (hn : n < maxLen) (key val : Value) (kl : Lit) (hx : a.eval x = key) (hv : a.eval v = val) (hkey : keyOf P k key = some kl)
    (d : DataW H) (ps : List MemPlace) (hval : R val = some (d, ps))
    (hK : ∀ w', w'.ownsMap P k R b (n + 1) (D.put kl d) → w.grownBy w' (some b) → wpList P ops Q rest (a.put o.dst undef) w') :
    wpList P ops Q (o :: rest) a w := by
  refine wpList_plain hg fun K' hK' => ?_
  obtain ⟨w', hrun, r1, r2⟩ := hown.update K ht hn hkey hval
  unfold Oper.wp
  simp [execOp, hop, hm, hx, hv, hrun, Result.andThen]
  exact hK' _ _ (hK w' r1 r2)
theorem wpList_lookupB {H : Type} {P : Program} (w : World) {ops : Array Oper} {rest : List Oper} {o : Oper} {a : Act} {Q : Exit → Act → World → Prop} (hg : o.guard = none) (m x : Operand) (t : TypeId) (hop : o.op = Op.lookup t m x true)
    (k e : TypeId) (q : IntKind) (K : Keyed P k) (ht : P.underlying t = some (.map k e)) (he : P.underlying e = some (.int q)) (hz : (zeroValue e).run P w = .ok (.int q 0) w) (b n : Nat) (D : DataW H) (hs : Bool)
    (hm : a.eval m = .map (some b)) (hown : w.ownsMap P k (plainElem P e) b n D) (key : Value) (kl : Lit) (hx : a.eval x = key) (hkey : keyOf P k key = some kl) (hb : Maps.has D kl = hs)
    (hK : ∀ c : Int, wpList P ops Q rest (a.put o.dst (.tuple #[.int q c, .bool hs])) w) :
    wpList P ops Q (o :: rest) a w := by
  subst hb
  exact wpList_lookup_own_ok_int w hg m x t hop k e q K ht he hz b n D hm hown key kl hx hkey (fun c _ _ => hK c)

theorem New.pushD {B : Nat} {w : World} {L L' : List Nat} {cs : List Cell} {c : Cell} (h : New B (fp L cs)) (hc : New B c.L) (s : Step w L L') (hB : B ≤ w.heap.size) : New B (fp L' (cs ++ [c])) := fun i hi => by
  rcases mem_fp.1 hi with h1 | ⟨d, hd, h1⟩
  · rcases s i h1 with h2 | h2
    · exact h i (mem_fp.2 (.inl h2))
    · omega
  · rcases List.mem_append.1 hd with h2 | h2
    · exact h i (mem_fp.2 (.inr ⟨d, h2, h1⟩))
    · simp at h2; subst h2; exact hc i h1

set_option maxHeartbeats 4000000 in
theorem c_distances (n : Nat) (w : World) (hn : n ≤ 6) :
    Calls Try.prog 30 #[.int .i64 n] w fun e w' => ∃ B, e = .returned (.map (some B)) ∧ w.heap.size ≤ B ∧ OM w' B (dst n) ∧ Below w.heap.size w w' := by
  have hmm := @run_makeMap Try.prog
  go_enter Try.func30, Try.ntmps30
  go_wp2_with fail
  refine (c_wires n _ (by omega)).mono ?_
  rintro e w1 ⟨a1, cap1, rfl, ⟨L1, ow1, n1⟩, b1⟩
  have hk1 := keyF_bd (idn n) 1 ((idn_order n).dig (by omega))
  have hk2 : 8 ^ (idn n).length ≤ 8 ^ 6 := Nat.pow_le_pow_right (by omega) (by rw [idn_len]; exact hn)
  have CK := Lib.hid (c_key a1 n cap1 (idn n) (w1.alloc (.map #[] 0)) (ow1.alloc _).rd ((idn_order n).dig (by omega)) (by omega))
  generalize hkk : keyF 1 (idn n) = kk at *
  have HKK := Lib.hid hkk
  clear hkk
  go_wp2_with fail
  refine CK.out.mono ?_
  rintro e w2 ⟨rfl, rfl⟩
  go_wp2_with ((with_reducible show wpList _ _ _ (⟨none, _, _, _, _, _⟩ :: _) _ _); refine wpList_insert_own _ rfl _ _ _ 43 rfl 3 3 lawI Try.underlying43 (plainElem (H := Unit) Try.prog 3) w1.heap.size 0 _ rfl (World.ownsMap_made _ _ _ _) (by unfold maxLen; omega) _ _ _ rfl rfl (keyI (by omega) (by omega)) _ [] (plainElem_int Try.underlying3 (WalkArith.wf_i64 (by omega))) ?_; intro w3 om3 gr3)
  have h13 := gr3.size
  simp at h13
  have bd : 8 ^ n ≤ 262144 := Nat.le_trans (Nat.pow_le_pow_right (by omega) hn) (by decide)
  have om4 : OM w3 w1.heap.size [(idn n, 0)] := by
    have e : mapD [(idn n, 0)] = (DataW.map []).put (.int .i64 (kk : Int)) (.lit (.int .i64 0)) := by rw [← HKK.out]; rfl
    unfold OM
    rw [e]
    exact om3
  have ow4 : Ow w3 3 L1 a1 n cap1 (ints (idn n)) := (ow1.alloc _).keep (Keeps.of_grown gr3) (fun i hi hm => by have := ow1.old i hi; simp at hm; omega)
  have hold : ∀ i ∈ L1, i < w1.heap.size := fun i hi => ow1.old i hi
  have og0 : OwG (w3.alloc (.cells #[.slice a1 n cap1] 26)) 26 3 [w3.heap.size] (some ⟨w3.heap.size, 0, none⟩) 1 1 [⟨L1, a1, n, cap1, idn n⟩] :=
    ⟨Ow.new' _ _ _ _ _ rfl rfl (by unfold maxLen; omega), fun c hc => by simp at hc; subst hc; exact ow4.alloc _, fun c hc => by simp at hc; subst hc; intro i hi hm; have := hold i hm; simp at hi; omega, List.pairwise_singleton _ _⟩
  have hb0 : Below w.heap.size w (w3.alloc (.cells #[.slice a1 n cap1] 26)) := by
    have h1 : Below w.heap.size w w3 := (Keeps.of_grown gr3).below (b1.alloc b1.size _) (fun i hi => by simp at hi; have := b1.size; omega) (by simp; have := b1.size; omega)
    exact h1.alloc h1.size _
  have hs1 := b1.size
  have BDN := Lib.hid bd
  clear bd ow4 ow1 CK gr3 om3 hk1 hk2
  go_loopw [5, 6] (fun l i wr => ∃ a : Nat, ∃ L cs la ln lc, i = .int .i64 a ∧ l = .slice la ln lc ∧ Bf n (srch n a) a 0 ∧ ln = (srch n a).length ∧ OwG wr 26 3 L la ln lc cs ∧ cs.map (·.xs) = (srch n a).map Prod.fst ∧ New w.heap.size (fp L cs) ∧ OM wr w1.heap.size (srch n a) ∧ w1.heap.size ∉ fp L cs ∧ Below w.heap.size w wr) (fun _ i _ => 8 ^ n - (intOf i).toNat)
  case atStart => exact ⟨0, _, _, _, _, _, rfl, rfl, Bf.start n, rfl, og0, rfl, fun i hi => by
    rcases mem_fp.1 hi with h | ⟨c, hc, h⟩
    · simp at h; omega
    · simp at hc; subst hc; exact n1 i h, om4.alloc _, fun hi => by
    rcases mem_fp.1 hi with h | ⟨c, hc, h⟩
    · simp at h; omega
    · simp at hc; subst hc; have := hold _ h; omega, hb0⟩
  case round =>
    clear om4 og0 hb0
    obtain ⟨a, L, cs, la, ln, lc, rfl, rfl, bf, hln, og, hex, hnew, om, hnB, hb⟩ := hrel
    have hbd := bf.bound (by omega)
    have hale := bf.le
    rw [← hln] at hbd hale
    have hlb := BDN.out
    have HBF := Lib.hid bf
    have HLN := Lib.hid hln
    have HEX := Lib.hid hex
    clear bf hln hex
    by_cases hlt : a < ln
    · have ha8 : a < 8 ^ n := by omega
      have HA := Lib.hid (show a < (srch n a).length by rw [← HLN.out]; exact hlt)
      go_wp2_with fail
      go_loopw [5, 7] (fun l i wr => ∃ k : Nat, ∃ L cs la ln lc, 2 ≤ k ∧ (k = 2 ∨ k ≤ n + 1) ∧ i = .int .i64 k ∧ l = .slice la ln lc ∧ ln = (inn a (k - 2) (srch n a)).length ∧ OwG wr 26 3 L la ln lc cs ∧ cs.map (·.xs) = (inn a (k - 2) (srch n a)).map Prod.fst ∧ New w.heap.size (fp L cs) ∧ OM wr w1.heap.size (inn a (k - 2) (srch n a)) ∧ w1.heap.size ∉ fp L cs ∧ Below w.heap.size w wr) (fun _ i _ => n + 2 - (intOf i).toNat)
      case atStart => exact ⟨2, L, cs, la, ln, lc, by omega, by omega, rfl, rfl, HLN.out, og, HEX.out, hnew, om, hnB, hb⟩
      case round =>
        clear og hnew om hnB hb
        clear HEX HLN hbd hale hlt
        obtain ⟨k, L, cs, la, ln, lc, hk2, hkn, rfl, rfl, hln, og, hex, hnew, om, hnB, hb⟩ := hrel
        by_cases hlt : k ≤ n
        · have bfj := HBF.out.inn HA.out (k - 2) (by omega)
          have hal := Nat.lt_of_lt_of_le HA.out (inn_len a (k - 2) (srch n a))
          have hsucc : inn a (k + 1 - 2) (srch n a) = stp a k (inn a (k - 2) (srch n a)) := by
            obtain ⟨j, rfl⟩ : ∃ j, k = j + 2 := ⟨k - 2, by omega⟩
            rfl
          have HS := Lib.hid hsucc
          clear hsucc
          generalize inn a (k - 2) (srch n a) = es at *
          have hbd := bfj.bound (by omega)
          have hel := en_le bfj a hal
          have hord := bfj.ord a hal
          have hdig := hord.dig (by omega)
          rw [← hln] at hbd
          obtain ⟨⟨cL, ca, cn, cc, cx⟩, hcj⟩ : ∃ c, cs[a]? = some c := ⟨_, List.getElem?_eq_getElem (by rw [og.len, hln]; exact hal)⟩
          have hcx : cx = (en es a).1 := by
            have h1 : (cs.map (·.xs))[a]? = some cx := by rw [List.getElem?_map, hcj]; rfl
            rw [hex, List.getElem?_map, en_some hal] at h1
            exact (Option.some.inj h1).symm
          have hic := og.cells _ (List.mem_of_getElem? hcj)
          obtain rfl : cn = n := by
            have h1 : cx.length = cn := hic.lens
            rw [← h1, hcx]; exact hord.1
          obtain ⟨g, rfl, rfl, hgl, hgc, hgf⟩ := og.addr (by omega)
          have hcc := hgc a _ hcj
          simp only at hcc hic
          have hoy := hord.flip k hlt
          have hdy := hoy.dig (by omega)
          have hky := keyF_bd _ 1 hdy
          have hkx := keyF_bd _ 1 hdig
          rw [hoy.1] at hky
          rw [hord.1] at hkx
          have hhas := bfj.has (by omega) hoy
          have hval := bfj.val (by omega) hal
          rw [← hcx] at hoy hdy hky hkx hhas hval hdig
          obtain ⟨q, hq⟩ : ∃ q : Nat, keyF 1 (flipL cx k) = q := ⟨_, rfl⟩
          obtain ⟨p, hp⟩ : ∃ p : Nat, keyF 1 cx = p := ⟨_, rfl⟩
          obtain ⟨d, hd⟩ : ∃ d : Nat, (en es a).2 = d := ⟨_, rfl⟩
          rw [hq] at hky hhas
          rw [hp] at hkx hval
          rw [hd] at hval hel
          have CF := Lib.hid (c_flip ca cn cc k cx wr hic.rd (by omega) hlt)
          have HLN := Lib.hid hln
          have HEX := Lib.hid hex
          have HCJ := Lib.hid hcj
          have HCX := Lib.hid hcx
          have HQ := Lib.hid hq
          have HP := Lib.hid hp
          have HD := Lib.hid hd
          have HVAL := Lib.hid hval
          have HBJ := Lib.hid bfj
          have HAL := Lib.hid hal
          have hdle : d ≤ 262144 := by omega
          have hal2 : a < ln := by omega
          have hB2 : w1.heap.size < wr.heap.size := om.lt
          have hOld := og.old
          clear hln hex hcj hcx hq hp hd hgc hgf hord hel bfj hal hval
          go_wp2_with fail
          refine CF.out.mono ?_
          rintro e w2 ⟨a2, cap2, rfl, ⟨L2, ow2, n2⟩, b2⟩
          have om2 := ownsMap_below om b2
          have og2 := og.below b2
          have hb2 := Below.nx hb b2
          have hcc2 := (b2.cell (p := ⟨g, a, none⟩) hgl).trans hcc
          have K1 := c_key a2 cn cap2 (flipL cx k) w2 ow2.rd hdy (by omega)
          rw [HQ.out] at K1
          have K1 := Lib.hid K1
          clear om og hcc CF
          cases hh : hasE es (flipL cx k)
          · rw [hh] at hhas
            have HH := Lib.hid hh
            have HHAS := Lib.hid hhas
            clear hh hhas
            have K2 := c_key a2 cn cap2 (flipL cx k) w2.drew ow2.rd.drew hdy (by omega)
            rw [HQ.out] at K2
            have K3 := c_key ca cn cc cx w2.drew (hic.below b2).rd.drew hdig (by omega)
            rw [HP.out] at K3
            have K2 := Lib.hid K2
            have K3 := Lib.hid K3
            obtain ⟨c, hrun, hat, _⟩ := om2.drew.lookup_int lawI Try.underlying43 Try.underlying3 (zeroI _) (keyI (k := (p : Int)) (by omega) (by omega))
            obtain rfl : c = d := by
              rw [HVAL.out] at hat; simp at hat; omega
            obtain ⟨w5, hrun5, om5, gr5⟩ := om2.drew.update lawI Try.underlying43 (by unfold maxLen; have := HLN.out; omega) (keyI (k := (q : Int)) (by omega) (by omega)) (plainElem_int (H := Unit) Try.underlying3 (a := IntKind.i64.wrap ((d : Int) + 1)) (by rw [wrap_small (by omega)]; exact WalkArith.wf_i64 (by omega)))
            have KP5 := Keeps.of_grown gr5
            clear gr5 hat
            go_wp2_with (first | (go_at_call 34; refine K1.out.mono ?_; rintro e w' ⟨rfl, rfl⟩) | (at_lookup; refine wpList_lookupB _ rfl _ _ 43 rfl 3 3 .i64 lawI Try.underlying43 Try.underlying3 (zeroI _) w1.heap.size _ _ false rfl om2 _ _ rfl (keyI (by omega) (by omega)) HHAS.out ?_; intro c'))
            have r0 : w2.drew.cell? ⟨g, a, none⟩ = some (.slice ca cn cc) := hcc2
            go_region_law (go_simp; go_at_call 34; first | (with_reducible refine K2.out.mono ?_; rintro e w' ⟨rfl, rfl⟩) | (with_reducible refine K3.out.mono ?_; rintro e w' ⟨rfl, rfl⟩))
            all_goals
              have og5 := (og2.keep (Keeps.drew [] w2) (fun _ _ h => by cases h)).keep KP5 (fun i hi hm => hnB (by simp at hm; rw [← hm]; exact hi))
              have ow5 := (Ow.drew ow2).keep KP5 (fun i hi hm => by simp at hm; have := n2 i hi; have := hb.size; omega)
              have hs5 : w2.heap.size ≤ w5.heap.size := KP5.size
              have hs2 := b2.size
              have hsz := hb.size
              have hb5 : Below w.heap.size w w5 := KP5.below hb2.drew (fun i hi => by simp at hi; omega) hb2.drew.size
              have og6 := og5.alloc (.cells #[.slice a2 cn cap2] 26)
              go_wp2_with ((with_reducible show wpList _ _ _ (⟨some 59, _, _, _, _, _⟩ :: _) _ _); refine wpList_app _ rfl _ _ 45 rfl 26 Try.underlying45 infoSlD rfl rfl rfl og6.row (Rd.one' _ _ _ _ (by simp)) (one_slice _ _ _) (by omega) (by unfold maxLen; omega) ?_; intro a7 cap7 L7 w7 ow7 kp7 st7)
              have og8 := og6.push (c := ⟨L2, a2, cn, cap2, flipL cx k⟩) (ow5.alloc _) (fun i hi hm => by have := hOld i hi; have := n2 i hm; omega) ow7 kp7 st7
              have nw8 : New w.heap.size (fp L7 (cs ++ [⟨L2, a2, cn, cap2, flipL cx k⟩])) := hnew.pushD (n2.mono hb.size) st7 (by simp; omega)
              have nb8 : w1.heap.size ∉ fp L7 (cs ++ [⟨L2, a2, cn, cap2, flipL cx k⟩]) := fun hi => by
                rcases mem_fp.1 hi with h1 | ⟨c, hc, h1⟩
                · rcases st7 _ h1 with h2 | h2
                  · exact hnB (mem_fp.2 (.inl h2))
                  · simp at h2; omega
                · rcases List.mem_append.1 hc with h2 | h2
                  · exact hnB (mem_fp.2 (.inr ⟨c, h2, h1⟩))
                  · simp at h2; subst h2; have := n2 _ h1; omega
              have om8 := ownsMap_keep (om5.alloc (.cells #[.slice a2 cn cap2] 26)) kp7 (fun hi => hnB (mem_fp.2 (.inl hi)))
              have hb8 : Below w.heap.size w w7 := kp7.below (hb5.alloc hb5.size _) (fun i hi => hnew i (mem_fp.2 (.inl hi))) (by simp; omega)
              have hst : stp a k es = es ++ [(flipL cx k, d + 1)] := by
                unfold stp; rw [← HCX.out, HH.out, HD.out]; rfl
              have hmp : mapD (es ++ [(flipL cx k, d + 1)]) = (mapD es).put (.int .i64 (q : Int)) (.lit (.int .i64 (IntKind.i64.wrap ((d : Int) + 1)))) := by
                rw [mapD_snoc, HQ.out, wrap_small (by omega)]
              rw [← hmp] at om8
              clear om5 hmp hrun hrun5 og6 og5 ow5 ow7
              go_roundw
              case rel => exact ⟨k + 1, L7, _, a7, _, cap7, by omega, by omega, by go_num, rfl, by rw [HS.out, hst, HLN.out]; simp, og8, by rw [HS.out, hst, List.map_append, List.map_append, HEX.out]; rfl, nw8, by rw [HS.out, hst]; unfold OM; rw [List.length_append]; exact om8, nb8, hb8⟩
              case measure => simp [intOf]; omega
          · rw [hh] at hhas
            have HH := Lib.hid hh
            have HHAS := Lib.hid hhas
            clear hh hhas
            go_wp2_with (first | (go_at_call 34; refine K1.out.mono ?_; rintro e w' ⟨rfl, rfl⟩) | (at_lookup; refine wpList_lookupB _ rfl _ _ 43 rfl 3 3 .i64 lawI Try.underlying43 Try.underlying3 (zeroI _) w1.heap.size _ _ true rfl om2 _ _ rfl (keyI (by omega) (by omega)) HHAS.out ?_; intro c'))
            have hst : stp a k es = es := by
              unfold stp; rw [← HCX.out, HH.out]; rfl
            go_roundw
            case rel => exact ⟨k + 1, _, cs, _, ln, lc, by omega, by omega, by go_num, rfl, by rw [HS.out, hst, HLN.out], og2, by rw [HS.out, hst, HEX.out], hnew, by rw [HS.out, hst]; exact om2, hnB, hb2⟩
            case measure => simp [intOf]; omega
        · have hs : srch n (a + 1) = inn a (k - 2) (srch n a) := by
            simp only [srch]
            rw [if_pos HA.out, show n - 1 = k - 2 by omega]
          have HS := Lib.hid hs
          have HN := Lib.hid (HBF.out.round HA.out)
          clear hs
          have HLN := Lib.hid hln
          have HEX := Lib.hid hex
          clear hln hex
          go_wp2_with fail
          go_roundw
          case rel => exact ⟨a + 1, L, cs, la, ln, lc, by go_num, rfl, HN.out, by rw [HS.out]; exact HLN.out, og, by rw [HS.out]; exact HEX.out, hnew, by rw [HS.out]; exact om, hnB, hb⟩
          case measure => simp [intOf]; omega
    · have HD := Lib.hid (dst_of (by omega) HBF.out (by rw [← HLN.out]; omega))
      go_wp2_with fail
      go_ret
      exact ⟨_, rfl, hs1, by rw [← HD.out]; exact om, hb⟩

end Go.Proofs.Ytfnkddplmpcbgaa

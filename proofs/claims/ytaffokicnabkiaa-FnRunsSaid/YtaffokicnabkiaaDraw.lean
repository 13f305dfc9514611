/- The statements' own draws: a cursor on bytes, numbers and orders drawn from it. No condition but lengths. -/
import Derived.Test.YtaffokicnabkiaaHelp
import Derived.Test.YtaffokicnabkiaaDrew
import Derived.Test.YtaffokicnabkiaaFlipL
import Derived.Test.YtaffokicnabkiaaGreedyL
import Derived.BigQuiet
import Derived.Laws.Bits64
namespace Go.Proofs.Ytaffokicnabkiaa
open Go.RowKit
set_option linter.unusedVariables false
set_option linter.unusedSimpArgs false

abbrev bys (bs : List Int) : List Value := bs.map (Value.int .u8)
theorem rd_of_rowB {w : World} {a : Option Addr} {len cap : Nat} {zs : List Int}
    (h : (a = none ∧ len = 0 ∧ cap = 0 ∧ zs = []) ∨ ∃ x, a = some x ∧ len ≤ cap ∧ cap ≤ maxLen ∧ zs.length = cap ∧ (∀ i, i < zs.length → w.cell? (x.add i) = some (.int .u8 (zs.getD i 0))) ∧ ∀ n ∈ zs, (Lit.int .u8 n).wf = true) :
    ∃ bs, Rd w a len cap (bys bs) := by
  rcases h with ⟨_, rfl, rfl, _⟩ | ⟨x, rfl, hle, hmax, hl, hc, hw⟩
  · exact ⟨[], Rd.nil _ _ _ (Nat.zero_le _)⟩
  · refine ⟨zs.take len, ⟨by simp [hl, hle], hle, hmax, fun hp => ?_⟩⟩
    obtain ⟨b, off, spot⟩ := x
    have h0 := hc 0 (by omega)
    have hspot : spot = none := by simpa [Addr.add] using World.cell?_spot h0
    subst hspot
    refine ⟨b, off, rfl, World.block_lt_of_cell? w _ h0, fun j hj => ?_⟩
    have h1 := hc j (by omega)
    rw [Addr.add_lit] at h1
    rw [h1, List.getElem?_map, List.getElem?_take, if_pos hj, List.getElem?_eq_getElem (by omega)]
    simp [List.getD, show j < zs.length by omega]
theorem Rd.byte {w : World} {a : Option Addr} {n cap : Nat} {bs : List Int} (h : Rd w a n cap (bys bs)) (hp : 0 < n) :
    ∃ b off, a = some ⟨b, off, none⟩ ∧ b < w.heap.size ∧ ∀ j, j < n → ∃ x : Int, w.cell? ⟨b, off + j, none⟩ = some (.int .u8 x) := by
  obtain ⟨b, off, e, hb, hc⟩ := h.at' hp
  have hl : bs.length = n := by simpa using h.len
  exact ⟨b, off, e, hb, fun j hj => ⟨bs[j]'(by omega), by rw [hc j hj, List.getElem?_map, List.getElem?_eq_getElem (by omega)]; rfl⟩⟩

theorem New.of_step0 {w2 : World} {o : Obj} {L3 : List Nat} (st3 : Step (w2.alloc o) [] L3) : New w2.heap.size L3 := fun i hi => by
  rcases st3 i hi with h | h
  · cases h
  · simp at h; omega
theorem Rd.keepP {w w' : World} {a : Option Addr} {n cap : Nat} {vs : List Value} {L : List Nat} (h : Rd w a n cap vs) (k : Keeps L w w') (hn : 0 < n → ∀ ad, a = some ad → ad.block ∉ L) : Rd w' a n cap vs := by
  by_cases hp : 0 < n
  · exact h.keep k (hn hp)
  · exact ⟨h.len, h.le, h.max, fun h2 => absurd h2 hp⟩
theorem and255 (x : Int) : 0 ≤ bits .and .i64 x 255 ∧ bits .and .i64 x 255 ≤ 255 := by
  have h : bits .and .i64 x 255 = ((BitVec.ofInt 64 x &&& BitVec.ofInt 64 255).toNat : Int) := by
    show IntKind.i64.wrap ((BitVec.ofInt 64 x &&& BitVec.ofInt 64 255).toNat : Int) = _
    have h1 : (BitVec.ofInt 64 x &&& BitVec.ofInt 64 255).toNat ≤ 255 := by
      rw [BitVec.toNat_and]
      exact Nat.and_le_right
    generalize (BitVec.ofInt 64 x &&& BitVec.ofInt 64 255).toNat = m at *
    simp [IntKind.wrap, IntKind.bits, IntKind.signed]
    omega
  have h1 : (BitVec.ofInt 64 x &&& BitVec.ofInt 64 255).toNat ≤ 255 := by
    rw [BitVec.toNat_and]
    exact Nat.and_le_right
  rw [h]; omega

/-- A cursor at block g over the bytes of a slice. -/
def Cu (w : World) (g : Nat) (a : Option Addr) (n cap : Nat) : Prop := ∃ i h : Int, 0 ≤ i ∧ i ≤ n ∧ Ow w 73 [g] (some ⟨g, 0, none⟩) 3 3 [.slice a n cap, .int .i64 i, .int .i64 h]
theorem Cu.keep {w w' : World} {g : Nat} {a : Option Addr} {n cap : Nat} {M : List Nat} (h : Cu w g a n cap) (k : Keeps M w w') (hn : g ∉ M) : Cu w' g a n cap := by
  obtain ⟨i, h', h1, h2, h3⟩ := h
  exact ⟨i, h', h1, h2, h3.keep k (fun j hj hm => by simp at hj; subst hj; exact hn hm)⟩
theorem Cu.lt {w : World} {g : Nat} {a : Option Addr} {n cap : Nat} (h : Cu w g a n cap) : g < w.heap.size := by
  obtain ⟨i, h', _, _, h3⟩ := h
  exact h3.old g (by simp)

set_option maxHeartbeats 1000000 in
theorem c_Byte (g : Nat) (a : Option Addr) (n cap : Nat) (bs : List Int) (w : World) (cu : Cu w g a n cap) (hr : Rd w a n cap (bys bs)) (hn : n ≤ 1048576) (hg : 0 < n → ∀ ad, a = some ad → ad.block ≠ g) :
    Calls Try.prog 59 #[.pointer (some ⟨g, 0, none⟩)] w fun e w' => ∃ x : Nat, e = .returned (.int .i64 x) ∧ x ≤ 255 ∧ Cu w' g a n cap ∧ Keeps [g] w w' := by
  obtain ⟨i, h, hi0, hin, ow⟩ := cu
  obtain ⟨g', e1, _, hgl, hgc, hgf⟩ := ow.at' (by omega)
  obtain rfl : g = g' := by simpa using e1
  have c0 := hgc 0 (by omega)
  have c1 := hgc 1 (by omega)
  have c2 := hgc 2 (by omega)
  have f1 := hgf 1
  have f2 := hgf 2
  simp only [List.getElem?_cons_zero, List.getElem?_cons_succ] at c0 c1 c2
  clear hgc hgf e1
  go_enter Try.func59, Try.ntmps59
  go_wp2_with fail
  have ow1 := ow.set 2 (.int .i64 (wrap64 (wrap64 (h * 6364136223846793005) + 1442695040888963407)))
  have kp1 : Keeps [g] w (w.setCell ⟨g, 2, none⟩ (.int .i64 (wrap64 (wrap64 (h * 6364136223846793005) + 1442695040888963407)))) := Keeps.setCell _ _ _ _
  have hr1 := hr.keepP kp1 (fun hp ad h hm => hg hp ad h (by simpa using hm))
  simp only [List.set_cons_succ, List.set_cons_zero] at ow1
  generalize (w.setCell ⟨g, 2, none⟩ (.int .i64 (wrap64 (wrap64 (h * 6364136223846793005) + 1442695040888963407)))) = w1 at *
  generalize wrap64 (wrap64 (h * 6364136223846793005) + 1442695040888963407) = h1 at *
  clear c0 c1 c2 f1 f2 ow hr hgl
  obtain ⟨g', e1, _, hgl, hgc, hgf⟩ := ow1.at' (by omega)
  obtain rfl : g = g' := by simpa using e1
  have c0 := hgc 0 (by omega)
  have c1 := hgc 1 (by omega)
  have c2 := hgc 2 (by omega)
  have f1 := hgf 1
  simp only [List.getElem?_cons_zero, List.getElem?_cons_succ] at c0 c1 c2
  clear hgc hgf e1
  go_quiet (fail)
  obtain ⟨x0, hx0, hxb⟩ : ∃ m : Nat, bits BinOp.and IntKind.i64 (bits BinOp.xor IntKind.i64 (h1 / 8589934592) (h1 / 35184372088832)) 255 = (m : Int) ∧ m ≤ 255 := by
    have hx := and255 (bits BinOp.xor IntKind.i64 (h1 / 8589934592) (h1 / 35184372088832))
    exact ⟨(bits BinOp.and IntKind.i64 (bits BinOp.xor IntKind.i64 (h1 / 8589934592) (h1 / 35184372088832)) 255).toNat, by omega, by omega⟩
  rw [hx0]
  have set1 : ∀ (m : Nat) (j : Int), Ow ((w1.drewN m).setCell ⟨g, 1, none⟩ (.int .i64 j)) 73 [g] (some ⟨g, 0, none⟩) 3 3 [.slice a n cap, .int .i64 j, .int .i64 h1] := fun m j => by
    have h := (Ow.drewN ow1 m).set 1 (.int .i64 j)
    simpa only [List.set_cons_succ, List.set_cons_zero] using h
  have hd1 : ∀ m, Keeps [g] w (w1.drewN m) := fun m => kp1.trans (Keeps.drewN [g] w1 m) (Step.refl _ _)
  by_cases hlt : i < (n : Int)
  · obtain ⟨j, rfl⟩ : ∃ j : Nat, i = j := ⟨i.toNat, by omega⟩
    obtain ⟨b, off, rfl, hbl, hc⟩ := hr1.byte (by omega)
    obtain ⟨y, cy⟩ := hc j (by omega)
    have hle := hr1.le
    have hmx := hr1.max
    unfold maxLen at hmx
    clear hc
    go_wp2_with fail
    go_quiet (fail)
    go_wp2_with fail
    go_quiet (fail)
    go_wp2_with fail
    have hx := and255 (wrap64 ((x0 : Int) + wrap64 y))
    go_ret
    exact ⟨(bits BinOp.and IntKind.i64 (wrap64 ((x0 : Int) + wrap64 y)) 255).toNat, ret_int (by omega), by omega, ⟨(j : Int) + 1, h1, by omega, by omega, set1 _ _⟩, (hd1 _).trans (Keeps.setCell _ _ _ _) (Step.refl _ _)⟩
  · go_wp2_with fail
    go_quiet (fail)
    go_wp2_with fail
    go_ret
    first | exact ⟨x0, rfl, hxb, ⟨i, h1, hi0, hin, ow1.drewN _⟩, hd1 _⟩ | exact ⟨x0, rfl, hxb, ⟨i, h1, hi0, hin, (ow1.drewN _).drewN _⟩, (hd1 _).trans (Keeps.drewN _ _ _) (Step.refl _ _)⟩

/-- The same for a cursor that was made behind w, where the bytes read. -/
theorem c_ByteAny (g : Nat) (a : Option Addr) (n cap : Nat) (bs : List Int) (w wr : World) (cu : Cu wr g a n cap) (hr : Rd w a n cap (bys bs)) (hb : Below w.heap.size w wr) (hg : w.heap.size ≤ g) (hn : n ≤ 1048576) :
    Calls Try.prog 59 #[.pointer (some ⟨g, 0, none⟩)] wr fun e w' => ∃ x : Nat, e = .returned (.int .i64 x) ∧ x ≤ 255 ∧ Cu w' g a n cap ∧ Keeps [g] wr w' := by
  by_cases hp : 0 < n
  · obtain ⟨b, off, rfl, hbl, _⟩ := hr.at' hp
    exact c_Byte g _ n cap bs wr cu (hr.below hb) hn (fun _ ad h => by cases h; simp; omega)
  · obtain rfl : n = 0 := by omega
    exact c_Byte g a 0 cap bs wr cu ⟨hr.len, hr.le, hr.max, fun h => by omega⟩ hn (fun h => by omega)

set_option maxRecDepth 100000 in
set_option maxHeartbeats 400000 in
theorem c_l01New (a : Option Addr) (n cap : Nat) (bs : List Int) (w : World) (hr : Rd w a n cap (bys bs)) (hn : n ≤ 1048576) :
    Calls Try.prog 58 #[.slice a n cap] w fun e w' => ∃ g, e = .returned (.pointer (some ⟨g, 0, none⟩)) ∧ w.heap.size ≤ g ∧ Cu w' g a n cap ∧ Below w.heap.size w w' := by
  obtain ⟨w0, hw0⟩ : ∃ w0 : World, w0 = w := ⟨_, rfl⟩
  go_enter Try.func58, Try.ntmps58
  go_wp2
  go_loopw [3, 4] (fun v i wr => ∃ k : Nat, ∃ h : Int, k ≤ n ∧ i = .int .i64 k ∧ v = .int .i64 h ∧ wr = w) (fun _ i _ => n - (intOf i).toNat)
  case atStart => exact ⟨0, _, by omega, rfl, rfl, rfl⟩
  case round =>
    obtain ⟨k, h, hk, rfl, rfl, hwr⟩ := hrel
    subst hwr
    by_cases hlt : k < n ∧ k < 4000
    · obtain ⟨h1, h2⟩ := hlt
      obtain ⟨b, off, rfl, hbl, hc⟩ := hr.byte (by omega)
      obtain ⟨y, cy⟩ := hc k h1
      have hle := hr.le
      have hmx := hr.max
      unfold maxLen at hmx
      clear hc
      go_wp2
      go_roundw
      case rel => exact ⟨k + 1, _, by omega, by go_num, rfl, by trivial⟩
      case measure => simp [intOf]; omega
    · have fin : ∀ hh : Int, Cu (wr.alloc (.cells #[.slice a n cap, .int .i64 0, .int .i64 hh] 73)) wr.heap.size a n cap := fun hh => ⟨0, hh, by omega, by omega, Ow.new' _ _ _ _ _ rfl rfl (by unfold maxLen; omega)⟩
      by_cases hk2 : k < n
      · have h3 : ¬ k < 4000 := fun h => hlt ⟨hk2, h⟩
        go_wp2
        go_ret
        exact ⟨_, rfl, Nat.le_refl _, fin _, (Below.refl _ _).alloc (Nat.le_refl _) _⟩
      · go_wp2
        go_ret
        exact ⟨_, rfl, Nat.le_refl _, fin _, (Below.refl _ _).alloc (Nat.le_refl _) _⟩

set_option maxHeartbeats 400000 in
theorem c_l31New (a : Option Addr) (n cap : Nat) (bs : List Int) (m : Nat) (w : World) (hr : Rd w a n cap (bys bs)) (hn : n ≤ 1048576) (hm : m ≤ 1000) :
    Calls Try.prog 32 #[.slice a n cap, .int .i64 m] w fun e w' => ∃ g, e = .returned (.pointer (some ⟨g, 0, none⟩)) ∧ w.heap.size ≤ g ∧ Cu w' g a n cap ∧ Below w.heap.size w w' := by
  have hold : ∀ ad, a = some ad → 0 < n → ad.block < w.heap.size := fun ad e hp => by
    obtain ⟨b, off, e2, hb, _⟩ := hr.at' hp
    rw [e] at e2; cases e2; exact hb
  have HOLD := Lib.hid hold
  clear hold
  go_enter Try.func32, Try.ntmps32
  go_wp2_with fail
  refine (c_l01New a n cap bs _ hr hn).mono ?_
  rintro e w1 ⟨g, rfl, hg, cu, b1⟩
  go_wp2_with fail
  go_loopw [6] (fun i wr => ∃ k : Nat, k ≤ m ∧ i = .int .i64 k ∧ Cu wr g a n cap ∧ Below w.heap.size w wr) (fun i _ => m - (intOf i).toNat)
  case atStart => exact ⟨0, by omega, rfl, cu, b1⟩
  case round =>
    clear cu b1
    obtain ⟨k, hk, rfl, cu, hb⟩ := hrel
    by_cases hlt : k < m
    · have CB := Lib.hid (c_ByteAny g a n cap bs w wr cu hr hb hg hn)
      go_wp2_with fail
      refine CB.out.mono ?_
      rintro e w2 ⟨x, rfl, hx, cu2, kp2⟩
      have hb2 : Below w.heap.size w w2 := kp2.below hb (fun i hi => by simp at hi; omega) hb.size
      go_wp2_with fail
      go_roundw
      case rel => exact ⟨k + 1, by omega, by go_num, cu2, hb2⟩
      case measure => simp [intOf]; omega
    · go_wp2_with fail
      go_ret
      exact ⟨g, rfl, hg, cu, hb⟩

set_option maxHeartbeats 400000 in
theorem c_Below (g : Nat) (a : Option Addr) (n cap : Nat) (bs : List Int) (w wr : World) (cu : Cu wr g a n cap) (hr : Rd w a n cap (bys bs)) (hb : Below w.heap.size w wr) (hg : w.heap.size ≤ g) (hn : n ≤ 1048576) (m : Nat) (h1 : 1 ≤ m) (h2 : m ≤ 256) :
    Calls Try.prog 44 #[.pointer (some ⟨g, 0, none⟩), .int .i64 m] wr fun e w' => ∃ x : Nat, e = .returned (.int .i64 x) ∧ x < m ∧ Cu w' g a n cap ∧ Keeps [g] wr w' := by
  have CB := Lib.hid (c_ByteAny g a n cap bs w wr cu hr hb hg hn)
  go_enter Try.func44, Try.ntmps44
  go_wp2_with fail
  refine CB.out.mono ?_
  rintro e w2 ⟨x, rfl, hx, cu2, kp2⟩
  have hm0 : ((m : Int) == 0) = false := by simp; omega
  have ht : (x : Int) % (m : Int) = ((x % m : Nat) : Int) := rfl
  have hlt := Nat.mod_lt x (show 0 < m by omega)
  generalize x % m = y at *
  have HT := Lib.hid ht
  clear ht
  go_wp2_with fail
  go_ret
  exact ⟨y, ret_int HT.out, hlt, cu2, kp2⟩


set_option maxHeartbeats 1000000 in
theorem c_MakeSize (a : Option Addr) (n cap : Nat) (bs : List Int) (m lo hi : Nat) (w : World) (hr : Rd w a n cap (bys bs)) (hn : n ≤ 1048576) (hm : m ≤ 1000) (hlh : lo ≤ hi) (hhi : hi ≤ 90) :
    Calls Try.prog 25 #[.slice a n cap, .int .i64 m, .int .i64 lo, .int .i64 hi] w fun e w' => ∃ x : Nat, e = .returned (.int .i64 x) ∧ lo ≤ x ∧ x ≤ hi ∧ Below w.heap.size w w' := by
  obtain ⟨w0, hw0⟩ : ∃ w0 : World, w0 = w := ⟨_, rfl⟩
  go_enter Try.func25, Try.ntmps25
  go_wp2
  go_loopw [9, 10] (fun s k wr => ∃ j : Nat, lo + j ≤ hi ∧ s = .int .i64 ((j + 1 : Nat) : Int) ∧ k = .int .i64 ((lo + j : Nat) : Int) ∧ wr = w) (fun _ k _ => hi - (intOf k).toNat)
  case atStart => exact ⟨0, by omega, rfl, rfl, rfl⟩
  case round =>
    obtain ⟨j, hj, rfl, rfl, hwr⟩ := hrel
    subst hwr
    by_cases hlt : lo + j < hi
    · go_wp2
      go_roundw
      case rel => exact ⟨j + 1, by omega, int_eq (by omega), int_eq (by omega), by trivial⟩
      case measure => simp [intOf]; omega
    · obtain rfl : hi = lo + j := by omega
      have CN := Lib.hid (c_l31New a n cap bs m wr hr hn hm)
      go_wp2_with fail
      refine CN.out.mono ?_
      rintro e w1 ⟨g, rfl, hg, cu, b1⟩
      have CB := c_Below g a n cap bs wr w1 cu hr b1 hg hn (j + 1) (by omega) (by omega)
      have CB := Lib.hid CB
      go_wp2_with fail
      refine CB.out.mono ?_
      rintro e w2 ⟨x, rfl, hx, _, kp2⟩
      have hb2 : Below wr.heap.size wr w2 := kp2.below b1 (fun i hi => by simp at hi; omega) b1.size
      go_wp2_with fail
      go_loopw [11, 12] (fun o k wq => ∃ q : Nat, q ≤ x ∧ o = .int .i64 ((lo + (x - q) : Nat) : Int) ∧ k = .int .i64 (q : Int) ∧ wq = w2) (fun _ k _ => (intOf k).toNat)
      case atStart => exact ⟨x, by omega, int_eq (by omega), rfl, rfl⟩
      case round =>
        obtain ⟨q, hq, rfl, rfl, hwq⟩ := hrel
        subst hwq
        by_cases hq0 : 0 < q
        · go_wp2
          go_roundw
          case rel => exact ⟨q - 1, by omega, int_eq (by omega), int_eq (by omega), by trivial⟩
          case measure => simp [intOf]; omega
        · go_wp2
          go_ret
          exact ⟨lo + (x - q), rfl, by omega, by omega, hb2⟩


/-- A number put in at place k. -/
def insO (l : List Int) (k : Nat) (x : Int) : List Int := l.take k ++ [x] ++ l.drop k
theorem nth_insO {l : List Int} {k : Nat} (hk : k ≤ l.length) (x : Int) (j : Nat) : nth (insO l k x) j = if j < k then nth l j else if j = k then x else nth l (j - 1) := by
  have hl : (l.take k).length = k := by rw [List.length_take]; omega
  have hl2 : (l.take k ++ [x]).length = k + 1 := by rw [List.length_append, hl]; rfl
  unfold insO
  by_cases h1 : j < k
  · rw [if_pos h1, nth_appL (by omega), nth_appL (by omega), nth_takeL _ _ _ h1]
  · rw [if_neg h1]
    by_cases h2 : j = k
    · subst h2
      rw [if_pos rfl, nth_appL (by omega), nth_appR (by omega), hl, Nat.sub_self]; rfl
    · rw [if_neg h2, nth_appR (by omega), hl2, nth_dropL]
      congr 1; omega
theorem insO_len {l : List Int} {k : Nat} (hk : k ≤ l.length) (x : Int) : (insO l k x).length = l.length + 1 := by
  unfold insO
  rw [List.length_append, List.length_append, List.length_take, List.length_drop, List.length_singleton]
  omega
theorem Order.ins {l : List Int} {i k : Nat} (h : Order l i) (hk : k ≤ i) : Order (insO l k i) (i + 1) := by
  obtain ⟨hl, hb, hi⟩ := h
  refine ⟨by rw [insO_len (by omega), hl], fun j hj => ?_, fun p q hpq hq => ?_⟩
  · rw [nth_insO (by omega)]
    split
    · have := hb j (by omega); omega
    · split
      · omega
      · have := hb (j - 1) (by omega); omega
  · rw [nth_insO (by omega), nth_insO (by omega)]
    have inj : ∀ a b, a < i → b < i → a ≠ b → nth l a ≠ nth l b := fun a b ha hb2 hne => by
      rcases Nat.lt_or_ge a b with h | h
      · exact hi a b h hb2
      · exact fun e => hi b a (by omega) ha e.symm
    by_cases p1 : p < k
    · rw [if_pos p1]
      by_cases q1 : q < k
      · rw [if_pos q1]; exact inj p q (by omega) (by omega) (by omega)
      · rw [if_neg q1]
        by_cases q2 : q = k
        · rw [if_pos q2]; have := hb p (by omega); omega
        · rw [if_neg q2]; exact inj p (q - 1) (by omega) (by omega) (by omega)
    · rw [if_neg p1, if_neg (show ¬ q < k by omega), if_neg (show ¬ q = k by omega)]
      by_cases p2 : p = k
      · rw [if_pos p2]; have := hb (q - 1) (by omega); omega
      · rw [if_neg p2]; exact inj (p - 1) (q - 1) (by omega) (by omega) (by omega)

/-- An order put together number by number. -/
inductive Al : List Int → Nat → Prop
  | nil : Al [] 0
  | ins (xs : List Int) (k p : Nat) (h : Al xs k) (hp : p ≤ k) : Al (insO xs p k) (k + 1)
theorem Al.order {xs : List Int} {n : Nat} (h : Al xs n) : Order xs n := by
  induction h with
  | nil => exact ⟨rfl, fun j hj => by omega, fun i j _ hj => by omega⟩
  | ins xs k p _ hp ih => exact ih.ins hp














































































set_option maxHeartbeats 400000 in
theorem c_same (a a' : Option Addr) (n cap n' cap' : Nat) (xs : List Int) (w : World) (h1 : RdI w a n cap xs) (h2 : RdI w a' n' cap' xs) (hn : n ≤ 1048576) :
    Calls Try.prog 21 #[.slice a n cap, .slice a' n' cap'] w fun e w' => e = .returned (.bool true) ∧ Below w.heap.size w w' := by
  obtain rfl : n = n' := by rw [← h1.lens, ← h2.lens]
  go_enter Try.func21, Try.ntmps21
  go_wp2
  go_loopw [14] (fun i wr => ∃ k : Nat, k ≤ n ∧ i = .int .i64 k ∧ Below w.heap.size w wr) (fun i _ => n - (intOf i).toNat)
  case atStart => exact ⟨0, by omega, rfl, Below.refl _ _⟩
  case round =>
    obtain ⟨k, hk, rfl, hb⟩ := hrel
    by_cases hlt : k < n
    · obtain ⟨b, off, rfl, hbl, hc⟩ := (h1.below hb).int (by omega)
      obtain ⟨b', off', rfl, hbl', hc'⟩ := (h2.below hb).int (by omega)
      have c1 := hc k hlt
      have c2 := hc' k hlt
      have m1 := h1.max
      have m2 := h2.max
      have l1 := h1.le
      have l2 := h2.le
      unfold maxLen at m1 m2
      clear hc hc'
      go_wp2
      go_roundw
      case rel => exact ⟨k + 1, by omega, by go_num, hb⟩
      case measure => simp [intOf]; omega
    · obtain rfl : k = n := by omega
      go_wp2
      go_ret
      exact ⟨rfl, hb⟩

end Go.Proofs.Ytaffokicnabkiaa

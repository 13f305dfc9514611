/- slices.Delete of one number; an append within the capacity; clear. No condition but lengths. -/
import Derived.Test.YtpicnechmdbkfaaRoom
import Derived.Deep.RegionLaw
namespace Go.Proofs.Ytpicnechmdbkfaa
open Go.RowKit

/-- As one step of a region that draws its order. -/
theorem step_appRoom {P : Program} {ops : Array Oper} {o : Oper} {a : Act} {w : World} {K : Act → World → Prop} {Q : Exit → Act → World → Prop} {E : Prop}
    (hg : o.guard = none) (s x : Operand) (t : TypeId) (hop : o.op = Op.call { callee := Callee.builtin Builtin.append, args := #[s, x], argTypes := #[t, t] })
    (T : TypeId) {z : Value} {bytes : Nat} (ht : P.underlying t = some (.slice T)) (hinfo : (P.info? T).map (fun i => (i.zero, i.size, i.bytes)) = some (some z, 1, bytes))
    {L : List Nat} {sa : Option Addr} {n cap : Nat} {vs : List Value} {xa : Option Addr} {m xcap : Nat} {news : List Value} (hs : a.eval s = .slice sa n cap) (hx : a.eval x = .slice xa m xcap)
    (own : Ow w T L sa n cap vs) (src : Rd w xa m xcap news) (h1 : ∀ u ∈ news, u.oneCell' = true) (hroom : n + m ≤ cap)
    (hK : ∀ w', Ow w' T L sa (n + m) cap (vs ++ news) → Keeps L w w' → K (a.put o.dst (.slice sa (n + m) cap)) w') :
    if Region.wanted o (yielded ops a.tmps) = true then Oper.wp P o a w K Q else E := by
  have hw : Region.wanted o (yielded ops a.tmps) = true := by simp [Region.wanted, hg]
  rw [if_pos hw]
  obtain ⟨w', hrun, r1, r2⟩ := run_appRoom (P := P) t o.type T ht hinfo own src h1 hroom
  unfold Oper.wp
  simp [execOp, hop, resolve, invoke, builtin, hs, hx, hrun, Result.andThen]
  exact hK w' r1 r2

/-- .. at ints of this program. -/
theorem step_appI {ops : Array Oper} {o : Oper} {a : Act} {w : World} {K : Act → World → Prop} {Q : Exit → Act → World → Prop} {E : Prop} (s x : Operand)
    (hg : o.guard = none) (hop : o.op = Op.call { callee := Callee.builtin Builtin.append, args := #[s, x], argTypes := #[23, 23] })
    {L : List Nat} {sa : Option Addr} {n cap : Nat} {vs : List Value} {xa : Option Addr} {m xcap : Nat} {news : List Value} (hs : a.eval s = .slice sa n cap) (hx : a.eval x = .slice xa m xcap)
    (own : Ow w 3 L sa n cap vs) (src : Rd w xa m xcap news) (h1 : ∀ u ∈ news, u.oneCell' = true) (hroom : n + m ≤ cap)
    (hK : ∀ w', Ow w' 3 L sa (n + m) cap (vs ++ news) → Keeps L w w' → K (a.put o.dst (.slice sa (n + m) cap)) w') :
    if Region.wanted o (yielded ops a.tmps) = true then Oper.wp Try.prog o a w K Q else E :=
  step_appRoom hg s x 23 hop 3 Try.underlying23 infoInt hs hx own src h1 hroom hK

/-- x[lo:hi] within the capacity. -/
theorem wpList_cutCap {P : Program} (w : World) {ops : Array Oper} {rest : List Oper} {o : Oper} {act : Act} {Q : Exit → Act → World → Prop} (hgd : o.guard = none) (x lo hi : Operand) (t : TypeId) (ho : o.op = .slice t x (some lo) (some hi) none) (T : TypeId) (ht : P.underlying t = some (.slice T)) (hinfo : (P.info? T).map (·.size) = some 1)
    {a : Option Addr} {n cap : Nat} (l m : Nat) {kl kh : IntKind} {li mi : Int} (hx : act.eval x = .slice a n cap) (hl : act.eval lo = .int kl li) (hli : li = (l : Int)) (hh : act.eval hi = .int kh mi) (hmi : mi = (m : Int)) (h1 : l ≤ m) (h2 : m ≤ cap)
    (h : wpList P ops Q rest (act.put o.dst (.slice (cutAt cap l a) (m - l) (cap - l))) w) : wpList P ops Q (o :: rest) act w := by
  refine wpList_plain hgd fun K hK' => ?_
  subst hli
  subst hmi
  have he : P.elem t = T := by simp [Program.elem, ht]
  have hrun := (run_sliceAt_slice (P := P) w t _ _ _ _ (by rw [he]; exact ht)).trans (run_cut (P := P) w t T ht hinfo a n cap l m h1 h2 kl kh)
  unfold Oper.wp
  simp [execOp, ho, hx, hl, hh, hrun, Result.andThen]
  exact hK' _ _ h

/-- clear(s[len(s):len(s)+m]): what lies in front stays. -/
theorem run_clearTail {P : Program} {w : World} (t ty T : TypeId) {z : Value} {bytes : Nat} (ht : P.underlying t = some (.slice T)) (hinfo : (P.info? T).map (fun i => (i.zero, i.size, i.bytes)) = some (some z, 1, bytes)) (hz1 : z.cells = #[z]) (ho1 : z.oneCell' = true)
    {L : List Nat} {a : Option Addr} {n cap : Nat} {vs : List Value} (own : Ow w T L a n cap vs) (m c : Nat) (hm : n + m ≤ cap) :
    ∃ w', (Builtin.clear_ #[t] ty #[.slice (cutAt cap n a) m c]).run P w = .ok (.tuple #[]) w' ∧ Ow w' T L a n cap vs ∧ Keeps L w w' := by
  obtain ⟨i, hi, hz, hsize, hby⟩ := info_parts hinfo
  by_cases h0 : m = 0
  · subst h0
    refine ⟨w, ?_, own, Keeps.refl _ _⟩
    cases cutAt cap n a <;> simp [Builtin.clear_, run_underlying ht]
  · rcases own.2.2.2 with ⟨_, h0⟩ | ⟨g, cur, rfl, rfl, hg, hs, htk⟩
    · omega
    · have hca : cutAt cap n (some ⟨g, 0, none⟩) = some ⟨g, n, none⟩ := by
        unfold cutAt; rw [if_neg (by omega), Option.map_some, Addr.add_lit, Nat.zero_add]
      have hzl : (Builtin.zeroCells z.cells m).toList.length = m := by rw [Array.length_toList, size_zeroCells, hz1]; simp
      have hzo : ∀ v ∈ (Builtin.zeroCells z.cells m).toList, v.oneCell' = true := by
        intro v hv
        rw [hz1] at hv
        simp [Builtin.zeroCells, Nat.mod_one] at hv
        obtain ⟨_, _, rfl⟩ := hv
        exact ho1
      have hst := run_storeCells_at P g n T (Builtin.zeroCells z.cells m).toList 0 cur w hg (by rw [hzl]; omega) hzo
      simp only [Nat.add_zero] at hst
      have hzv : (zeroValue T).run P w = .ok z w := by simp [zeroValue, typeInfo, hi, hz]
      have hrun : (Builtin.clear_ #[t] ty #[.slice (cutAt cap n (some ⟨g, 0, none⟩)) m c]).run P w = .ok (.tuple #[]) (w.setRow g (cur.toList.take n ++ (Builtin.zeroCells z.cells m).toList ++ cur.toList.drop (n + (Builtin.zeroCells z.cells m).toList.length)).toArray) := by
        rw [hca]
        obtain ⟨m, rfl⟩ : ∃ k, m = k + 1 := ⟨m - 1, by omega⟩
        simp [Builtin.clear_, run_underlying ht, hzv, hst]
      refine ⟨_, hrun, ⟨own.1, own.2.1, own.2.2.1, .inr ⟨g, _, rfl, rfl, setRow_heap w g cur _ T _ hg, ?_, ?_⟩⟩, Keeps.setRow _ _ _⟩
      · simp only [List.size_toArray, List.length_append, List.length_take, List.length_drop, Array.length_toList] at hzl ⊢
        omega
      · rw [List.append_assoc]
        rw [List.take_append_of_le_length (by rw [List.length_take, Array.length_toList]; omega), List.take_take, Nat.min_self, htk]

theorem wpList_clearTail {P : Program} (w : World) {ops : Array Oper} {rest : List Oper} {o : Oper} {act : Act} {Q : Exit → Act → World → Prop} (hgd : o.guard = none) (x : Operand) (t : TypeId) (ho : o.op = .call { callee := .builtin .clear, args := #[x], argTypes := #[t] })
    (T : TypeId) {z : Value} {bytes : Nat} (ht : P.underlying t = some (.slice T)) (hinfo : (P.info? T).map (fun i => (i.zero, i.size, i.bytes)) = some (some z, 1, bytes)) (hz1 : z.cells = #[z]) (ho1 : z.oneCell' = true)
    {L : List Nat} {a : Option Addr} {n cap : Nat} {vs : List Value} (m c : Nat) (hx : act.eval x = .slice (cutAt cap n a) m c) (own : Ow w T L a n cap vs) (hm : n + m ≤ cap)
    (h : ∀ w', Ow w' T L a n cap vs → Keeps L w w' → wpList P ops Q rest (act.put o.dst (.tuple #[])) w') : wpList P ops Q (o :: rest) act w := by
  refine wpList_plain hgd fun K hK' => ?_
  obtain ⟨w', hrun, r1, r2⟩ := run_clearTail (P := P) t o.type T ht hinfo hz1 ho1 own m c hm
  unfold Oper.wp
  simp [execOp, ho, resolve, invoke, builtin, hx, hrun, Result.andThen]
  exact hK' _ _ (h w' r1 r2)


theorem eraseIdx_eq (xs : List Int) (i : Nat) : xs.take i ++ xs.drop (i + 1) = xs.eraseIdx i := by rw [List.eraseIdx_eq_take_drop_succ]

set_option maxHeartbeats 1000000 in
theorem c_Delete (L : List Nat) (a : Option Addr) (n cap i : Nat) (xs : List Int) (w : World) (how : Ow w 3 L a n cap (ints xs)) (hi : i < n) (hn : n ≤ 1048576) :
    Calls Try.prog 48 #[.slice a n cap, .int .i64 i, .int .i64 ((i : Int) + 1)] w fun e w' => e = .returned (.slice a (n - 1) cap) ∧ Ow w' 3 L a (n - 1) cap (ints (xs.eraseIdx i)) ∧ Keeps L w w' := by
  have hlen := Lib.hid how.lens
  have hle := how.le
  have hmx := how.max
  unfold maxLen at hmx
  have hne : ¬ n = i := by omega
  have hrd := how.rd
  obtain ⟨g, rfl, rfl, hg, hoc, hof⟩ := how.int (by omega)
  clear hoc hof
  by_cases hce : cap = i + 1
  · subst hce
    obtain rfl : n = i + 1 := by omega
    have hsrc : Rd w.drew (some ⟨g, 0, none⟩) 0 0 ((ints xs).drop (i + 1)) := ⟨by rw [List.length_drop, how.len]; omega, by omega, by unfold maxLen; omega, by omega⟩
    have hb3 : (i : Int) ≤ (i : Int) + 1 := by omega
    have hb4 : (0 : Int) ≤ (i : Int) + 1 := by omega
    have hown : Ow w.drew 3 [g] (some ⟨g, 0, none⟩) i (i + 1) ((ints xs).take i) := (how.head i (by omega)).drew
    have hone : ∀ u ∈ (ints xs).drop (i + 1), u.oneCell' = true := fun u hu => one_ints _ u (List.mem_of_mem_drop hu)
    go_enter Try.func48, Try.ntmps48
    go_wp2_with fail
    go_region_law (refine step_appI (sa := some ⟨g, 0, none⟩) (n := i) (cap := i + 1) (xa := some ⟨g, 0, none⟩) (m := 0) (xcap := 0) (.tmp 22) (.tmp 25) rfl rfl (by simp [Act.eval, Act.put]) (by simp [Act.eval, Act.put]) hown hsrc hone (by omega) ?_; intro w1 ow1 kp1)
    go_wp2_with (first | ((with_reducible show wpList _ _ _ (⟨some 31, _, _, _, _, _⟩ :: _) _ _); refine wpList_cutCap _ rfl (.tmp 27) (.tmp 29) (.tmp 30) 23 rfl 3 Try.underlying23 szInt (i + 0) (i + 1) rfl rfl (by simp) rfl (by simp; try omega) (by omega) (by omega) ?_) | ((with_reducible show wpList _ _ _ (⟨none, _, _, _, _, _⟩ :: _) _ _); refine wpList_clearTail _ rfl (.tmp 31) 23 rfl 3 Try.underlying23 infoInt rfl rfl ((i + 1) - (i + 0)) _ rfl ow1 (by omega) ?_; intro w2 ow2 kp2))
    go_ret
    refine ⟨?_, ?_, ((Keeps.drew [g] w).trans kp1 (Step.refl _ _)).trans kp2 (Step.refl _ _)⟩
    · rfl
    · rw [ints_take, ints_drop, ints_append, eraseIdx_eq] at ow2
      exact ow2
  · obtain ⟨m, rfl⟩ : ∃ m, n = i + 1 + m := ⟨n - (i + 1), by omega⟩
    obtain ⟨c, rfl⟩ : ∃ c, cap = i + 1 + c := ⟨cap - (i + 1), by omega⟩
    have hc0 : ¬ c = 0 := by omega
    have hsrc : Rd w.drew (some ⟨g, i + 1, none⟩) m c ((ints xs).drop (i + 1)) := by
      have h := hrd.from (i + 1) (by omega)
      unfold cutAt at h
      rw [if_neg hce, Option.map_some, Addr.add_lit, Nat.zero_add, Nat.add_sub_cancel_left, Nat.add_sub_cancel_left] at h
      exact h.drew
    have hb1 : i ≤ i + 1 + c := by omega
    have hb2 : (i : Int) + 1 ≤ (i : Int) + 1 + (m : Int) := by omega
    have hb4 : (0 : Int) ≤ (i : Int) + 1 := by omega
    have hb5 : (i : Int) ≤ (i : Int) + 1 + (c : Int) := by omega
    have hown : Ow w.drew 3 [g] (some ⟨g, 0, none⟩) i (i + 1 + c) ((ints xs).take i) := (how.head i (by omega)).drew
    have hone : ∀ u ∈ (ints xs).drop (i + 1), u.oneCell' = true := fun u hu => one_ints _ u (List.mem_of_mem_drop hu)
    have hroom : i + m ≤ i + 1 + c := by omega
    go_enter Try.func48, Try.ntmps48
    go_wp2_with fail
    go_region_law (refine step_appI (sa := some ⟨g, 0, none⟩) (n := i) (cap := i + 1 + c) (xa := some ⟨g, i + 1, none⟩) (m := m) (xcap := c) (.tmp 22) (.tmp 25) rfl rfl (by simp [Act.eval, Act.put]) (by simp [Act.eval, Act.put]) hown hsrc hone hroom ?_; intro w1 ow1 kp1)
    go_wp2_with (first | ((with_reducible show wpList _ _ _ (⟨some 31, _, _, _, _, _⟩ :: _) _ _); refine wpList_cutCap _ rfl (.tmp 27) (.tmp 29) (.tmp 30) 23 rfl 3 Try.underlying23 szInt (i + m) (i + 1 + m) rfl rfl (by simp) rfl (by simp; try omega) (by omega) (by omega) ?_) | ((with_reducible show wpList _ _ _ (⟨none, _, _, _, _, _⟩ :: _) _ _); refine wpList_clearTail _ rfl (.tmp 31) 23 rfl 3 Try.underlying23 infoInt rfl rfl ((i + 1 + m) - (i + m)) _ rfl ow1 (by omega) ?_; intro w2 ow2 kp2))
    go_ret
    refine ⟨?_, ?_, ((Keeps.drew [g] w).trans kp1 (Step.refl _ _)).trans kp2 (Step.refl _ _)⟩
    · show Ending.returned (Value.slice _ (i + m) _) = _
      rw [show i + 1 + m - 1 = i + m by omega]
    · rw [ints_take, ints_drop, ints_append, eraseIdx_eq] at ow2
      rw [show i + 1 + m - 1 = i + m by omega]
      exact ow2


end Go.Proofs.Ytpicnechmdbkfaa

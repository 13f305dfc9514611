/- Turning round the head of a list: the program's and the reference's. No condition but lengths. -/
import Derived.Test.YtfnkddplmpcbgaaTurn
import Derived.Test.YtfnkddplmpcbgaaRoom
namespace Go.Proofs.Ytfnkddplmpcbgaa
open Go.RowKit
set_option linter.unusedVariables false
set_option linter.unusedSimpArgs false

/-- append as one step of a region that draws its order. -/
theorem step_appG {P : Program} {ops : Array Oper} {o : Oper} {a : Act} {w : World} {K : Act → World → Prop} {Q : Exit → Act → World → Prop} {E : Prop}
    (hg : o.guard = none) (s x : Operand) (t : TypeId) (hop : o.op = Op.call { callee := Callee.builtin Builtin.append, args := #[s, x], argTypes := #[t, t] })
    (T : TypeId) {z : Value} {bytes : Nat} (ht : P.underlying t = some (.slice T)) (hinfo : (P.info? T).map (fun i => (i.zero, i.size, i.bytes)) = some (some z, 1, bytes)) (hz1 : z.cells.size = 1)
    {L : List Nat} {sa : Option Addr} {n cap : Nat} {vs : List Value} {xa : Option Addr} {m xcap : Nat} {news : List Value} (hs : a.eval s = .slice sa n cap) (hx : a.eval x = .slice xa m xcap)
    (own : Ow w T L sa n cap vs) (src : Rd w xa m xcap news) (h1 : ∀ u ∈ news, u.oneCell' = true) (hb : (n + m) * bytes ≤ 140737488355328) (h63 : n + m ≤ maxLen)
    (hK : ∀ a' cap' L' w', (n + m ≤ cap → cap' = cap) → Ow w' T L' a' (n + m) cap' (vs ++ news) → Keeps L w w' → Step w L L' → K (a.put o.dst (.slice a' (n + m) cap')) w') :
    if Region.wanted o (yielded ops a.tmps) = true then Oper.wp P o a w K Q else E := by
  have hw : Region.wanted o (yielded ops a.tmps) = true := by simp [Region.wanted, hg]
  rw [if_pos hw]
  by_cases hroom : n + m ≤ cap
  · obtain ⟨w', hrun, r1, r2⟩ := run_appRoom (P := P) t o.type T ht hinfo own src h1 hroom
    unfold Oper.wp
    simp [execOp, hop, resolve, invoke, builtin, hs, hx, hrun, Result.andThen]
    exact hK sa cap L w' (fun _ => rfl) r1 r2 (Step.refl _ _)
  · obtain ⟨a', cap', L', w', hrun, r1, r2, r3⟩ := run_app (P := P) t o.type T ht hinfo hz1 own src h1 hb h63
    unfold Oper.wp
    simp [execOp, hop, resolve, invoke, builtin, hs, hx, hrun, Result.andThen]
    exact hK a' cap' L' w' (fun h => absurd h hroom) r1 r2 r3

/-- wpList_app, and what room tells of the capacity. -/
theorem wpList_appR {P : Program} (w : World) {ops : Array Oper} {rest : List Oper} {o : Oper} {act : Act} {Q : Exit → Act → World → Prop} (hgd : o.guard = none) (s x : Operand) (t : TypeId)
    (ho : o.op = .call { callee := .builtin .append, args := #[s, x], argTypes := #[t, t] })
    (T : TypeId) {z : Value} {bytes : Nat} (ht : P.underlying t = some (.slice T)) (hinfo : (P.info? T).map (fun i => (i.zero, i.size, i.bytes)) = some (some z, 1, bytes)) (hz1 : z.cells.size = 1)
    {L : List Nat} {a : Option Addr} {n cap : Nat} {vs : List Value} {xa : Option Addr} {m xcap : Nat} {news : List Value} (hs : act.eval s = .slice a n cap) (hx : act.eval x = .slice xa m xcap)
    (own : Ow w T L a n cap vs) (src : Rd w xa m xcap news) (h1 : ∀ u ∈ news, u.oneCell' = true) (hb : (n + m) * bytes ≤ 140737488355328) (h63 : n + m ≤ maxLen)
    (h : ∀ a' cap' L' w', (n + m ≤ cap → cap' = cap) → Ow w' T L' a' (n + m) cap' (vs ++ news) → Keeps L w w' → Step w L L' → wpList P ops Q rest (act.put o.dst (.slice a' (n + m) cap')) w') : wpList P ops Q (o :: rest) act w := by
  refine wpList_plain hgd fun K hK' => ?_
  by_cases hroom : n + m ≤ cap
  · obtain ⟨w', hrun, r1, r2⟩ := run_appRoom (P := P) t o.type T ht hinfo own src h1 hroom
    unfold Oper.wp
    simp [execOp, ho, resolve, invoke, builtin, hs, hx, hrun, Result.andThen]
    exact hK' _ _ (h a cap L w' (fun _ => rfl) r1 r2 (Step.refl _ _))
  · obtain ⟨a', cap', L', w', hrun, r1, r2, r3⟩ := run_app (P := P) t o.type T ht hinfo hz1 own src h1 hb h63
    unfold Oper.wp
    simp [execOp, ho, resolve, invoke, builtin, hs, hx, hrun, Result.andThen]
    exact hK' _ _ (h a' cap' L' w' (fun h => absurd h hroom) r1 r2 r3)



set_option maxHeartbeats 1000000 in
theorem c_l22Flip (a : Option Addr) (n cap k : Nat) (xs : List Int) (w : World) (hr : RdI w a n cap xs) (hz : n = 0 → cap = 0) (hn : n ≤ 8) (hk : k ≤ n) :
    Calls Try.prog 44 #[.slice a n cap, .int .i64 k] w fun e w' => ∃ a' cap', e = .returned (.slice a' n cap') ∧ (n = 0 → cap' = 0) ∧ OwI w' 3 w.heap.size a' n cap' (flipL xs k) ∧ Below w.heap.size w w' := by
  have HL := Lib.hid hr.lens
  have hle := hr.le
  rcases Nat.eq_zero_or_pos n with h0 | hpos
  · subst h0
    obtain rfl : cap = 0 := hz rfl
    obtain rfl : k = 0 := by omega
    obtain rfl : xs = [] := List.eq_nil_of_length_eq_zero HL.out
    cases a with
    | none =>
      go_enter Try.func44, Try.ntmps44
      go_wp2_with fail
      go_region_law (first | (refine step_appG rfl (.tmp 8) (.tmp 11) 26 rfl 3 Try.underlying26 infoInt rfl (by simp [Act.eval, Act.put]) (by simp [Act.eval, Act.put]) (xa := none) (m := 0) (xcap := 0) ow2 (Rd.nil _ _ _ (by unfold maxLen; omega)) (fun u hu => by cases hu) (by omega) (by unfold maxLen; omega) ?_; intro a1 cap1 L1 w1 hc1 ow1 kp1 st1; obtain rfl := hc1 (by omega)) | (go_simp; go_at_call 54; refine (c_l17Turn none 0 0 [] _ (Rd.nil _ _ _ (by unfold maxLen; omega)) (by omega)).mono ?_; rintro e w' ⟨a2, cap2, rfl, hc2, ⟨L2, ow2, n2⟩, b2⟩; obtain rfl := hc2 rfl))
      go_wp2_with fail
      go_ret
      have b3 : Below w.heap.size w w' := Below.nx (Below.drew (Below.refl _ _)) b2
      exact ⟨a1, 0, rfl, by simp, ⟨L1, by simpa [flipL] using ow1, st1.new n2 b3.size⟩, kp1.below b3 n2 b3.size⟩
    | some x =>
      go_enter Try.func44, Try.ntmps44
      go_wp2_with fail
      go_region_law (first | (refine step_appG rfl (.tmp 8) (.tmp 11) 26 rfl 3 Try.underlying26 infoInt rfl (by simp [Act.eval, Act.put]) (by simp [Act.eval, Act.put]) (xa := (some x)) (m := 0) (xcap := 0) ow2 (Rd.nil _ _ _ (by unfold maxLen; omega)) (fun u hu => by cases hu) (by omega) (by unfold maxLen; omega) ?_; intro a1 cap1 L1 w1 hc1 ow1 kp1 st1; obtain rfl := hc1 (by omega)) | (go_simp; go_at_call 54; refine (c_l17Turn (some x) 0 0 [] _ (Rd.nil _ _ _ (by unfold maxLen; omega)) (by omega)).mono ?_; rintro e w' ⟨a2, cap2, rfl, hc2, ⟨L2, ow2, n2⟩, b2⟩; obtain rfl := hc2 rfl))
      go_wp2_with fail
      go_ret
      have b3 : Below w.heap.size w w' := Below.nx (Below.drew (Below.refl _ _)) b2
      exact ⟨a1, 0, rfl, by simp, ⟨L1, by simpa [flipL] using ow1, st1.new n2 b3.size⟩, kp1.below b3 n2 b3.size⟩
  · obtain ⟨b, off, rfl, hbl, _⟩ := hr.int hpos
    have hmx := hr.max
    unfold maxLen at hmx
    have hd : Below w.heap.size w w.drew := Below.drew (Below.refl _ _)
    have hhead : RdI w.drew (some ⟨b, off, none⟩) k cap (xs.take k) := by
      have h := hr.head k hk
      rw [ints_take] at h
      exact h.drew
    have hfin : ∀ m, k + m = n → ints (xs.take k).reverse ++ (ints xs).drop k = ints (flipL xs k) := fun m _ => by unfold flipL; rw [ints_drop, ints_append]
    have HF := Lib.hid hfin
    clear hfin
    by_cases hck : cap = k
    · subst hck
      obtain rfl : n = cap := by omega
      have hsrc : Rd w.drew (some ⟨b, off, none⟩) 0 0 ((ints xs).drop n) := ⟨by rw [List.length_drop, hr.len]; omega, by omega, by unfold maxLen; omega, by omega⟩
      have hone : ∀ u ∈ (ints xs).drop n, u.oneCell' = true := fun u hu => one_ints _ u (List.mem_of_mem_drop hu)
      go_enter Try.func44, Try.ntmps44
      go_wp2_with fail
      go_region_law (first | (refine step_appG rfl (.tmp 8) (.tmp 11) 26 rfl 3 Try.underlying26 infoInt rfl (by simp [Act.eval, Act.put]) (by simp [Act.eval, Act.put]) (xa := (some ⟨b, off, none⟩)) (m := 0) (xcap := 0) ow2 (hsrc.below b2) hone (by omega) (by unfold maxLen; omega) ?_; intro a1 cap1 L1 w1 hc1 ow1 kp1 st1) | (go_simp; go_at_call 54; refine (c_l17Turn (some ⟨b, off, none⟩) n n (xs.take n) _ hhead (by omega)).mono ?_; rintro e w' ⟨a2, cap2, rfl, hc2, ⟨L2, ow2, n2⟩, b2⟩))
      go_wp2_with fail
      go_ret
      have b3 : Below w.heap.size w w' := Below.nx hd b2
      rw [HF.out 0 (by omega)] at ow1
      exact ⟨a1, cap1, rfl, fun h => absurd h (by omega), ⟨L1, ow1, st1.new n2 b3.size⟩, kp1.below b3 n2 b3.size⟩
    · obtain ⟨m, rfl⟩ : ∃ m, n = k + m := ⟨n - k, by omega⟩
      obtain ⟨c, rfl⟩ : ∃ c, cap = k + c := ⟨cap - k, by omega⟩
      have hc0 : ¬ c = 0 := by omega
      have hsrc : Rd w.drew (some ⟨b, off + k, none⟩) m c ((ints xs).drop k) := by
        have h := hr.from k (by omega)
        unfold cutAt at h
        rw [if_neg hck, Option.map_some, Addr.add_lit, Nat.add_sub_cancel_left, Nat.add_sub_cancel_left] at h
        exact h.drew
      have hone : ∀ u ∈ (ints xs).drop k, u.oneCell' = true := fun u hu => one_ints _ u (List.mem_of_mem_drop hu)
      have hb1 : (k : Int) ≤ (k : Int) + (m : Int) := by omega
      have hb2 : (k : Int) ≤ (k : Int) + (c : Int) := by omega
      go_enter Try.func44, Try.ntmps44
      go_wp2_with fail
      go_region_law (first | (refine step_appG rfl (.tmp 8) (.tmp 11) 26 rfl 3 Try.underlying26 infoInt rfl (by simp [Act.eval, Act.put]) (by simp [Act.eval, Act.put]) (xa := (some ⟨b, off + k, none⟩)) (m := m) (xcap := c) ow2 (hsrc.below b2) hone (by omega) (by unfold maxLen; omega) ?_; intro a1 cap1 L1 w1 hc1 ow1 kp1 st1) | (go_simp; go_at_call 54; refine (c_l17Turn (some ⟨b, off, none⟩) k (k + c) (xs.take k) _ hhead (by omega)).mono ?_; rintro e w' ⟨a2, cap2, rfl, hc2, ⟨L2, ow2, n2⟩, b2⟩))
      go_wp2_with fail
      go_ret
      have b3 : Below w.heap.size w w' := Below.nx hd b2
      rw [HF.out m rfl] at ow1
      exact ⟨a1, cap1, rfl, fun h => absurd h (by omega), ⟨L1, ow1, st1.new n2 b3.size⟩, kp1.below b3 n2 b3.size⟩



theorem c_Reverse0 (a : Option Addr) (cap : Nat) (w : World) : Calls Try.prog 51 #[.slice a 0 cap] w fun e w' => e = .returned (.tuple #[]) ∧ w' = w := by
  go_enter Try.func51, Try.ntmps51
  go_wp2
  go_loopw [2, 3] (fun i j wr => i = .int .i64 0 ∧ j = .int .i64 (-1) ∧ wr = w) (fun _ _ _ => 0)
  case atStart => exact ⟨rfl, rfl, rfl⟩
  case round =>
    obtain ⟨rfl, rfl, rfl⟩ := hrel
    go_wp2
    go_end0
    exact ⟨rfl, rfl⟩

set_option maxHeartbeats 400000 in
theorem c_flip (a : Option Addr) (n cap k : Nat) (xs : List Int) (w : World) (hr : RdI w a n cap xs) (hn : n ≤ 8) (hk : k ≤ n) :
    Calls Try.prog 36 #[.slice a n cap, .int .i64 k] w fun e w' => ∃ a' cap', e = .returned (.slice a' n cap') ∧ OwI w' 3 w.heap.size a' n cap' (flipL xs k) ∧ Below w.heap.size w w' := by
  go_enter Try.func36, Try.ntmps36
  go_wp2_with fail
  refine (c_Clone a n cap xs _ hr (by omega)).mono ?_
  rintro e w1 ⟨a1, cap1, rfl, ⟨L1, ow1, n1⟩, b1⟩
  have hle := ow1.le
  go_wp2_with ((with_reducible show wpList _ _ _ (⟨some 10, _, _, _, _, _⟩ :: _) _ _); refine wpList_upto _ rfl (.tmp 8) (.tmp 9) 26 rfl 3 Try.underlying26 szInt k rfl rfl rfl (by omega) ?_)
  rcases Nat.eq_zero_or_pos k with h0 | hpos
  · subst h0
    refine (c_Reverse0 a1 cap1 _).mono ?_
    rintro e w2 ⟨rfl, rfl⟩
    go_wp2
    go_ret
    exact ⟨a1, cap1, rfl, ⟨L1, by simpa [flipL] using ow1, n1⟩, b1⟩
  · obtain ⟨g, rfl, rfl, _, _⟩ := ow1.int (by omega)
    refine (c_Reverse g n cap1 k xs _ ow1 hk (by omega)).mono ?_
    rintro e w2 ⟨rfl, ow2, kp2⟩
    go_wp2
    go_ret
    exact ⟨_, cap1, rfl, ⟨[g], ow2, n1⟩, kp2.below b1 n1 b1.size⟩


end Go.Proofs.Ytfnkddplmpcbgaa

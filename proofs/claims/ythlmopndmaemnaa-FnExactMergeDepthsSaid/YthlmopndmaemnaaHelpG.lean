/- The statements' own helpers at slices of slices. No condition but lengths. -/
import Derived.Test.YthlmopndmaemnaaHelp
import Derived.Test.YthlmopndmaemnaaGrid
import Derived.Test.YthlmopndmaemnaaDrew
namespace Go.Proofs.Ythlmopndmaemnaa
open Go.RowKit
set_option linter.unusedVariables false

def SmallG (n : Nat) (xss : List (List Int)) : Prop := n ≤ 1000 ∧ ∀ ys ∈ xss, ys.length ≤ 1000
theorem getD_mem {xss : List (List Int)} {j : Nat} (h : j < xss.length) : xss.getD j [] ∈ xss := by
  have : xss.getD j [] = xss[j] := by simp [List.getD, h]
  rw [this]; exact List.getElem_mem h

theorem c_eqIntSq (a a' : Option Addr) (n cap n' cap' : Nat) (xs : List Int) (w : World) (h1 : RdI w a n cap xs) (h2 : RdI w a' n' cap' xs) (hn : n ≤ 1048576) :
    Calls Try.prog 12 #[.slice a n cap, .slice a' n' cap'] w fun e w' => e = .returned (.bool true) ∧ ∃ m, w' = w.drewN m := by
  obtain rfl : n = n' := by rw [← h1.lens, ← h2.lens]
  go_enter Try.func12, Try.ntmps12
  go_wp2
  go_loopw [5] (fun i wr => ∃ k : Nat, k ≤ n ∧ i = .int .i64 k ∧ Dr w wr) (fun i _ => n - (intOf i).toNat)
  case atStart => exact ⟨0, by omega, rfl, Dr.refl _⟩
  case round =>
    obtain ⟨k, hk, rfl, hb⟩ := hrel
    by_cases hlt : k < n
    · obtain ⟨b, off, rfl, hbl, hc⟩ := (h1.below hb.below).int (by omega)
      obtain ⟨b', off', rfl, hbl', hc'⟩ := (h2.below hb.below).int (by omega)
      have c1 := hc k hlt
      have c2 := hc' k hlt
      clear hc hc'
      go_wp2_with fail
      go_quiet (fail)
      go_wp2
      go_roundw
      case rel => exact ⟨k + 1, by omega, by go_num, hb.step _⟩
      case measure => simp [intOf]; omega
    · obtain rfl : k = n := by omega
      go_wp2
      go_ret
      exact ⟨rfl, hb⟩

set_option maxHeartbeats 400000 in
theorem c_eqIntSS (a a' : Option Addr) (n cap n' cap' : Nat) (xss : List (List Int)) (w : World) (h1 : RdG w a n cap xss) (h2 : RdG w a' n' cap' xss) (hs : SmallG n xss) :
    Calls Try.prog 11 #[.slice a n cap, .slice a' n' cap'] w fun e w' => e = .returned (.bool true) ∧ Below w.heap.size w w' := by
  obtain rfl : n = n' := by rw [← h1.len, ← h2.len]
  have HL := Lib.hid h1.len
  have hn := hs.1
  go_enter Try.func11, Try.ntmps11
  go_wp2
  go_loopw [5] (fun i wr => ∃ k : Nat, k ≤ n ∧ i = .int .i64 k ∧ Below w.heap.size w wr) (fun i _ => n - (intOf i).toNat)
  case atStart => exact ⟨0, by omega, rfl, Below.refl _ _⟩
  case round =>
    obtain ⟨k, hk, rfl, hb⟩ := hrel
    by_cases hlt : k < n
    · obtain ⟨b, off, a1, n1, cap1, rfl, _, c1, r1⟩ := (h1.below hb).at' hlt
      obtain ⟨b', off', a2, n2, cap2, rfl, _, c2, r2⟩ := (h2.below hb).at' hlt
      have hl := hs.2 _ (getD_mem (by rw [HL.out]; exact hlt))
      rw [r1.lens] at hl
      have call : ∀ q, Calls Try.prog 12 #[.slice a1 n1 cap1, .slice a2 n2 cap2] (wr.drewN q) fun e w' => e = .returned (.bool true) ∧ ∃ m, w' = (wr.drewN q).drewN m := fun q => c_eqIntSq _ _ _ _ _ _ _ _ (r1.drewN q) (r2.drewN q) (by omega)
      have CA := Lib.hid call
      clear call r1 r2
      go_wp2_with fail
      go_quiet ((with_reducible refine Calls.quiet_of (CA.out _)))
      go_wp2_with fail
      go_roundw
      case rel => exact ⟨k + 1, by omega, by go_num, hb.trans (below_drewN (Below.refl _ _) _)⟩
      case measure => simp [intOf]; omega
    · obtain rfl : k = n := by omega
      go_wp2
      go_ret
      exact ⟨rfl, hb⟩


/-- The rows with the numbers k, k + 1, .. in them. -/
def markL (k : Int) : List Cell → List Cell
  | [] => []
  | c :: cs => ⟨c.L, c.a, c.n, c.cap, marks k c.n⟩ :: markL (k + c.n) cs
def sumN : List Cell → Nat
  | [] => 0
  | c :: cs => c.n + sumN cs
theorem markL_vals (k : Int) (cs : List Cell) : (markL k cs).map Cell.val = cs.map Cell.val := by
  induction cs generalizing k with
  | nil => rfl
  | cons c cs ih => simp only [markL, List.map_cons, ih]; rfl
theorem markL_len (k : Int) (cs : List Cell) : (markL k cs).length = cs.length := by
  induction cs generalizing k with
  | nil => rfl
  | cons c cs ih => simp [markL, ih]
theorem markL_fp (k : Int) (L : List Nat) (cs : List Cell) : fp L (markL k cs) = fp L cs := by
  have : ∀ (cs : List Cell) k, (markL k cs).flatMap (·.L) = cs.flatMap (·.L) := by
    intro cs
    induction cs with
    | nil => intro k; rfl
    | cons c cs ih => intro k; simp only [markL, List.flatMap_cons, ih]
  unfold fp; rw [this]
theorem markL_append (k : Int) (cs ds : List Cell) : markL k (cs ++ ds) = markL k cs ++ markL (k + sumN cs) ds := by
  induction cs generalizing k with
  | nil => simp [markL, sumN]
  | cons c cs ih => simp only [List.cons_append, markL, sumN, ih]; congr 3; omega
theorem sumN_append (cs ds : List Cell) : sumN (cs ++ ds) = sumN cs + sumN ds := by
  induction cs with
  | nil => simp [sumN]
  | cons c cs ih => simp only [List.cons_append, sumN, ih]; omega
theorem sumN_le (cs : List Cell) (h : ∀ c ∈ cs, c.n ≤ 1000) : sumN cs ≤ 1000 * cs.length := by
  induction cs with
  | nil => simp [sumN]
  | cons c cs ih => have := ih (fun d hd => h d (by simp [hd])); have := h c (by simp); simp only [sumN, List.length_cons]; omega
theorem take_cell {cs : List Cell} {j : Nat} {c : Cell} (h : cs[j]? = some c) : cs.take (j + 1) = cs.take j ++ [c] := by
  rw [List.take_add_one, h]; rfl
/-- One row more is marked. -/
theorem OwG.mark {w w' : World} {T Ti : TypeId} {L : List Nat} {a : Option Addr} {n cap : Nat} {cs ds es : List Cell} {c : Cell} {xs : List Int} (h : OwG w T Ti L a n cap (ds ++ c :: es)) (hv : Ow w' Ti c.L c.a c.n c.cap (ints xs)) (k : Keeps c.L w w') :
    OwG w' T Ti L a n cap (ds ++ ⟨c.L, c.a, c.n, c.cap, xs⟩ :: es) := by
  have hp := List.pairwise_append.1 h.pair
  have hp2 := List.pairwise_cons.1 hp.2.1
  have hcm : c ∈ ds ++ c :: es := by simp
  refine ⟨?_, fun d hd => ?_, fun d hd => ?_, ?_⟩
  · have h1 := h.row.keep k (h.apart c hcm)
    have e : (ds ++ ⟨c.L, c.a, c.n, c.cap, xs⟩ :: es).map Cell.val = (ds ++ c :: es).map Cell.val := by simp [Cell.val]
    rw [e]; exact h1
  · rcases List.mem_append.1 hd with h1 | h1
    · exact (h.cells d (by simp [h1])).keep k (hp.2.2 d h1 c (by simp))
    · rcases List.mem_cons.1 h1 with h2 | h2
      · subst h2; exact hv
      · exact (h.cells d (by simp [h2])).keep k (hp2.1 d h2).symm
  · rcases List.mem_append.1 hd with h1 | h1
    · exact h.apart d (by simp [h1])
    · rcases List.mem_cons.1 h1 with h2 | h2
      · subst h2; exact h.apart c hcm
      · exact h.apart d (by simp [h2])
  · refine List.pairwise_append.2 ⟨hp.1, List.pairwise_cons.2 ⟨hp2.1, hp2.2⟩, fun d hd e he => ?_⟩
    rcases List.mem_cons.1 he with h2 | h2
    · subst h2; exact hp.2.2 d hd c (by simp)
    · exact hp.2.2 d hd e (by simp [h2])
theorem SmallG.cells {w : World} {T Ti : TypeId} {L : List Nat} {a : Option Addr} {n cap : Nat} {cs : List Cell} {xss : List (List Int)} (h : OwG w T Ti L a n cap cs) (e : cs.map (·.xs) = xss) (s : SmallG n xss) : n ≤ 1000 ∧ ∀ c ∈ cs, c.n ≤ 1000 :=
  ⟨s.1, fun c hc => by
    have := s.2 c.xs (e ▸ List.mem_map_of_mem hc)
    rwa [(h.cells c hc).lens] at this⟩

set_option maxHeartbeats 400000 in
theorem c_markIntSS (L : List Nat) (a : Option Addr) (n cap : Nat) (cs : List Cell) (w : World) (og : OwG w 22 3 L a n cap cs) (hs : n ≤ 1000 ∧ ∀ c ∈ cs, c.n ≤ 1000) :
    Calls Try.prog 14 #[.slice a n cap, .int .i64 1] w fun e w' => e = .returned (.int .i64 (1 + sumN cs)) ∧ OwG w' 22 3 L a n cap (markL 1 cs) ∧ Keeps (fp L cs) w w' := by
  have HL := Lib.hid og.len
  have hn := hs.1
  have HS := Lib.hid hs.2
  clear hs
  go_enter Try.func14, Try.ntmps14
  go_wp2
  go_loopw [1, 5] (fun v i wr => ∃ j : Nat, j ≤ n ∧ i = .int .i64 j ∧ v = .int .i64 (1 + sumN (cs.take j)) ∧ OwG wr 22 3 L a n cap (markL 1 (cs.take j) ++ cs.drop j) ∧ Keeps (fp L cs) w wr) (fun _ i _ => n - (intOf i).toNat)
  case atStart => exact ⟨0, by omega, rfl, by simp [sumN], by simpa [markL] using og, Keeps.refl _ _⟩
  case round =>
    obtain ⟨j, hj, rfl, rfl, ho, kp⟩ := hrel
    by_cases hlt : j < n
    · have hjl : j < cs.length := by rw [HL.out]; exact hlt
      obtain ⟨c, hc⟩ : ∃ c, cs[j]? = some c := ⟨cs[j], by simp [hjl]⟩
      have hcm : c ∈ cs := List.mem_of_getElem? hc
      have hcn := HS.out c hcm
      have hd : cs.drop j = c :: cs.drop (j + 1) := by
        rw [List.drop_eq_getElem_cons hjl]; congr 1
        have := (List.getElem?_eq_some_iff.1 hc).2; exact this
      rw [hd] at ho
      have hml : (markL 1 (cs.take j)).length = j := by rw [markL_len, List.length_take]; omega
      obtain ⟨g, rfl, rfl, _, hcell, _⟩ := ho.addr (by omega)
      have c1 := hcell j c (by rw [List.getElem?_append_right (by omega), hml, Nat.sub_self]; rfl)
      clear hcell
      have hsum : sumN (cs.take j) ≤ 1000 * 1000 := by
        have h1 := sumN_le (cs.take j) (fun d hd => HS.out d (List.mem_of_mem_take hd))
        rw [List.length_take] at h1
        have : 1000 * min j cs.length ≤ 1000 * 1000 := Nat.mul_le_mul_left _ (by omega)
        omega
      have TK := Lib.hid (take_cell hc)
      go_wp2_with fail
      refine (c_markIntS c.L c.a c.n c.cap c.xs (1 + sumN (cs.take j)) _ (ho.cells c (by simp)) (by omega) (by omega) (by omega)).mono ?_
      rintro e w2 ⟨rfl, ow2, kp2⟩
      go_wp2
      go_roundw
      case rel =>
        refine ⟨j + 1, by omega, by go_num, int_eq (by rw [TK.out, sumN_append]; simp [sumN]; omega), ?_, kp.trans (kp2.mono (L' := fp [g] cs) (fun i hi => .inl (mem_fp.2 (.inr ⟨c, hcm, hi⟩)))) (Step.refl _ _)⟩
        have h := ho.mark (cs := cs) ow2 kp2
        rw [TK.out, markL_append, List.append_assoc]
        exact h
      case measure => simp [intOf]; omega
    · obtain rfl : j = n := by omega
      have e1 : cs.take j = cs := List.take_of_length_le (by rw [HL.out]; exact Nat.le_refl _)
      rw [e1, List.drop_of_length_le (by rw [HL.out]; exact Nat.le_refl _), List.append_nil] at ho
      have E1 := Lib.hid e1
      clear e1
      go_wp2
      go_ret
      exact ⟨by rw [E1.out]; rfl, ho, kp⟩

theorem markL_at (k : Int) (cs : List Cell) (j : Nat) (c : Cell) (h : cs[j]? = some c) : ((markL k cs).map (·.xs)).getD j [] = marks (k + sumN (cs.take j)) c.n := by
  induction cs generalizing k j with
  | nil => simp at h
  | cons d cs ih =>
    cases j with
    | zero => simp at h; subst h; simp [markL, sumN]
    | succ j =>
      have h2 := ih (k + d.n) j (by simpa using h)
      simp only [markL, List.map_cons, List.getD_cons_succ, List.take_succ_cons, sumN]
      rw [h2]; congr 1; omega

set_option maxHeartbeats 400000 in
theorem c_heldIntSS (a : Option Addr) (n cap : Nat) (cs : List Cell) (w : World) (hr : RdG w a n cap ((markL 1 cs).map (·.xs))) (hs : n ≤ 1000 ∧ ∀ c ∈ cs, c.n ≤ 1000) :
    Calls Try.prog 15 #[.slice a n cap, .int .i64 1] w fun e w' => e = .returned (.int .i64 (1 + sumN cs)) ∧ Below w.heap.size w w' := by
  have HL : Hid (cs.length = n) := Lib.hid (by have := hr.len; rw [List.length_map, markL_len] at this; exact this)
  have hn := hs.1
  have HS := Lib.hid hs.2
  clear hs
  go_enter Try.func15, Try.ntmps15
  go_wp2
  go_loopw [1, 5] (fun v i wr => ∃ j : Nat, j ≤ n ∧ i = .int .i64 j ∧ v = .int .i64 (1 + sumN (cs.take j)) ∧ Below w.heap.size w wr) (fun _ i _ => n - (intOf i).toNat)
  case atStart => exact ⟨0, by omega, rfl, by simp [sumN], Below.refl _ _⟩
  case round =>
    obtain ⟨j, hj, rfl, rfl, hb⟩ := hrel
    by_cases hlt : j < n
    · have hjl : j < cs.length := by rw [HL.out]; exact hlt
      obtain ⟨c, hc⟩ : ∃ c, cs[j]? = some c := ⟨cs[j], by simp [hjl]⟩
      have hcm : c ∈ cs := List.mem_of_getElem? hc
      have hcn := HS.out c hcm
      obtain ⟨b, off, a1, n1, cap1, rfl, _, c1, r1⟩ := (hr.below hb).at' hlt
      rw [markL_at 1 cs j c hc] at r1
      obtain rfl : c.n = n1 := by have := r1.lens; rw [marks_len] at this; exact this
      have hsum : sumN (cs.take j) ≤ 1000 * 1000 := by
        have h1 := sumN_le (cs.take j) (fun d hd => HS.out d (List.mem_of_mem_take hd))
        rw [List.length_take] at h1
        have : 1000 * min j cs.length ≤ 1000 * 1000 := Nat.mul_le_mul_left _ (by omega)
        omega
      have TK := Lib.hid (take_cell hc)
      go_wp2_with fail
      refine (c_heldIntS a1 c.n cap1 (1 + sumN (cs.take j)) _ r1 (by omega) (by omega) (by omega)).mono ?_
      rintro e w2 ⟨rfl, b2⟩
      go_wp2
      go_roundw
      case rel => exact ⟨j + 1, by omega, by go_num, int_eq (by rw [TK.out, sumN_append]; simp [sumN]; omega), Below.nx hb b2⟩
      case measure => simp [intOf]; omega
    · obtain rfl : j = n := by omega
      have E1 := Lib.hid (List.take_of_length_le (l := cs) (i := j) (by rw [HL.out]; exact Nat.le_refl _))
      go_wp2
      go_ret
      exact ⟨by rw [E1.out]; rfl, hb⟩


end Go.Proofs.Ythlmopndmaemnaa

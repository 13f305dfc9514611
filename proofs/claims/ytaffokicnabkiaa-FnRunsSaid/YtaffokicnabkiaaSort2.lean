/- The reference's own insertion sorts: places by their numbers, and numbers. No condition but lengths. -/
import Derived.Test.YtaffokicnabkiaaSort
namespace Go.Proofs.Ytaffokicnabkiaa
open Go.RowKit

def ltI (x y : Int) : Bool := decide (x < y)
def ltK (xs : List Int) (p q : Int) : Bool := decide (nth xs p.toNat < nth xs q.toNat)
def rangeI (n : Nat) : List Int := (List.range n).map fun i : Nat => (i : Int)
theorem rangeI_len (n : Nat) : (rangeI n).length = n := by simp [rangeI]
theorem nth_rangeI {n k : Nat} (h : k < n) : nth (rangeI n) k = k := by rw [nth_eq (by rw [rangeI_len]; exact h)]; simp [rangeI]
theorem mem_rangeI {n : Nat} {y : Int} (h : y ∈ rangeI n) : ∃ p : Nat, p < n ∧ y = p := by
  obtain ⟨p, hp, rfl⟩ := List.mem_map.1 h
  exact ⟨p, by simpa using hp, rfl⟩
theorem pos_of {lt : Int → Int → Bool} {n k j : Nat} (hk : k ≤ n) (hj : j < k) : ∃ p : Nat, p < n ∧ nth (sortTo lt (rangeI n) k) j = p :=
  mem_rangeI (mem_sortTo (by rw [rangeI_len]; exact hk) (nth_mem (by rw [sortTo_len]; exact hj)))


set_option maxHeartbeats 1000000 in
theorem c_l08Sort (a : Option Addr) (n cap : Nat) (xs : List Int) (w : World) (hr : RdI w a n cap xs) (hn : n ≤ 1000) :
    Calls Try.prog 64 #[.slice a n cap] w fun e w' => ∃ ai ci, e = .returned (.slice ai n ci) ∧ OwI w' 3 w.heap.size ai n ci (sortTo ltI xs n) ∧ Below w.heap.size w w' := by
  have hlen := Lib.hid hr.lens
  go_enter Try.func64, Try.ntmps64
  go_wp2
  go_loopw [3, 11] (fun l i wr => ∃ k : Nat, ∃ L la m lc, k ≤ n ∧ i = .int .i64 k ∧ l = .slice la m lc ∧ Ow wr 3 L la m lc (ints (sortTo ltI xs k)) ∧ New w.heap.size L ∧ Below w.heap.size w wr) (fun _ i _ => n - (intOf i).toNat)
  case atStart => exact ⟨0, [], _, _, _, by omega, rfl, rfl, Ow.bare _ _ _, fun _ h => (by cases h), (Below.refl _ _).alloc (Nat.le_refl _) _⟩
  case round =>
    obtain ⟨k, L, la, m, lc, hk, rfl, rfl, how, hnew, hb⟩ := hrel
    have hcap := hr.le
    have hcm := hr.max
    unfold maxLen at hcm
    have hmk : k = m := by have := how.lens; rw [sortTo_len] at this; exact this
    subst hmk
    by_cases hlt : k < n
    · obtain ⟨b, off, rfl, hbl, hc⟩ := (hr.below hb).int (by omega)
      have c1 := hc k hlt
      have H := Lib.hid hc
      clear hc
      have hlm := how.le
      have hlx := how.max
      unfold maxLen at hlx
      go_wp2_with fail
      obtain ⟨wo, rfl⟩ : ∃ wo : World, wo = wr := ⟨_, rfl⟩
      go_loopw [6] (fun v wr => ∃ j : Nat, j ≤ k ∧ v = .int .i64 j ∧ slotD ltI (sortTo ltI xs k) (nth xs k) j = slotD ltI (sortTo ltI xs k) (nth xs k) k ∧ Below wo.heap.size wo wr) (fun v _ => (intOf v).toNat)
      case atStart => exact ⟨k, by omega, rfl, rfl, Below.refl _ _⟩
      case round =>
        obtain ⟨j, hj, rfl, hsl, hbq⟩ := hrel
        have HSL := Lib.hid hsl
        clear hsl
        have fin : slotD ltI (sortTo ltI xs k) (nth xs k) k = j → ∀ (w3 : World) (a3 : Option Addr) (cap3 : Nat) (L3 : List Nat), Ow w3 3 L3 a3 (j + 1 + (k - j)) cap3 ((ints (sortTo ltI xs k)).take j ++ [.int .i64 (nth xs k)] ++ (ints (sortTo ltI xs k)).drop j) → Ow w3 3 L3 a3 (j + 1 + (k - j)) cap3 (ints (sortTo ltI xs (k + 1))) := fun he w3 a3 cap3 L3 h => by
          have e : (ints (sortTo ltI xs k)).take j ++ [.int .i64 (nth xs k)] ++ (ints (sortTo ltI xs k)).drop j = ints (sortTo ltI xs (k + 1)) := by
            have e0 : nth xs k = nth xs k := by rfl
            simp only [sortTo, insS]
            rw [sortTo_len, e0, he, insAt]
            simp [ints]
          rw [← e]; exact h
        have FIN := Lib.hid fin
        clear fin
        have hb2 := Below.nx hb hbq
        have hz := hbq.size
        have hz0 := hb.size
        have owq := how.below hbq
        have arms : True := trivial
        by_cases hj0 : j = 0
        · subst hj0
          go_wp2_with (first | ((with_reducible show wpList _ _ _ (⟨some 33, _, _, _, _, _⟩ :: _) _ _); refine wpList_upto _ rfl (.tmp 31) (.tmp 32) 22 rfl 3 Try.underlying22 szInt 0 rfl rfl (by simp) (by omega) ?_) | ((with_reducible show wpList _ _ _ (⟨some 34, _, _, _, _, _⟩ :: _) _ _); refine wpList_app _ rfl _ _ 22 rfl 3 Try.underlying22 infoInt rfl rfl rfl (Ow.bare _ 3 _) ((owq.alloc _).rd.head 0 (by omega)) (fun u hu => one_ints _ u (List.mem_of_mem_take hu)) (by omega) (by unfold maxLen; omega) ?_; intro a1 cap1 L1 w1 ow1 kp1 st1; simp only [Nat.zero_add, List.nil_append] at ow1; have own1 := (owq.alloc _).keep kp1 (fun _ _ h => by cases h); have n1 : New wr.heap.size L1 := fun i hi => (by rcases st1 i hi with h | h; cases h; simp at h; omega)) | ((with_reducible show wpList _ _ _ (⟨some 38, _, _, _, _, _⟩ :: _) _ _); refine wpList_app _ rfl _ _ 22 rfl 3 Try.underlying22 infoInt rfl rfl rfl (ow1.alloc _) (Rd.one _ _ _) (one_int _) (by omega) (by unfold maxLen; omega) ?_; intro a2 cap2 L2 w2 ow2 kp2 st2; have own2 := (own1.alloc _).keep kp2 (Apart.of_new owq.old n1); have n2 : New wr.heap.size L2 := st2.new n1 (by have := kp1.size; simp at this ⊢; omega)) | ((with_reducible show wpList _ _ _ (⟨some 42, _, _, _, _, _⟩ :: _) _ _); refine wpList_from _ rfl (.tmp 40) (.tmp 41) 22 rfl 3 Try.underlying22 szInt 0 rfl rfl (by simp) own2.rd (by omega) ?_; intro a4 ha4 r4; clear ha4) | ((with_reducible show wpList _ _ _ (⟨some 43, _, _, _, _, _⟩ :: _) _ _); refine wpList_app _ rfl _ _ 22 rfl 3 Try.underlying22 infoInt rfl rfl rfl ow2 r4 (fun u hu => one_ints _ u (List.mem_of_mem_drop hu)) (by omega) (by unfold maxLen; omega) ?_; intro a3 cap3 L3 w3 ow3 kp3 st3))
          have z1 := kp1.size
          have z2 := kp2.size
          simp at z1 z2
          have n3 : New wr.heap.size L3 := st3.new n2 (by omega)
          have b3 : Below w.heap.size w w3 := (((hb2.alloc hb2.size _).trans (kp1.below0 (fun _ h => by cases h) (by simp; omega))).alloc (by omega) _ |>.trans (kp2.below0 (n1.mono (by omega)) (by simp; omega))).trans (kp3.below0 (n2.mono (by omega)) (by omega))
          go_roundw
          case rel => exact ⟨k + 1, L3, a3, _, cap3, by omega, by go_num, rfl, FIN.out (by rw [← HSL.out]; rfl) _ _ _ _ ow3, n3.mono (by omega), b3⟩
          case measure => simp [intOf]; omega
        · obtain ⟨j, rfl⟩ : ∃ i, j = i + 1 := ⟨j - 1, by omega⟩
          obtain ⟨g, rfl, rfl, hg, hoc, hof⟩ := (how.below hbq).int (by have := how.le; omega)
          have c2 := hoc j (by omega)
          clear hoc hof
          by_cases hgt : nth xs k < nth (sortTo ltI xs k) j
          · go_wp2_with fail
            go_roundw
            case rel => exact ⟨j, by omega, by go_num, by rw [← HSL.out]; exact (slotD_hit (by simpa [ltI] using hgt)).symm, hbq⟩
            case measure => simp [intOf]
          · have he : slotD ltI (sortTo ltI xs k) (nth xs k) k = j + 1 := by rw [← HSL.out]; exact slotD_miss (by simpa [ltI] using hgt)
            have HE := Lib.hid he
            clear he
            go_wp2_with (first | ((with_reducible show wpList _ _ _ (⟨some 33, _, _, _, _, _⟩ :: _) _ _); refine wpList_upto _ rfl (.tmp 31) (.tmp 32) 22 rfl 3 Try.underlying22 szInt (j + 1) rfl rfl (by simp) (by omega) ?_) | ((with_reducible show wpList _ _ _ (⟨some 34, _, _, _, _, _⟩ :: _) _ _); refine wpList_app _ rfl _ _ 22 rfl 3 Try.underlying22 infoInt rfl rfl rfl (Ow.bare _ 3 _) ((owq.alloc _).rd.head (j + 1) (by omega)) (fun u hu => one_ints _ u (List.mem_of_mem_take hu)) (by omega) (by unfold maxLen; omega) ?_; intro a1 cap1 L1 w1 ow1 kp1 st1; simp only [Nat.zero_add, List.nil_append] at ow1; have own1 := (owq.alloc _).keep kp1 (fun _ _ h => by cases h); have n1 : New wr.heap.size L1 := fun i hi => (by rcases st1 i hi with h | h; cases h; simp at h; omega)) | ((with_reducible show wpList _ _ _ (⟨some 38, _, _, _, _, _⟩ :: _) _ _); refine wpList_app _ rfl _ _ 22 rfl 3 Try.underlying22 infoInt rfl rfl rfl (ow1.alloc _) (Rd.one _ _ _) (one_int _) (by omega) (by unfold maxLen; omega) ?_; intro a2 cap2 L2 w2 ow2 kp2 st2; have own2 := (own1.alloc _).keep kp2 (Apart.of_new owq.old n1); have n2 : New wr.heap.size L2 := st2.new n1 (by have := kp1.size; simp at this ⊢; omega)) | ((with_reducible show wpList _ _ _ (⟨some 42, _, _, _, _, _⟩ :: _) _ _); refine wpList_from _ rfl (.tmp 40) (.tmp 41) 22 rfl 3 Try.underlying22 szInt (j + 1) rfl rfl (by simp) own2.rd (by omega) ?_; intro a4 ha4 r4; clear ha4) | ((with_reducible show wpList _ _ _ (⟨some 43, _, _, _, _, _⟩ :: _) _ _); refine wpList_app _ rfl _ _ 22 rfl 3 Try.underlying22 infoInt rfl rfl rfl ow2 r4 (fun u hu => one_ints _ u (List.mem_of_mem_drop hu)) (by omega) (by unfold maxLen; omega) ?_; intro a3 cap3 L3 w3 ow3 kp3 st3))
            have z1 := kp1.size
            have z2 := kp2.size
            simp at z1 z2
            have n3 : New wr.heap.size L3 := st3.new n2 (by omega)
            have b3 : Below w.heap.size w w3 := (((hb2.alloc hb2.size _).trans (kp1.below0 (fun _ h => by cases h) (by simp; omega))).alloc (by omega) _ |>.trans (kp2.below0 (n1.mono (by omega)) (by simp; omega))).trans (kp3.below0 (n2.mono (by omega)) (by omega))
            go_roundw
            case rel => exact ⟨k + 1, L3, a3, _, cap3, by omega, by go_num, rfl, FIN.out (HE.out) _ _ _ _ ow3, n3.mono (by omega), b3⟩
            case measure => simp [intOf]; omega
    · obtain rfl : k = n := by omega
      go_wp2_with fail
      go_ret
      exact ⟨_, _, rfl, ⟨L, how, hnew⟩, hb⟩



























































































end Go.Proofs.Ytaffokicnabkiaa

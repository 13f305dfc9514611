/- The longest descending parts the other way round. No condition but lengths. -/
import Derived.Test.YtiiijijbkacneaaTurn
import Derived.Test.YtiiijijbkacneaaPerm
namespace Go.Proofs.Ytiiijijbkacneaa
open Go.RowKit
set_option linter.unusedVariables false

def segL (xs : List Int) (a b : Nat) : List Int := (xs.take b).drop a
theorem segL_len {xs : List Int} {a b : Nat} (h : b ≤ xs.length) : (segL xs a b).length = b - a := by simp [segL]; omega
theorem nth_segL {xs : List Int} {a b j : Nat} (h : a + j < b) : nth (segL xs a b) j = nth xs (a + j) := by unfold segL; rw [nth_dropL, nth_takeL _ _ _ h]
theorem segL_succ {xs : List Int} {a b : Nat} (h : a ≤ b) (hb : b < xs.length) : segL xs a (b + 1) = segL xs a b ++ [nth xs b] := by
  unfold segL; rw [take_nth hb, List.drop_append_of_le_length (by rw [List.length_take]; omega)]
theorem segL_self (xs : List Int) (a : Nat) : segL xs a a = [] := List.drop_of_length_le (by rw [List.length_take]; omega)
theorem flipL_all (xs : List Int) (n : Nat) (h : xs.length ≤ n) : flipL xs n = xs.reverse := by unfold flipL; rw [List.take_of_length_le h, List.drop_of_length_le h, List.append_nil]
/-- After k numbers: what is out, and where the part begins that is not. -/
def popS (xs : List Int) : Nat → List Int × Nat
  | 0 => ([], 0)
  | k + 1 => if 0 < k ∧ nth xs (k - 1) < nth xs k then ((popS xs k).1 ++ (segL xs (popS xs k).2 k).reverse, k) else popS xs k
theorem popS_yes {xs : List Int} {k : Nat} (h : 0 < k ∧ nth xs (k - 1) < nth xs k) : popS xs (k + 1) = ((popS xs k).1 ++ (segL xs (popS xs k).2 k).reverse, k) := by rw [popS, if_pos h]
theorem popS_no {xs : List Int} {k : Nat} (h : ¬ (0 < k ∧ nth xs (k - 1) < nth xs k)) : popS xs (k + 1) = popS xs k := by rw [popS, if_neg h]
theorem popS_from (xs : List Int) (k : Nat) : (popS xs k).2 ≤ k - 1 := by
  induction k with
  | zero => simp [popS]
  | succ k ih => rw [popS]; split <;> simp <;> omega
theorem popS_len (xs : List Int) (k : Nat) (h : k ≤ xs.length) : (popS xs k).1.length = (popS xs k).2 := by
  induction k with
  | zero => simp [popS]
  | succ k ih =>
    have h1 := ih (by omega)
    have h2 := popS_from xs k
    rw [popS]
    split
    · simp only [List.length_append, List.length_reverse]; rw [h1, segL_len (by omega)]; omega
    · exact h1
def popF (xs : List Int) (n : Nat) : List Int := (popS xs n).1 ++ (segL xs (popS xs n).2 n).reverse
def popV (xs : List Int) : List Int := if isPerm xs = true then popF xs xs.length else []

































































































































set_option maxHeartbeats 1000000 in
theorem ci_PopStackSort (a : Option Addr) (n cap : Nat) (xs : List Int) (w : World) (hr : RdI w a n cap xs) :
    Calls Try.prog 11 #[.slice a n cap] w fun e w' => ∃ sa sn sc, e = .returned (.slice sa sn sc) ∧ OwI w' 3 w.heap.size sa sn sc (popV xs) ∧ sn ≤ 1048576 ∧ Below w.heap.size w w' := by
  have HL := Lib.hid hr.lens
  cases hp : isPerm xs
  · have HV := Lib.hid (show popV xs = [] by unfold popV; rw [hp]; rfl)
    go_enter Try.func11, Try.ntmps11
    go_wp2_with (go_at_call 32; refine (c_isShortOrder _ _ _ _ _ hr).mono ?_; rw [hp]; rintro e w1 ⟨rfl, hb⟩)
    go_ret
    exact ⟨_, _, _, rfl, by rw [HV.out]; exact ⟨[], Ow.bare _ _ _, fun _ h => (by cases h)⟩, by omega, by assumption⟩
  have hn := isPerm_len hp
  have HV := Lib.hid (show popV xs = popF xs xs.length by unfold popV; rw [hp]; rfl)
  rw [HL.out] at hn HV
  go_enter Try.func11, Try.ntmps11
  go_wp2_with fail
  refine (c_isShortOrder _ _ _ _ _ hr).mono ?_
  rw [hp]
  rintro e w1 ⟨rfl, hb0⟩
  clear hp
  go_wp2_with fail
  go_loopw [3, 4, 5] (fun o f i wr => ∃ k q : Nat, ∃ M oa oc, 1 ≤ k ∧ k ≤ n + 1 ∧ i = .int .i64 k ∧ f = .int .i64 q ∧ (k ≤ n → q = (popS xs k).2) ∧ q ≤ n ∧ o = .slice oa q oc ∧ Ow wr 3 M oa q oc (ints (if k ≤ n then (popS xs k).1 else popF xs n)) ∧ New w1.heap.size M ∧ Below w1.heap.size w1 wr) (fun _ _ i _ => n + 1 - (intOf i).toNat)
  case atStart =>
    refine ⟨1, 0, [], _, _, by omega, by omega, by simp, by simp, fun _ => by simp [popS], by omega, rfl, ?_, fun _ h => (by cases h), (Below.refl _ _).alloc (Nat.le_refl _) _⟩
    have e : (if 1 ≤ n then (popS xs 1).1 else popF xs n) = [] := by
      split
      · simp [popS]
      · obtain rfl : n = 0 := by omega
        simp [popF, popS, segL]
    rw [e]; exact Ow.bare _ _ _
  case round =>
    obtain ⟨k, q, M, oa, oc, hk1, hk, rfl, rfl, hq, hqn, rfl, hout, hnm, hb⟩ := hrel
    have hsz := hb.size
    by_cases hlt : k ≤ n
    · have hq2 := hq hlt
      rw [if_pos hlt] at hout
      have hfr := popS_from xs k
      have hqk : q < k := by omega
      have HQ2 := Lib.hid hq2
      clear hq hq2 hfr
      have hcap := hr.le
      have hrw := (hr.below hb0).below hb
      obtain ⟨b, off, rfl, _, hc⟩ := hrw.int (by omega)
      have c0 := hc (k - 1) (by omega)
      have ek : ((k : Int) - 1).toNat = k - 1 := by omega
      by_cases hpop : k = n ∨ nth xs (k - 1) < nth xs k
      · have fin : ∀ (w5 : World) (a5 : Option Addr) (c5 : Nat) (L5 : List Nat), Ow w5 3 L5 a5 (q + (k - q)) c5 (ints (popS xs k).1 ++ ints (segL xs q k).reverse) → Ow w5 3 L5 a5 k c5 (ints (if k + 1 ≤ n then (popS xs (k + 1)).1 else popF xs n)) := fun w5 a5 c5 L5 h => by
          have e : ints (popS xs k).1 ++ ints (segL xs q k).reverse = ints (if k + 1 ≤ n then (popS xs (k + 1)).1 else popF xs n) := by
            rw [ints_append]; congr 1
            split
            · rw [popS_yes ⟨by omega, by omega⟩, HQ2.out]
            · obtain rfl : k = n := by omega
              unfold popF; rw [HQ2.out]
          rw [show q + (k - q) = k by omega] at h; rw [← e]; exact h
        have FIN := Lib.hid fin
        have fin2 : k + 1 ≤ n → k = (popS xs (k + 1)).2 := fun h => by rw [popS_yes ⟨by omega, by omega⟩]
        have FIN2 := Lib.hid fin2
        clear fin fin2
        have hseg : (segL xs q k).length = k - q := segL_len (by rw [HL.out]; omega)
        have hbd : ∀ m, Below w1.heap.size w1 (wr.drewN m) := fun m => hb.trans (below_drewN (Below.refl _ _) _)
        have houtd : ∀ m, Ow (wr.drewN m) 3 M oa q oc (ints (popS xs k).1) := fun m => hout.drewN m
        have hrd : ∀ m, RdI (wr.drewN m) (some ⟨b, off, none⟩) n cap xs := fun m => hrw.drewN m
        have HBD := Lib.hid hbd
        have HOD := Lib.hid houtd
        have HRD := Lib.hid hrd
        clear hbd houtd hrd
        rcases (show k = n ∨ (¬ k = n ∧ k < n ∧ nth xs (k - 1) < nth xs k) by omega) with hkn | ⟨hkn, hkl, hlt2⟩
        · have hb1 : ((k : Int) == (n : Int)) = true := by simp [hkn]
          have HKN := Lib.hid hkn
          clear hkn hc c0
          go_wp2_with fail
          go_quiet (fail)
          go_wp2_with ((with_reducible show wpList _ _ _ (⟨some 36, _, _, _, _, _⟩ :: _) _ _); refine wpList_cut _ rfl (.tmp 33) (.tmp 34) (.tmp 35) 24 rfl 3 Try.underlying24 szInt q k rfl rfl (by rfl) rfl (by rfl) (HRD.out _) (by omega) (by omega) ?_; intro a2 ha2 r2; clear ha2)
          rw [ints_take, ints_drop] at r2
          refine (c_Clone a2 (k - q) (cap - q) (segL xs q k) _ r2 (by omega)).mono ?_
          rintro e w2 ⟨a3, cap3, rfl, ⟨L3, ow3, n3⟩, b3⟩
          obtain ⟨g, rfl, rfl, _, _⟩ := ow3.int (by have := ow3.le; omega)
          go_wp2_with fail
          refine (c_Reverse g (k - q) cap3 (k - q) _ _ ow3 (Nat.le_refl _) (by omega)).mono ?_
          rintro e w4 ⟨rfl, ow4, kp4⟩
          rw [flipL_all _ _ (by omega)] at ow4
          have hap : Apart M [g] := Apart.of_new (HOD.out _).old n3
          have hout4 := ((HOD.out _).below b3).keep kp4 hap
          have hb3 := Below.nx (HBD.out _) b3
          have hb4 : Below w1.heap.size w1 w4 := kp4.below hb3 (n3.mono (HBD.out _).size) hb3.size
          go_wp2_with ((with_reducible show wpList _ _ _ (⟨some 42, _, _, _, _, _⟩ :: _) _ _); refine wpList_app _ rfl _ _ 24 rfl 3 Try.underlying24 infoInt rfl rfl rfl hout4 ow4.rd (one_ints _) (by omega) (by unfold maxLen; omega) ?_; intro a5 cap5 L5 w5 ow5 kp5 st5)
          have n5 : New w1.heap.size L5 := st5.new hnm hb4.size
          have b5 : Below w1.heap.size w1 w5 := kp5.below hb4 hnm hb4.size
          have h5 := FIN.out _ _ _ _ ow5
          have eqk : q + (k - q) = k := by omega
          rw [eqk]
          go_wp2_with fail
          go_roundw
          case rel => exact ⟨k + 1, k, L5, a5, cap5, by omega, by omega, by go_num, rfl, FIN2.out, by omega, rfl, h5, n5, b5⟩
          case measure => simp [intOf]; omega
        · have c2 := hc k hkl
          have hb1 : ((k : Int) == (n : Int)) = false := by simp; omega
          have hd : decide (nth xs (k - 1) < nth xs k) = true := decide_eq_true hlt2
          clear hc
          go_wp2_with fail
          go_quiet (fail)
          go_wp2_with ((with_reducible show wpList _ _ _ (⟨some 36, _, _, _, _, _⟩ :: _) _ _); refine wpList_cut _ rfl (.tmp 33) (.tmp 34) (.tmp 35) 24 rfl 3 Try.underlying24 szInt q k rfl rfl (by rfl) rfl (by rfl) (HRD.out _) (by omega) (by omega) ?_; intro a2 ha2 r2; clear ha2)
          rw [ints_take, ints_drop] at r2
          refine (c_Clone a2 (k - q) (cap - q) (segL xs q k) _ r2 (by omega)).mono ?_
          rintro e w2 ⟨a3, cap3, rfl, ⟨L3, ow3, n3⟩, b3⟩
          obtain ⟨g, rfl, rfl, _, _⟩ := ow3.int (by have := ow3.le; omega)
          go_wp2_with fail
          refine (c_Reverse g (k - q) cap3 (k - q) _ _ ow3 (Nat.le_refl _) (by omega)).mono ?_
          rintro e w4 ⟨rfl, ow4, kp4⟩
          rw [flipL_all _ _ (by omega)] at ow4
          have hap : Apart M [g] := Apart.of_new (HOD.out _).old n3
          have hout4 := ((HOD.out _).below b3).keep kp4 hap
          have hb3 := Below.nx (HBD.out _) b3
          have hb4 : Below w1.heap.size w1 w4 := kp4.below hb3 (n3.mono (HBD.out _).size) hb3.size
          go_wp2_with ((with_reducible show wpList _ _ _ (⟨some 42, _, _, _, _, _⟩ :: _) _ _); refine wpList_app _ rfl _ _ 24 rfl 3 Try.underlying24 infoInt rfl rfl rfl hout4 ow4.rd (one_ints _) (by omega) (by unfold maxLen; omega) ?_; intro a5 cap5 L5 w5 ow5 kp5 st5)
          have n5 : New w1.heap.size L5 := st5.new hnm hb4.size
          have b5 : Below w1.heap.size w1 w5 := kp5.below hb4 hnm hb4.size
          have h5 := FIN.out _ _ _ _ ow5
          have eqk : q + (k - q) = k := by omega
          rw [eqk]
          go_wp2_with fail
          go_roundw
          case rel => exact ⟨k + 1, k, L5, a5, cap5, by omega, by omega, by go_num, rfl, FIN2.out, by omega, rfl, h5, n5, b5⟩
          case measure => simp [intOf]; omega
      · have hkl : k < n := by omega
        have c2 := hc k hkl
        have hb1 : ((k : Int) == (n : Int)) = false := by simp; omega
        have hnlt : ¬ nth xs (k - 1) < nth xs k := by omega
        have PN := Lib.hid (popS_no (xs := xs) (k := k) (fun h => hnlt h.2))
        clear hc hpop
        go_wp2_with fail
        go_quiet (fail)
        go_wp2_with fail
        go_roundw
        case rel => exact ⟨k + 1, q, M, oa, oc, by omega, by omega, by go_num, rfl, fun _ => by rw [PN.out]; exact HQ2.out, by omega, rfl, by rw [if_pos (by omega), PN.out]; exact hout.drewN _, hnm, hb.trans (below_drewN (Below.refl _ _) _)⟩
        case measure => simp [intOf]; omega
    · obtain rfl : k = n + 1 := by omega
      rw [if_neg (by omega)] at hout
      go_wp2_with fail
      go_ret
      exact ⟨oa, q, oc, rfl, ⟨M, by rw [HV.out]; exact hout, hnm.mono hb0.size⟩, by omega, Below.nx hb0 hb⟩


end Go.Proofs.Ytiiijijbkacneaa

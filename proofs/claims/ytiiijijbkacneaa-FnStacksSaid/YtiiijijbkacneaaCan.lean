/- What a stack can sort, and least numbers of queues. No condition. -/
import Derived.Test.YtiiijijbkacneaaPerm
namespace Go.Proofs.Ytiiijijbkacneaa
open Go.RowKit

/-- Three numbers in the order that a stack can not sort. -/
def Bad3 (xs : List Int) (i j k : Nat) : Prop := nth xs k < nth xs i ∧ nth xs i < nth xs j
def CanS (xs : List Int) : Prop := ∀ i j k, i < j → j < k → k < xs.length → ¬ Bad3 xs i j k
open Classical in
noncomputable def canB (xs : List Int) : Bool := decide (CanS xs)
open Classical in
theorem canB_yes {xs : List Int} (h : CanS xs) : canB xs = true := by unfold canB; exact decide_eq_true h
open Classical in
theorem canB_no {xs : List Int} (h : ¬ CanS xs) : canB xs = false := by unfold canB; exact decide_eq_false h
noncomputable def canV (xs : List Int) : Bool := isPerm xs && canB xs


set_option maxHeartbeats 1600000 in
theorem c_canStackSort (a : Option Addr) (n cap : Nat) (xs : List Int) (w : World) (hr : RdI w a n cap xs) (hn : n ≤ 8) :
    Calls Try.prog 34 #[.slice a n cap] w fun e w' => e = .returned (.bool (canB xs)) ∧ Below w.heap.size w w' := by
  have hl := Lib.hid hr.lens
  go_enter Try.func34, Try.ntmps34
  go_wp2
  go_loopw [10] (fun i wr => ∃ k : Nat, k ≤ n ∧ i = .int .i64 k ∧ (∀ p q r, p < k → p < q → q < r → r < n → ¬ Bad3 xs p q r) ∧ Below w.heap.size w wr) (fun i _ => n - (intOf i).toNat)
  case atStart => exact ⟨0, by omega, rfl, fun p q r h => absurd h (by omega), Below.refl _ _⟩
  case round =>
    obtain ⟨k, hk, rfl, hno, hb⟩ := hrel
    have HNO := Lib.hid hno
    clear hno
    have hcap := hr.le
    have hcm := hr.max
    unfold maxLen at hcm
    by_cases hlt : k < n
    · have hrk := hr.below hb
      obtain ⟨b, off, rfl, hbl, hc⟩ := hrk.int (by omega)
      have c1 := hc k hlt
      clear hc
      go_wp2_with fail
      obtain ⟨wo, rfl⟩ : ∃ wo : World, wo = wr := ⟨_, rfl⟩
      go_loopw [5] (fun i wr => ∃ j : Nat, k + 1 ≤ j ∧ j ≤ n ∧ i = .int .i64 j ∧ (∀ q r, k < q → q < j → q < r → r < n → ¬ Bad3 xs k q r) ∧ Below wo.heap.size wo wr) (fun i _ => n - (intOf i).toNat)
      case atStart => exact ⟨k + 1, by omega, by omega, by go_num, fun q r h1 h2 => absurd h2 (by omega), Below.refl _ _⟩
      case round =>
        obtain ⟨j, hj1, hj, rfl, hno2, hbj⟩ := hrel
        have HNO2 := Lib.hid hno2
        clear hno2
        by_cases hjn : j < n
        · have hrj := hrk.below hbj
          obtain ⟨b3, off3, e3, _, hc⟩ := hrj.int (by omega)
          simp only [Option.some.injEq, Addr.mk.injEq, and_true] at e3
          obtain ⟨rfl, rfl⟩ := e3
          have c2 := hc j hjn
          clear hc
          go_wp2_with ((with_reducible show wpList _ _ _ (⟨some 26, _, _, _, _, _⟩ :: _) _ _); refine wpList_from _ rfl (.tmp 23) (.tmp 25) 24 rfl 3 Try.underlying24 szInt (j + 1) rfl rfl (by omega) hrj (by omega) ?_; intro a2 ha2 r2; clear ha2)
          rw [ints_drop] at r2
          obtain ⟨wp, rfl⟩ : ∃ wp : World, wp = wr := ⟨_, rfl⟩
          go_loopw [28] (fun i wr => ∃ q : Nat, q ≤ n - (j + 1) ∧ i = .int .i64 q ∧ (∀ r, j < r → r < j + 1 + q → ¬ Bad3 xs k j r) ∧ Below wp.heap.size wp wr) (fun i _ => n - (j + 1) - (intOf i).toNat)
          case atStart => exact ⟨0, by omega, rfl, fun r h1 h2 => absurd h2 (by omega), Below.refl _ _⟩
          case round =>
            obtain ⟨q, hq, rfl, hno3, hbq⟩ := hrel
            have HNO3 := Lib.hid hno3
            clear hno3
            by_cases hqn : q < n - (j + 1)
            · obtain ⟨b3, off3, rfl, hbl3, hc3⟩ := (r2.below hbq).int (by omega)
              have c3 := hc3 q hqn
              have e3 : nth (xs.drop (j + 1)) q = nth xs (j + 1 + q) := by simp [nth, List.getD]
              rw [e3] at c3
              obtain ⟨b4, off4, e4, _, hc4⟩ := (hrj.below hbq).int (by omega)
              simp only [Option.some.injEq, Addr.mk.injEq, and_true] at e4
              obtain ⟨rfl, rfl⟩ := e4
              have c4 := hc4 j hjn
              clear hc4
              clear hc3 e3
              by_cases h1 : nth xs (j + 1 + q) < nth xs k
              · by_cases h2 : nth xs k < nth xs j
                · go_wp2_with fail
                  go_ret
                  exact ⟨by rw [canB_no (fun h => h k j (j + 1 + q) (by omega) (by omega) (by rw [hl.out]; omega) ⟨h1, h2⟩)]; rfl, Below.nx hb (Below.nx hbj hbq)⟩
                · go_wp2_with fail
                  go_roundw
                  case rel => exact ⟨q + 1, by omega, by go_num, fun r h3 h4 => by
                    rcases Nat.lt_or_ge r (j + 1 + q) with h | h
                    · exact HNO3.out r h3 h
                    · obtain rfl : r = j + 1 + q := by omega
                      exact fun hbad => by have := hbad.2; omega, hbq⟩
                  case measure => simp [intOf]; omega
              · go_wp2_with fail
                go_roundw
                case rel => exact ⟨q + 1, by omega, by go_num, fun r h3 h4 => by
                  rcases Nat.lt_or_ge r (j + 1 + q) with h | h
                  · exact HNO3.out r h3 h
                  · obtain rfl : r = j + 1 + q := by omega
                    exact fun hbad => by have := hbad.1; omega, hbq⟩
                case measure => simp [intOf]; omega
            · go_wp2_with fail
              go_roundw
              case rel => exact ⟨j + 1, by omega, by omega, by go_num, fun q2 r h1 h2 h3 h4 => by
                rcases Nat.lt_or_ge q2 j with h | h
                · exact HNO2.out q2 r h1 h h3 h4
                · obtain rfl : q2 = j := by omega
                  exact HNO3.out r h3 (by omega), Below.nx hbj hbq⟩
              case measure => simp [intOf]; omega
        · go_wp2_with fail
          go_roundw
          case rel => exact ⟨k + 1, by omega, by go_num, fun p q r h1 h2 h3 h4 => by
            rcases Nat.lt_or_ge p k with h | h
            · exact HNO.out p q r h h2 h3 h4
            · obtain rfl : p = k := by omega
              exact HNO2.out q r h2 (by omega) h3 h4, Below.nx hb hbj⟩
          case measure => simp [intOf]; omega
    · go_wp2
      go_ret
      exact ⟨by rw [canB_yes (fun p q r h1 h2 h3 => HNO.out p q r (by rw [hl.out] at h3; omega) h1 h2 (by rw [hl.out] at h3; exact h3))]; rfl, hb⟩





















































































































theorem ci_CanStackSort (a : Option Addr) (n cap : Nat) (xs : List Int) (w : World) (hr : RdI w a n cap xs) :
    Calls Try.prog 8 #[.slice a n cap] w fun e w' => e = .returned (.bool (canV xs)) ∧ Below w.heap.size w w' := by
  have HL := Lib.hid hr.lens
  cases hp : isPerm xs
  · have HP := Lib.hid hp
    go_enter Try.func8, Try.ntmps8
    go_wp2_with (go_at_call 32; refine (c_isShortOrder _ _ _ _ _ hr).mono ?_; rw [hp]; rintro e w' ⟨rfl, hb⟩)
    go_ret
    exact ⟨by unfold canV; rw [HP.out]; rfl, by assumption⟩
  have HP := Lib.hid hp
  have hn := isPerm_len hp
  rw [HL.out] at hn
  go_enter Try.func8, Try.ntmps8
  go_wp2_with fail
  refine (c_isShortOrder _ _ _ _ _ hr).mono ?_
  rw [hp]
  rintro e w1 ⟨rfl, hb⟩
  go_wp2_with fail
  refine (c_canStackSort _ _ _ _ _ (hr.below hb) hn).mono ?_
  rintro e w2 ⟨rfl, hb2⟩
  go_wp2_with fail
  go_ret
  exact ⟨by unfold canV; rw [HP.out]; rfl, Below.nx hb hb2⟩


end Go.Proofs.Ytiiijijbkacneaa

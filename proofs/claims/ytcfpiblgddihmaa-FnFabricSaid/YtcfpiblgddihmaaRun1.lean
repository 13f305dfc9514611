/- Runs and late records, first part: predicates over a slice by a function value; lengths and times. No condition but lengths. -/
import Derived.Test.YtcfpiblgddihmaaHelp
import Derived.Test.YtcfpiblgddihmaaSortL
import Derived.WalkLawsBesides
namespace Go.Proofs.Ytcfpiblgddihmaa
open Go.RowKit




















def IsIdx (p : Int → Bool) (xs : List Int) (v : Int) : Prop := (∃ k : Nat, k < xs.length ∧ p (nth xs k) = true ∧ (∀ j, j < k → p (nth xs j) = false) ∧ v = k) ∨ ((∀ j, j < xs.length → p (nth xs j) = false) ∧ v = -1)


/-- The first place at which p holds; -1 if there is none. -/
theorem c_IndexFunc (K : Nat) (p : Int → Bool) (hcf : ∀ args w, (callFunc K args).run Try.prog w = .ok (.enter K args) w) (hf : ∀ x w, Calls Try.prog K #[.int .i64 x] w fun e w' => e = .returned (.bool (p x)) ∧ w = w') (a : Option Addr) (n cap : Nat) (xs : List Int) (w : World) (hr : RdI w a n cap xs) (hn : n ≤ 1048576) :
    Calls Try.prog 47 #[.slice a n cap, .func (.func K) #[] #[]] w fun e w' => (∃ v, IsIdx p xs v ∧ e = .returned (.int .i64 v)) ∧ Below w.heap.size w w' := by
  have HL := Lib.hid hr.lens
  have HF := Lib.hid hf
  clear hf
  go_enter Try.func47, Try.ntmps47
  go_wp2
  go_loopw [8] (fun i wr => ∃ k : Nat, k ≤ n ∧ i = .int .i64 k ∧ (∀ j, j < k → p (nth xs j) = false) ∧ Below w.heap.size w wr) (fun i _ => n - (intOf i).toNat)
  case atStart => exact ⟨0, by omega, rfl, fun j h => by omega, Below.refl _ _⟩
  case round =>
    obtain ⟨k, hk, rfl, hall, hb⟩ := hrel
    have HA := Lib.hid hall
    clear hall
    by_cases hlt : k < n
    · obtain ⟨b, off, rfl, hbl, hc⟩ := (hr.below hb).int (by omega)
      have c1 := hc k hlt
      clear hc
      go_wp2_with fail
      refine (HF.out _ _).mono ?_
      rintro e w' ⟨rfl, rfl⟩
      cases hp : p (nth xs k)
      · have HP := Lib.hid hp
        clear hp
        go_wp2_with fail
        go_roundw
        case rel => exact ⟨k + 1, by omega, by go_num, fun j h => by
          rcases Nat.lt_or_ge j k with h1 | h1
          · exact HA.out j h1
          · obtain rfl : j = k := by omega
            exact HP.out, hb⟩
        case measure => simp [intOf]; omega
      · have HP := Lib.hid hp
        clear hp
        go_wp2_with fail
        go_ret
        exact ⟨⟨k, .inl ⟨k, by rw [HL.out]; exact hlt, HP.out, HA.out, rfl⟩, rfl⟩, hb⟩
    · obtain rfl : k = n := by omega
      go_wp2_with fail
      go_ret
      exact ⟨⟨-1, .inr ⟨fun j h => HA.out j (by rw [HL.out] at h; exact h), rfl⟩, rfl⟩, hb⟩



theorem c_ContainsFunc (K : Nat) (p : Int → Bool) (hcf : ∀ args w, (callFunc K args).run Try.prog w = .ok (.enter K args) w) (hf : ∀ x w, Calls Try.prog K #[.int .i64 x] w fun e w' => e = .returned (.bool (p x)) ∧ w = w') (a : Option Addr) (n cap : Nat) (xs : List Int) (w : World) (hr : RdI w a n cap xs) (hn : n ≤ 1048576) :
    Calls Try.prog 42 #[.slice a n cap, .func (.func K) #[] #[]] w fun e w' => (∃ v : Bool, v = decide (∃ j, j < xs.length ∧ p (nth xs j) = true) ∧ e = .returned (.bool v)) ∧ Below w.heap.size w w' := by
  have HF := Lib.hid hf
  have HC := Lib.hid hcf
  clear hf hcf
  go_enter Try.func42, Try.ntmps42
  go_wp2_with fail
  refine (c_IndexFunc K p HC.out HF.out a n cap xs w hr hn).mono ?_
  rintro e w' ⟨⟨v, hv, rfl⟩, hb⟩
  have hd : decide (0 ≤ v) = decide (∃ j, j < xs.length ∧ p (nth xs j) = true) := by
    rcases hv with ⟨k, hk, h1, _, rfl⟩ | ⟨h1, rfl⟩
    · rw [decide_eq_true (by omega), decide_eq_true ⟨k, hk, h1⟩]
    · rw [decide_eq_false (by omega), decide_eq_false]
      rintro ⟨j, hj, h2⟩
      rw [h1 j hj] at h2; cases h2
  have HD := Lib.hid hd
  clear hd hv
  go_wp2_with fail
  go_ret
  exact ⟨⟨_, HD.out, rfl⟩, hb⟩





























































































































































































































































































































































end Go.Proofs.Ytcfpiblgddihmaa

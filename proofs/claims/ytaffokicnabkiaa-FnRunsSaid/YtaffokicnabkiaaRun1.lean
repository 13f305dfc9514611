/- Runs and late records, first part: predicates over a slice by a function value; lengths and times. No condition but lengths. -/
import Derived.Test.YtaffokicnabkiaaHelp
import Derived.Test.YtaffokicnabkiaaSortL
import Derived.WalkLawsBesides
namespace Go.Proofs.Ytaffokicnabkiaa
open Go.RowKit


theorem c_l01In (b : Bool) (n lo hi : Int) (w : World) (hb : decide (lo ≤ n ∧ n ≤ hi) = b) : Calls Try.prog 50 #[.int .i64 n, .int .i64 lo, .int .i64 hi] w fun e w' => e = .returned (.bool b) ∧ w = w' := by
  subst hb
  by_cases h1 : lo ≤ n
  · by_cases h2 : n ≤ hi
    · go_enter Try.func50, Try.ntmps50
      go_wp2
      go_ret
      exact ⟨by rw [decide_eq_true (by omega)]; rfl, rfl⟩
    · go_enter Try.func50, Try.ntmps50
      go_wp2
      go_ret
      exact ⟨by rw [decide_eq_false (by omega)]; rfl, rfl⟩
  · go_enter Try.func50, Try.ntmps50
    go_wp2
    go_ret
    exact ⟨by rw [decide_eq_false (by omega)]; rfl, rfl⟩


def IsIdx (p : Int → Bool) (xs : List Int) (v : Int) : Prop := (∃ k : Nat, k < xs.length ∧ p (nth xs k) = true ∧ (∀ j, j < k → p (nth xs j) = false) ∧ v = k) ∨ ((∀ j, j < xs.length → p (nth xs j) = false) ∧ v = -1)


/-- The first place at which p holds; -1 if there is none. -/
theorem c_IndexFunc (K : Nat) (p : Int → Bool) (hcf : ∀ args w, (callFunc K args).run Try.prog w = .ok (.enter K args) w) (hf : ∀ x w, Calls Try.prog K #[.int .i64 x] w fun e w' => e = .returned (.bool (p x)) ∧ w = w') (a : Option Addr) (n cap : Nat) (xs : List Int) (w : World) (hr : RdI w a n cap xs) (hn : n ≤ 1048576) :
    Calls Try.prog 45 #[.slice a n cap, .func (.func K) #[] #[]] w fun e w' => (∃ v, IsIdx p xs v ∧ e = .returned (.int .i64 v)) ∧ Below w.heap.size w w' := by
  have HL := Lib.hid hr.lens
  have HF := Lib.hid hf
  clear hf
  go_enter Try.func45, Try.ntmps45
  go_wp2
  go_loopw [8] (fun i wr => ∃ k : Nat, k ≤ n ∧ i = .int .i64 k ∧ (∀ j, j < k → p (nth xs j) = false) ∧ Below w.heap.size w wr) (fun i _ => n - (intOf i).toNat)
  case atStart => exact ⟨0, by omega, rfl, fun j h => by omega, Below.refl _ _⟩
  case round =>
    obtain ⟨k, hk, rfl, hall, hb⟩ := hrel
    have HA := Lib.hid hall
    clear hall
    by_cases hlt : k < n
    · obtain ⟨b, off, rfl, hbl, hc⟩ := (hr.below hb).int (by omega)
      have c1 := hc k hlt
      clear hc
      go_wp2_with fail
      refine (HF.out _ _).mono ?_
      rintro e w' ⟨rfl, rfl⟩
      cases hp : p (nth xs k)
      · have HP := Lib.hid hp
        clear hp
        go_wp2_with fail
        go_roundw
        case rel => exact ⟨k + 1, by omega, by go_num, fun j h => by
          rcases Nat.lt_or_ge j k with h1 | h1
          · exact HA.out j h1
          · obtain rfl : j = k := by omega
            exact HP.out, hb⟩
        case measure => simp [intOf]; omega
      · have HP := Lib.hid hp
        clear hp
        go_wp2_with fail
        go_ret
        exact ⟨⟨k, .inl ⟨k, by rw [HL.out]; exact hlt, HP.out, HA.out, rfl⟩, rfl⟩, hb⟩
    · obtain rfl : k = n := by omega
      go_wp2_with fail
      go_ret
      exact ⟨⟨-1, .inr ⟨fun j h => HA.out j (by rw [HL.out] at h; exact h), rfl⟩, rfl⟩, hb⟩



theorem c_ContainsFunc (K : Nat) (p : Int → Bool) (hcf : ∀ args w, (callFunc K args).run Try.prog w = .ok (.enter K args) w) (hf : ∀ x w, Calls Try.prog K #[.int .i64 x] w fun e w' => e = .returned (.bool (p x)) ∧ w = w') (a : Option Addr) (n cap : Nat) (xs : List Int) (w : World) (hr : RdI w a n cap xs) (hn : n ≤ 1048576) :
    Calls Try.prog 35 #[.slice a n cap, .func (.func K) #[] #[]] w fun e w' => (∃ v : Bool, v = decide (∃ j, j < xs.length ∧ p (nth xs j) = true) ∧ e = .returned (.bool v)) ∧ Below w.heap.size w w' := by
  have HF := Lib.hid hf
  have HC := Lib.hid hcf
  clear hf hcf
  go_enter Try.func35, Try.ntmps35
  go_wp2_with fail
  refine (c_IndexFunc K p HC.out HF.out a n cap xs w hr hn).mono ?_
  rintro e w' ⟨⟨v, hv, rfl⟩, hb⟩
  have hd : decide (0 ≤ v) = decide (∃ j, j < xs.length ∧ p (nth xs j) = true) := by
    rcases hv with ⟨k, hk, h1, _, rfl⟩ | ⟨h1, rfl⟩
    · rw [decide_eq_true (by omega), decide_eq_true ⟨k, hk, h1⟩]
    · rw [decide_eq_false (by omega), decide_eq_false]
      rintro ⟨j, hj, h2⟩
      rw [h1 j hj] at h2; cases h2
  have HD := Lib.hid hd
  clear hd hv
  go_wp2_with fail
  go_ret
  exact ⟨⟨_, HD.out, rfl⟩, hb⟩



def okLengthsOk (xs : List Int) : Bool := decide (xs.length ≤ 8 ∧ ∀ x ∈ xs, 1 ≤ x ∧ x ≤ 1000)
theorem okLengthsOk_long {xs : List Int} (h : ¬ xs.length ≤ 8) : okLengthsOk xs = false := by simp [okLengthsOk, h]
theorem okLengthsOk_no {xs : List Int} {k : Nat} (hk : k < xs.length) (h : ¬ (1 ≤ nth xs k ∧ nth xs k ≤ 1000)) : okLengthsOk xs = false := by
  simp only [okLengthsOk, decide_eq_false_iff_not]; intro h2; exact h (h2.2 _ (nth_mem hk))
theorem okLengthsOk_yes {xs : List Int} (h : xs.length ≤ 8) (h2 : ∀ j, j < xs.length → 1 ≤ nth xs j ∧ nth xs j ≤ 1000) : okLengthsOk xs = true := by
  simp only [okLengthsOk, decide_eq_true_eq]
  refine ⟨h, fun x hx => ?_⟩
  obtain ⟨i, hi, rfl⟩ := List.mem_iff_getElem.1 hx
  have := h2 i hi
  rwa [nth_eq hi] at this
theorem okLengthsOk_at {xs : List Int} (h : okLengthsOk xs = true) : xs.length ≤ 8 ∧ ∀ j, j < xs.length → 1 ≤ nth xs j ∧ nth xs j ≤ 1000 := by
  simp only [okLengthsOk, decide_eq_true_eq] at h
  exact ⟨h.1, fun j hj => h.2 _ (nth_mem hj)⟩




















































def badLengthsOk (x : Int) : Bool := decide (x < 1) || decide (1000 < x)
theorem c_LengthsOk1 (x : Int) (w : World) : Calls Try.prog 36 #[.int .i64 x] w fun e w' => e = .returned (.bool (badLengthsOk x)) ∧ w = w' := by
  by_cases h1 : x < 1
  · have e : badLengthsOk x = true := by simp [badLengthsOk, h1]
    rw [e]
    go_enter Try.func36, Try.ntmps36
    go_wp2
    go_ret
    exact ⟨rfl, rfl⟩
  · have e : badLengthsOk x = decide (1000 < x) := by simp [badLengthsOk, h1]
    rw [e]
    go_enter Try.func36, Try.ntmps36
    go_wp2
    go_ret
    exact ⟨rfl, rfl⟩

theorem ci_LengthsOk (a : Option Addr) (n cap : Nat) (xs : List Int) (w : World) (hr : RdI w a n cap xs) :
    Calls Try.prog 15 #[.slice a n cap] w fun e w' => e = .returned (.bool (okLengthsOk xs)) ∧ Below w.heap.size w w' := by
  have HL := Lib.hid hr.lens
  by_cases h8 : n ≤ 8
  case neg =>
    have hno := okLengthsOk_long (xs := xs) (by rw [HL.out]; exact h8)
    have HN := Lib.hid hno
    clear hno
    go_enter Try.func15, Try.ntmps15
    go_wp2
    go_ret
    exact ⟨by rw [HN.out]; rfl, Below.refl _ _⟩
  go_enter Try.func15, Try.ntmps15
  go_wp2_with fail
  refine (c_ContainsFunc 36 badLengthsOk (fun _ _ => by kernel_rfl) c_LengthsOk1 a n cap xs _ hr (by omega)).mono ?_
  rintro e w' ⟨⟨v, hv, rfl⟩, hb⟩
  have hy : okLengthsOk xs = !v := by
    cases v
    · refine okLengthsOk_yes (by rw [HL.out]; exact h8) (fun j hj => ?_)
      have := hv
      simp only [Bool.false_eq, decide_eq_false_iff_not, not_exists, not_and] at this
      have h2 := this j hj
      simp [badLengthsOk] at h2
      omega
    · simp only [Bool.true_eq, decide_eq_true_eq] at hv
      obtain ⟨j, hj, h2⟩ := hv
      simp only [Bool.not_true]
      refine okLengthsOk_no hj ?_
      simp [badLengthsOk] at h2
      omega
  have HY := Lib.hid hy
  clear hy hv
  go_wp2_with fail
  go_ret
  exact ⟨by rw [HY.out]; rfl, hb⟩



def okTimesOk (xs : List Int) : Bool := decide (xs.length ≤ 30 ∧ ∀ x ∈ xs, 0 ≤ x ∧ x ≤ 1000)
theorem okTimesOk_long {xs : List Int} (h : ¬ xs.length ≤ 30) : okTimesOk xs = false := by simp [okTimesOk, h]
theorem okTimesOk_no {xs : List Int} {k : Nat} (hk : k < xs.length) (h : ¬ (0 ≤ nth xs k ∧ nth xs k ≤ 1000)) : okTimesOk xs = false := by
  simp only [okTimesOk, decide_eq_false_iff_not]; intro h2; exact h (h2.2 _ (nth_mem hk))
theorem okTimesOk_yes {xs : List Int} (h : xs.length ≤ 30) (h2 : ∀ j, j < xs.length → 0 ≤ nth xs j ∧ nth xs j ≤ 1000) : okTimesOk xs = true := by
  simp only [okTimesOk, decide_eq_true_eq]
  refine ⟨h, fun x hx => ?_⟩
  obtain ⟨i, hi, rfl⟩ := List.mem_iff_getElem.1 hx
  have := h2 i hi
  rwa [nth_eq hi] at this
theorem okTimesOk_at {xs : List Int} (h : okTimesOk xs = true) : xs.length ≤ 30 ∧ ∀ j, j < xs.length → 0 ≤ nth xs j ∧ nth xs j ≤ 1000 := by
  simp only [okTimesOk, decide_eq_true_eq] at h
  exact ⟨h.1, fun j hj => h.2 _ (nth_mem hj)⟩

set_option maxHeartbeats 400000 in
theorem cs_TimesOk (a : Option Addr) (n cap : Nat) (xs : List Int) (w : World) (hr : RdI w a n cap xs) :
    Calls Try.prog 49 #[.slice a n cap] w fun e w' => e = .returned (.bool (okTimesOk xs)) ∧ Below w.heap.size w w' := by
  have HL := Lib.hid hr.lens
  by_cases h8 : n ≤ 30
  case neg =>
    have hno := okTimesOk_long (xs := xs) (by rw [HL.out]; exact h8)
    have HN := Lib.hid hno
    clear hno
    go_enter Try.func49, Try.ntmps49
    go_wp2
    go_ret
    exact ⟨by rw [HN.out]; rfl, Below.refl _ _⟩
  go_enter Try.func49, Try.ntmps49
  go_wp2
  go_loopw [10] (fun i wr => ∃ k : Nat, k ≤ n ∧ i = .int .i64 k ∧ (∀ j, j < k → 0 ≤ nth xs j ∧ nth xs j ≤ 1000) ∧ Below w.heap.size w wr) (fun i _ => n - (intOf i).toNat)
  case atStart => exact ⟨0, by omega, rfl, fun j h => by omega, Below.refl _ _⟩
  case round =>
    obtain ⟨k, hk, rfl, hall, hb⟩ := hrel
    have HA := Lib.hid hall
    clear hall
    by_cases hlt : k < n
    · obtain ⟨b, off, rfl, hbl, hc⟩ := (hr.below hb).int (by omega)
      have c1 := hc k hlt
      clear hc
      by_cases hin : 0 ≤ nth xs k ∧ nth xs k ≤ 1000
      · have HI := Lib.hid hin
        clear hin
        go_wp2_with (go_at_call 50; refine (c_l01In true _ _ _ _ (by simpa using HI.out)).mono ?_; rintro e w' ⟨rfl, rfl⟩)
        go_roundw
        case rel => exact ⟨k + 1, by omega, by go_num, fun j h => by
          rcases Nat.lt_or_ge j k with h1 | h1
          · exact HA.out j h1
          · obtain rfl : j = k := by omega
            exact HI.out, hb⟩
        case measure => simp [intOf]; omega
      · have hno := okTimesOk_no (xs := xs) (k := k) (by rw [HL.out]; exact hlt) hin
        have HN := Lib.hid hno
        have HI := Lib.hid hin
        clear hno hin
        go_wp2_with (go_at_call 50; refine (c_l01In false _ _ _ _ (decide_eq_false HI.out)).mono ?_; rintro e w' ⟨rfl, rfl⟩)
        go_ret
        exact ⟨by rw [HN.out]; rfl, hb⟩
    · obtain rfl : k = n := by omega
      have hy := okTimesOk_yes (xs := xs) (by rw [HL.out]; exact h8) (by rw [HL.out]; exact HA.out)
      have HY := Lib.hid hy
      clear hy
      go_wp2_with fail
      go_ret
      exact ⟨by rw [HY.out]; rfl, hb⟩

def badTimesOk (x : Int) : Bool := decide (x < 0) || decide (1000 < x)
theorem c_TimesOk1 (x : Int) (w : World) : Calls Try.prog 70 #[.int .i64 x] w fun e w' => e = .returned (.bool (badTimesOk x)) ∧ w = w' := by
  by_cases h1 : x < 0
  · have e : badTimesOk x = true := by simp [badTimesOk, h1]
    rw [e]
    go_enter Try.func70, Try.ntmps70
    go_wp2
    go_ret
    exact ⟨rfl, rfl⟩
  · have e : badTimesOk x = decide (1000 < x) := by simp [badTimesOk, h1]
    rw [e]
    go_enter Try.func70, Try.ntmps70
    go_wp2
    go_ret
    exact ⟨rfl, rfl⟩

theorem ci_TimesOk (a : Option Addr) (n cap : Nat) (xs : List Int) (w : World) (hr : RdI w a n cap xs) :
    Calls Try.prog 51 #[.slice a n cap] w fun e w' => e = .returned (.bool (okTimesOk xs)) ∧ Below w.heap.size w w' := by
  have HL := Lib.hid hr.lens
  by_cases h8 : n ≤ 30
  case neg =>
    have hno := okTimesOk_long (xs := xs) (by rw [HL.out]; exact h8)
    have HN := Lib.hid hno
    clear hno
    go_enter Try.func51, Try.ntmps51
    go_wp2
    go_ret
    exact ⟨by rw [HN.out]; rfl, Below.refl _ _⟩
  go_enter Try.func51, Try.ntmps51
  go_wp2_with fail
  refine (c_ContainsFunc 70 badTimesOk (fun _ _ => by kernel_rfl) c_TimesOk1 a n cap xs _ hr (by omega)).mono ?_
  rintro e w' ⟨⟨v, hv, rfl⟩, hb⟩
  have hy : okTimesOk xs = !v := by
    cases v
    · refine okTimesOk_yes (by rw [HL.out]; exact h8) (fun j hj => ?_)
      have := hv
      simp only [Bool.false_eq, decide_eq_false_iff_not, not_exists, not_and] at this
      have h2 := this j hj
      simp [badTimesOk] at h2
      omega
    · simp only [Bool.true_eq, decide_eq_true_eq] at hv
      obtain ⟨j, hj, h2⟩ := hv
      simp only [Bool.not_true]
      refine okTimesOk_no hj ?_
      simp [badTimesOk] at h2
      omega
  have HY := Lib.hid hy
  clear hy hv
  go_wp2_with fail
  go_ret
  exact ⟨by rw [HY.out]; rfl, hb⟩















































































































end Go.Proofs.Ytaffokicnabkiaa

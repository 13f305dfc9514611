/- The library's stable sort, weakly, out of its parts. -/
import Derived.Test.YtaffokicnabkiaaStb
namespace Go.Proofs.Ytaffokicnabkiaa
open Go.RowKit
set_option linter.unusedVariables false
set_option linter.unusedSimpArgs false


theorem c_insX (g n cap N tb : Nat) (ta : Option Addr) (tc : Nat) (ts ys : List Int) (a b : Nat) (x y : Int) (w : World) (h : Wt w g n cap N tb ta tc ts ys) (hx : x = a) (hy : y = b) (hab : a ≤ b) (hbn : b ≤ n) (hn : n ≤ 1000) :
    Calls Try.prog 84 #[.slice (some ⟨g, 0, none⟩) n cap, .int .i64 x, .int .i64 y, .func (.func 54) #[] #[.pointer (some ⟨tb, 0, none⟩)]] w fun e w' => e = .returned (.tuple #[]) ∧ (∃ ys', Wt w' g n cap N tb ta tc ts ys') ∧ Keeps [g] w w' := by
  subst hx; subst hy; exact c_insC g n cap N tb ta tc ts ys a b w h hab hbn hn
theorem c_symX (g n cap N tb : Nat) (ta : Option Addr) (tc : Nat) (ts ys : List Int) (a m b : Nat) (x y z : Int) (w : World) (h : Wt w g n cap N tb ta tc ts ys) (hx : x = a) (hy : y = m) (hz : z = b) (h1 : a < m) (h2 : m < b) (h3 : b ≤ n) (hn : n ≤ 1000) :
    Calls Try.prog 85 #[.slice (some ⟨g, 0, none⟩) n cap, .int .i64 x, .int .i64 y, .int .i64 z, .func (.func 54) #[] #[.pointer (some ⟨tb, 0, none⟩)]] w fun e w' => e = .returned (.tuple #[]) ∧ (∃ ys', Wt w' g n cap N tb ta tc ts ys') ∧ Keeps [g] w w' := by
  subst hx; subst hy; subst hz; exact c_symM b g n cap N tb ta tc ts ys a m b w h h1 h2 h3 hn (by omega)
set_option maxRecDepth 100000 in
set_option maxHeartbeats 2000000 in
theorem c_stbC (g n cap N tb : Nat) (ta : Option Addr) (tc : Nat) (ts ys : List Int) (w : World) (h : Wt w g n cap N tb ta tc ts ys) (hn : n ≤ 1000) :
    Calls Try.prog 71 #[.slice (some ⟨g, 0, none⟩) n cap, .int .i64 n, .func (.func 54) #[] #[.pointer (some ⟨tb, 0, none⟩)]] w fun e w' => e = .returned (.tuple #[]) ∧ (∃ ys', Wt w' g n cap N tb ta tc ts ys') ∧ Keeps [g] w w' := by
  have hle := h.row.le
  go_enter Try.func71, Try.ntmps71
  go_wp2_with fail
  go_loopw [7, 8] (fun i j wr => ∃ A : Nat, i = .int .i64 (A : Int) ∧ j = .int .i64 ((A : Int) + 20) ∧ A ≤ n ∧ (∃ ys, Wt wr g n cap N tb ta tc ts ys) ∧ Keeps [g] w wr) (fun i _ _ => n - (intOf i).toNat)
  case atStart => exact ⟨0, rfl, rfl, by omega, ⟨ys, h⟩, Keeps.refl _ _⟩
  case round =>
    clear h
    obtain ⟨A, rfl, rfl, hA, ⟨ys, h⟩, kw⟩ := hrel
    by_cases hlt : A + 20 ≤ n
    · have hlt2 : (A : Int) + 20 ≤ (n : Int) := by omega
      go_wp2_with (go_at_call 84; refine (c_insX g n cap N tb ta tc ts ys A (A + 20) _ _ _ h rfl (by omega) (by omega) (by omega) hn).mono ?_; rintro e w2 ⟨rfl, ⟨ys2, h2⟩, k2⟩)
      go_roundw
      case rel => exact ⟨A + 20, int_eq (by omega), int_eq (by omega), by omega, ⟨ys2, h2⟩, kw.trans k2 (Step.refl _ _)⟩
      case measure => simp [intOf] <;> omega
    · have hlt2 : ¬ (A : Int) + 20 ≤ (n : Int) := by omega
      go_wp2_with (go_at_call 84; refine (c_insX g n cap N tb ta tc ts ys A n _ _ _ h rfl rfl (by omega) (by omega) hn).mono ?_; rintro e w2 ⟨rfl, ⟨ys2, h2⟩, k2⟩)
      have k3 := kw.trans k2 (Step.refl _ _)
      clear h kw k2 hlt hlt2
      go_loopw [6, 7, 8, 9] (fun s _ _ _ wr => ∃ S : Nat, s = .int .i64 (S : Int) ∧ 1 ≤ S ∧ S ≤ 3000 ∧ (∃ ys, Wt wr g n cap N tb ta tc ts ys) ∧ Keeps [g] w wr) (fun s _ _ _ _ => n - (intOf s).toNat)
      case atStart => exact ⟨20, rfl, by omega, by omega, ⟨ys2, h2⟩, k3⟩
      case round =>
        clear h2 k3
        obtain ⟨S, rfl, hS1, hS2, ⟨ys, h⟩, kw⟩ := hrel
        by_cases hSn : S < n
        · go_wp2_with fail
          go_loopw [7, 8] (fun i j wx => ∃ A : Nat, i = .int .i64 (A : Int) ∧ j = .int .i64 ((A : Int) + 2 * (S : Int)) ∧ A ≤ n ∧ (∃ ys, Wt wx g n cap N tb ta tc ts ys) ∧ Keeps [g] w wx) (fun i _ _ => n - (intOf i).toNat)
          case atStart => exact ⟨0, rfl, int_eq (by omega), by omega, ⟨ys, h⟩, kw⟩
          case round =>
            clear h kw
            obtain ⟨A, rfl, rfl, hA, ⟨ys, h⟩, kw⟩ := hrel
            by_cases hlt : A + 2 * S ≤ n
            · have hlt2 : (A : Int) + 2 * (S : Int) ≤ (n : Int) := by omega
              go_wp2_with (go_at_call 85; refine (c_symX g n cap N tb ta tc ts ys A (A + S) (A + 2 * S) _ _ _ _ h rfl (by omega) (by omega) (by omega) (by omega) hlt hn).mono ?_; rintro e w2 ⟨rfl, ⟨ys2, h2⟩, k2⟩)
              go_roundw
              case rel => exact ⟨A + 2 * S, int_eq (by omega), int_eq (by omega), by omega, ⟨ys2, h2⟩, kw.trans k2 (Step.refl _ _)⟩
              case measure => simp [intOf] <;> omega
            · have hlt2 : ¬ (A : Int) + 2 * (S : Int) ≤ (n : Int) := by omega
              by_cases hAS : A + S < n
              · have hAS2 : (A : Int) + (S : Int) < (n : Int) := by omega
                go_wp2_with (go_at_call 85; refine (c_symX g n cap N tb ta tc ts ys A (A + S) n _ _ _ _ h rfl (by omega) rfl (by omega) hAS (by omega) hn).mono ?_; rintro e w2 ⟨rfl, ⟨ys2, h2⟩, k2⟩)
                go_roundw
                case rel => exact ⟨2 * S, int_eq (by omega), by omega, by omega, ⟨ys2, h2⟩, kw.trans k2 (Step.refl _ _)⟩
                case measure => simp [intOf] <;> omega
              · have hAS2 : ¬ (A : Int) + (S : Int) < (n : Int) := by omega
                go_wp2_with fail
                go_roundw
                case rel => exact ⟨2 * S, int_eq (by omega), by omega, by omega, ⟨ys, h⟩, kw⟩
                case measure => simp [intOf] <;> omega
        · go_wp2_with fail
          go_end0
          exact ⟨rfl, ⟨ys, h⟩, kw⟩


theorem c_Stable (g n cap N tb : Nat) (ta : Option Addr) (tc : Nat) (ts ys : List Int) (w : World) (h : Wt w g n cap N tb ta tc ts ys) (hn : n ≤ 1000) :
    Calls Try.prog 53 #[.slice (some ⟨g, 0, none⟩) n cap, .func (.func 54) #[] #[.pointer (some ⟨tb, 0, none⟩)]] w fun e w' => e = .returned (.tuple #[]) ∧ (∃ ys', Wt w' g n cap N tb ta tc ts ys') ∧ Keeps [g] w w' := by
  go_enter Try.func53, Try.ntmps53
  go_wp2_with (go_at_call 71; refine (c_stbC g n cap N tb ta tc ts ys _ h hn).mono ?_; rintro e w2 ⟨rfl, h2, k2⟩)
  go_end0
  exact ⟨rfl, h2, k2⟩

end Go.Proofs.Ytaffokicnabkiaa

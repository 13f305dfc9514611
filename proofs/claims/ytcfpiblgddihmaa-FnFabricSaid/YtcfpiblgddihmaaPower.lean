/- The statements' own orders of 2, 4 or 8 numbers, and lists. No condition. -/
import Derived.Test.YtcfpiblgddihmaaNear
namespace Go.Proofs.Ytcfpiblgddihmaa
open Go.RowKit
set_option linter.unusedVariables false
set_option linter.unusedSimpArgs false


theorem c_Pick5 (g s : Nat) (a : Option Addr) (n cap : Nat) (bs : List Int) (w wr : World) (cu : Cu wr g a n cap) (hr : Rd w a n cap (bys bs)) (hb : Below w.heap.size w wr) (hg : w.heap.size ≤ g) (hn : n ≤ 1048576)
    (hs : RdI wr (some ⟨s, 0, none⟩) 5 5 [2, 4, 8, 4, 8]) (hsg : s ≠ g) :
    Calls Try.prog 20 #[.pointer (some ⟨g, 0, none⟩), .slice (some ⟨s, 0, none⟩) 5 5] wr fun e w' => ∃ v : Nat, e = .returned (.int .i64 v) ∧ (v = 2 ∨ v = 4 ∨ v = 8) ∧ Cu w' g a n cap ∧ Keeps [g] wr w' := by
  have C1 := Lib.hid (c_Below g a n cap bs w wr cu hr hb hg hn 5 (by omega) (by omega) : Calls Try.prog 35 #[.pointer (some ⟨g, 0, none⟩), .int .i64 5] wr _)
  go_enter Try.func20, Try.ntmps20
  go_wp2_with fail
  refine C1.out.mono ?_
  rintro e w2 ⟨x, rfl, hx, cu2, kp⟩
  clear C1
  have hs2 : RdI w2 (some ⟨s, 0, none⟩) 5 5 [2, 4, 8, 4, 8] := hs.keep kp (fun ad e h => by cases e; simp at h; exact hsg h)
  obtain ⟨b, off, hbe, _, hc⟩ := hs2.int (by omega)
  cases hbe
  have c1 := hc x hx
  rw [Nat.zero_add] at c1
  obtain ⟨v, hv, hv2⟩ : ∃ v : Nat, nth [2, 4, 8, 4, 8] x = (v : Int) ∧ (v = 2 ∨ v = 4 ∨ v = 8) := by
    rcases (show x = 0 ∨ x = 1 ∨ x = 2 ∨ x = 3 ∨ x = 4 by omega) with e | e | e | e | e <;> subst e
    · exact ⟨2, rfl, by omega⟩
    · exact ⟨4, rfl, by omega⟩
    · exact ⟨8, rfl, by omega⟩
    · exact ⟨4, rfl, by omega⟩
    · exact ⟨8, rfl, by omega⟩
  have hxi : (x : Int) < 5 := by omega
  have hxj : (0 : Int) ≤ (x : Int) := by omega
  rw [hv] at c1
  have HV2 := Lib.hid hv2
  clear hc hv hv2
  go_wp2_with fail
  go_ret
  exact ⟨v, rfl, HV2.out, cu2, kp⟩



set_option maxHeartbeats 2000000 in
theorem c_MakePower (a : Option Addr) (n cap : Nat) (bs : List Int) (m most : Nat) (w : World) (hr : Rd w a n cap (bys bs)) (hn : n ≤ 1048576) (hm : m ≤ 1000) (hmo : most = 4 ∨ most = 8) :
    Calls Try.prog 4 #[.slice a n cap, .int .i64 m, .int .i64 most] w fun e w' => ∃ sa k sc xs, e = .returned (.slice sa k sc) ∧ (k = 2 ∨ k = 4 ∨ k = 8) ∧ k ≤ most ∧ Order xs k ∧ OwI w' 3 w.heap.size sa k sc xs ∧ Below w.heap.size w w' := by
  have CN := Lib.hid (c_l31New a n cap bs m w hr hn hm)
  have HMO := Lib.hid hmo
  clear hmo
  go_enter Try.func4, Try.ntmps4
  go_wp2_with fail
  refine CN.out.mono ?_
  rintro e w1 ⟨g, rfl, hg, cu, b1⟩
  clear CN
  have hgl := cu.lt
  have hs : RdI (w1.alloc (.cells #[.int .i64 2, .int .i64 4, .int .i64 8, .int .i64 4, .int .i64 8] 3)) (some ⟨w1.heap.size, 0, none⟩) 5 5 [2, 4, 8, 4, 8] :=
    (Ow.new' w1 3 #[.int .i64 2, .int .i64 4, .int .i64 8, .int .i64 4, .int .i64 8] 5 (ints [2, 4, 8, 4, 8]) rfl rfl (by unfold maxLen; omega)).rd
  have bA : Below w.heap.size w (w1.alloc (.cells #[.int .i64 2, .int .i64 4, .int .i64 8, .int .i64 4, .int .i64 8] 3)) := b1.alloc b1.size _
  have C1 := Lib.hid (c_Pick5 g w1.heap.size a n cap bs w _ (cu.keep (Keeps.alloc [] w1 _) (fun h => by cases h)) hr bA hg hn hs (by omega))
  go_wp2_with fail
  refine C1.out.mono ?_
  rintro e w2 ⟨v, rfl, hv, cu2, kp⟩
  clear C1
  have B2 : Below w.heap.size w w2 := kp.below bA (fun i hi => by simp at hi; omega) bA.size
  have hs2 : w.heap.size ≤ w2.heap.size := B2.size
  have hmo := HMO.out
  by_cases hvm : v < most
  · have hmo2 := HMO.out
    clear hmo
    have h16 : v ≤ 16 := by omega
    clear hmo2
    have C2 := Lib.hid (c_l02Order g a n cap bs w w2 cu2 hr B2 hg hn v (by omega))
    have HV := Lib.hid hv
    clear hv
    go_wp2_with fail
    refine C2.out.mono ?_
    rintro e w3 ⟨sa, sc, xs, rfl, al, ow, _, b3⟩
    go_wp2_with fail
    go_ret
    exact ⟨sa, v, sc, xs, rfl, by have := HV.out; omega, by have := HV.out; omega, al.order, ow.mono hs2, b3⟩
  · have h16 : most ≤ 16 := by omega
    have hq : most = 2 ∨ most = 4 ∨ most = 8 := by omega
    have HQ := Lib.hid hq
    clear hmo hq
    have C2 := Lib.hid (c_l02Order g a n cap bs w w2 cu2 hr B2 hg hn most (by omega))
    have HV := Lib.hid hv
    clear hv
    go_wp2_with fail
    refine C2.out.mono ?_
    rintro e w3 ⟨sa, sc, xs, rfl, al, ow, _, b3⟩
    go_wp2_with fail
    go_ret
    exact ⟨sa, most, sc, xs, rfl, HQ.out, Nat.le_refl _, al.order, ow.mono hs2, b3⟩



theorem c_MakeListF (a : Option Addr) (n cap : Nat) (bs : List Int) (m k : Nat) (w : World) (hr : Rd w a n cap (bys bs)) (hn : n ≤ 1048576) (hm : m ≤ 1000) (hk : k ≤ 30) :
    Calls Try.prog 7 #[.slice a n cap, .int .i64 m, .int .i64 k] w fun e w' => ∃ sa sc xs, e = .returned (.slice sa k sc) ∧ OwI w' 3 w.heap.size sa k sc xs ∧ Below w.heap.size w w' := by
  have CN := Lib.hid (c_l31New a n cap bs m w hr hn hm)
  go_enter Try.func7, Try.ntmps7
  go_wp2_with fail
  refine CN.out.mono ?_
  rintro e w1 ⟨g, rfl, hg, cu, b1⟩
  have CO := Lib.hid (c_l02List g a n cap bs w w1 cu hr b1 hg hn k hk)
  go_wp2_with fail
  refine CO.out.mono ?_
  rintro e w2 ⟨sa, sc, xs, rfl, ow, _, _, b2, _⟩
  go_wp2_with fail
  go_ret
  exact ⟨sa, sc, xs, rfl, ow.mono b1.size, b2⟩


end Go.Proofs.Ytcfpiblgddihmaa

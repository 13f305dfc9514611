/- The fabric, plain lists: what it makes of a list; settings that are split make the order. -/
import Derived.Test.YtcfpiblgddihmaaFabL
namespace Go.Proofs.Ytcfpiblgddihmaa
set_option linter.unusedVariables false

def swM : Nat → Nat
  | 0 => 0
  | 1 => 1
  | d + 2 => 2 * 2 ^ (d + 1) + 2 * swM (d + 1)
def upL (s l : List Int) (h : Nat) : List Int := (List.range h).map fun i => nth l (2 * i + (nth s i).toNat)
def loL (s l : List Int) (h : Nat) : List Int := (List.range h).map fun i => nth l (2 * i + 1 - (nth s i).toNat)
def outM (s U L : List Int) (n : Nat) : Nat → List Int
  | 0 => List.replicate n 0
  | i + 1 => ((outM s U L n i).set (2 * i + (nth s i).toNat) (nth U i)).set (2 * i + 1 - (nth s i).toNat) (nth L i)
def fabS (h m : Nat) (f : List Int → List Int → List Int) (s l : List Int) : List Int :=
  outM (s.drop (h + 2 * m)) (f ((s.drop h).take m) (upL s l h)) (f ((s.drop (h + m)).take m) (loL s l h)) (2 * h) h
def fabM : Nat → List Int → List Int → List Int
  | 0, _, l => l
  | 1, s, l => [nth l (nth s 0).toNat, nth l (1 - nth s 0).toNat]
  | d + 2, s, l => fabS (2 ^ (d + 1)) (swM (d + 1)) (fabM (d + 1)) s l
theorem upL_len (s l : List Int) (h : Nat) : (upL s l h).length = h := by simp [upL]
theorem loL_len (s l : List Int) (h : Nat) : (loL s l h).length = h := by simp [loL]
theorem upL_succ (s l : List Int) (h : Nat) : upL s l (h + 1) = upL s l h ++ [nth l (2 * h + (nth s h).toNat)] := by simp [upL, List.range_succ]
theorem loL_succ (s l : List Int) (h : Nat) : loL s l (h + 1) = loL s l h ++ [nth l (2 * h + 1 - (nth s h).toNat)] := by simp [loL, List.range_succ]
theorem nth_upL {s l : List Int} {h i : Nat} (hi : i < h) : nth (upL s l h) i = nth l (2 * i + (nth s i).toNat) := by rw [nth_eq (by rw [upL_len]; exact hi)]; simp [upL]
theorem nth_loL {s l : List Int} {h i : Nat} (hi : i < h) : nth (loL s l h) i = nth l (2 * i + 1 - (nth s i).toNat) := by rw [nth_eq (by rw [loL_len]; exact hi)]; simp [loL]
theorem outM_len (s U L : List Int) (n i : Nat) : (outM s U L n i).length = n := by
  induction i with
  | zero => simp [outM]
  | succ i ih => simp [outM, ih]
def bitsL (s : List Int) : Prop := ∀ i, i < s.length → nth s i = 0 ∨ nth s i = 1
theorem nth_outM {s U L : List Int} {n h : Nat} (hn : n = 2 * h) (hb : ∀ i, i < h → nth s i = 0 ∨ nth s i = 1) : ∀ m, m ≤ h → ∀ k, k < m → nth (outM s U L n m) (2 * k + (nth s k).toNat) = nth U k ∧ nth (outM s U L n m) (2 * k + 1 - (nth s k).toNat) = nth L k := by
  intro m
  induction m with
  | zero => intro _ k hk; omega
  | succ m ih =>
    intro hm k hk
    have bm := hb m (by omega)
    have bk := hb k (by omega)
    have l1 : 2 * m + (nth s m).toNat < n := by rcases bm with e | e <;> rw [e] <;> simp <;> omega
    have l2 : 2 * m + 1 - (nth s m).toNat < n := by rcases bm with e | e <;> rw [e] <;> simp <;> omega
    simp only [outM]
    have q2 := fun j => nth_setL ((outM s U L n m).set (2 * m + (nth s m).toNat) (nth U m)) (2 * m + 1 - (nth s m).toNat) j (nth L m) (by rw [List.length_set, outM_len]; exact l2)
    have q1 := fun j => nth_setL (outM s U L n m) (2 * m + (nth s m).toNat) j (nth U m) (by rw [outM_len]; exact l1)
    rw [q2, q2, q1, q1]
    by_cases e : k = m
    · subst e
      have ne : 2 * k + 1 - (nth s k).toNat ≠ 2 * k + (nth s k).toNat := by rcases bk with e | e <;> rw [e] <;> simp <;> omega
      rw [if_neg ne, if_pos rfl, if_pos rfl]
      exact ⟨rfl, rfl⟩
    · have n1 : 2 * m + 1 - (nth s m).toNat ≠ 2 * k + (nth s k).toNat := by rcases bm with a | a <;> rcases bk with b | b <;> rw [a, b] <;> simp <;> omega
      have n2 : 2 * m + (nth s m).toNat ≠ 2 * k + (nth s k).toNat := by rcases bm with a | a <;> rcases bk with b | b <;> rw [a, b] <;> simp <;> omega
      have n3 : 2 * m + 1 - (nth s m).toNat ≠ 2 * k + 1 - (nth s k).toNat := by rcases bm with a | a <;> rcases bk with b | b <;> rw [a, b] <;> simp <;> omega
      have n4 : 2 * m + (nth s m).toNat ≠ 2 * k + 1 - (nth s k).toNat := by rcases bm with a | a <;> rcases bk with b | b <;> rw [a, b] <;> simp <;> omega
      rw [if_neg n1, if_neg n2, if_neg n3, if_neg n4]
      exact ih (by omega) k (by omega)

/-- Settings that make the order. -/
structure Good (d : Nat) (o s : List Int) : Prop where
  len : s.length = swM d
  bits : bitsL s
  fl : ∀ l : List Int, l.length = 2 ^ d → (fabM d s l).length = 2 ^ d ∧ ∀ k, k < 2 ^ d → nth (fabM d s l) k = nth l (oN o k)
  z : 2 ≤ d → nth s (swM d - 2 ^ (d - 1)) = 0
theorem nth_app1 (xs ys : List Int) (i : Nat) (h : i < xs.length) : nth (xs ++ ys) i = nth xs i := nth_append_left xs ys i h
theorem nth_app2 (xs ys : List Int) (i : Nat) (h : xs.length ≤ i) : nth (xs ++ ys) i = nth ys (i - xs.length) := by
  unfold nth List.getD; rw [List.getElem?_append_right h]
theorem good_one {o : List Int} (ho : Ord2 o 1) (hn : ∀ j, j < 2 → 0 ≤ nth o j) (hl : o.length = 2) : Good 1 o [nth o 0] := by
  have a := ho.lt 0 (by omega)
  have b := ho.lt 1 (by omega)
  have c := fun e => ho.inj 0 1 (by omega) (by omega) e
  have h0 := hn 0 (by omega)
  have h1 := hn 1 (by omega)
  have e0 : nth [nth o 0] 0 = nth o 0 := rfl
  unfold oN at a b c
  refine ⟨rfl, fun i hi => ?_, fun l hl => ⟨rfl, fun k hk => ?_⟩, fun h => by omega⟩
  · have hi0 : i = 0 := by simpa using hi
    subst hi0; rw [e0]; omega
  · show nth [nth l (nth [nth o 0] 0).toNat, nth l (1 - nth [nth o 0] 0).toNat] k = _
    rw [e0]
    rcases (show k = 0 ∨ k = 1 by omega) with e | e
    · subst e; rfl
    · subst e
      show nth l (1 - nth o 0).toNat = nth l (oN o 1)
      congr 1
      unfold oN
      omega
theorem good_step {d : Nat} {o first last upper lower sU sL : List Int} (P : Split o (2 ^ (d + 1)) first last upper lower) (ho : Ord2 o (2 ^ (d + 1))) (gU : Good (d + 1) upper sU) (gL : Good (d + 1) lower sL) :
    Good (d + 2) o (first ++ (sU ++ (sL ++ last))) := by
  obtain ⟨h, hh⟩ : ∃ h, 2 ^ (d + 1) = h := ⟨_, rfl⟩
  have hh2 : 2 ^ (d + 2) = 2 * h := by rw [← hh, Nat.pow_succ 2 (d + 1)]; omega
  have hh1 : 1 ≤ h := by rw [← hh]; exact Nat.one_le_two_pow
  rw [hh] at P ho
  have lU := gU.len
  have lL := gL.len
  obtain ⟨m, hm⟩ : ∃ m, swM (d + 1) = m := ⟨_, rfl⟩
  have fU := gU.fl
  have fL := gL.fl
  rw [hm] at lU lL
  rw [hh] at fU fL
  have hsw : swM (d + 2) = 2 * h + 2 * m := by show 2 * 2 ^ (d + 1) + 2 * swM (d + 1) = _; rw [hh, hm]
  have lf := P.hf
  have ll := P.hl
  have s1 : ∀ i, i < h → nth (first ++ (sU ++ (sL ++ last))) i = nth first i := fun i hi => nth_app1 _ _ _ (by omega)
  have d1 : (first ++ (sU ++ (sL ++ last))).drop h = sU ++ (sL ++ last) := by rw [← lf, List.drop_left]
  have t1 : ((first ++ (sU ++ (sL ++ last))).drop h).take m = sU := by rw [d1, ← lU, List.take_left]
  have d2 : (first ++ (sU ++ (sL ++ last))).drop (h + m) = sL ++ last := by rw [← List.drop_drop, d1, ← lU, List.drop_left]
  have t2 : ((first ++ (sU ++ (sL ++ last))).drop (h + m)).take m = sL := by rw [d2, ← lL, List.take_left]
  have d3 : (first ++ (sU ++ (sL ++ last))).drop (h + 2 * m) = last := by
    rw [show h + 2 * m = (h + m) + m by omega, ← List.drop_drop, d2, ← lL, List.drop_left]
  refine ⟨by simp [lf, lU, lL, ll, hsw]; omega, fun i hi => ?_, fun l hl => ?_, fun _ => ?_⟩
  · simp [lf, lU, lL, ll] at hi
    by_cases a : i < h
    · rw [s1 i a]; exact P.fb i a
    · rw [nth_app2 _ _ _ (by omega), lf]
      by_cases b : i - h < m
      · rw [nth_app1 _ _ _ (by omega)]; exact gU.bits _ (by omega)
      · rw [nth_app2 _ _ _ (by omega), lU]
        by_cases c : i - h - m < m
        · rw [nth_app1 _ _ _ (by omega)]; exact gL.bits _ (by omega)
        · rw [nth_app2 _ _ _ (by omega), lL]; exact P.lb _ (by omega)
  · have e : fabM (d + 2) (first ++ (sU ++ (sL ++ last))) l = outM last (fabM (d + 1) sU (upL (first ++ (sU ++ (sL ++ last))) l h)) (fabM (d + 1) sL (loL (first ++ (sU ++ (sL ++ last))) l h)) (2 * h) h := by
      show fabS (2 ^ (d + 1)) (swM (d + 1)) (fabM (d + 1)) _ l = _
      unfold fabS
      rw [hh, hm, t1, t2, d3]
    rw [hh2, e]
    refine ⟨outM_len _ _ _ _ _, fun p hp => ?_⟩
    obtain ⟨k, hk⟩ : ∃ k, p / 2 = k := ⟨_, rfl⟩
    have hkh : k < h := by omega
    have lb := P.lb k hkh
    have n1 := nth_outM (s := last) (U := fabM (d + 1) sU (upL (first ++ (sU ++ (sL ++ last))) l h)) (L := fabM (d + 1) sL (loL (first ++ (sU ++ (sL ++ last))) l h)) rfl P.lb h (Nat.le_refl _) k hkh
    have hcase : p = uP last k ∨ p = lP last k := by
      unfold uP lP; rcases lb with e | e <;> rw [e] <;> simp <;> omega
    rcases hcase with hp2 | hp2
    · obtain ⟨x, hx, hux, hfx, hxe⟩ := P.uo k hkh
      have n2 := n1.1
      change nth _ (uP last k) = _ at n2
      rw [hp2, n2, (fU _ (upL_len _ _ _)).2 k hkh]
      have : oN upper k = x := by unfold oN; rw [hux]; rfl
      rw [this, nth_upL hx, s1 x hx, hfx]
      congr 1
      rw [Int.toNat_natCast]; omega
    · obtain ⟨x, hx, hux, hfx, hxe⟩ := P.lo k hkh
      have n2 := n1.2
      change nth _ (lP last k) = _ at n2
      rw [hp2, n2, (fL _ (loL_len _ _ _)).2 k hkh]
      have : oN lower k = x := by unfold oN; rw [hux]; rfl
      rw [this, nth_loL hx, s1 x hx, hfx]
      congr 1
      omega
  · rw [hsw]
    show nth _ (2 * h + 2 * m - 2 ^ (d + 1)) = 0
    rw [hh, show 2 * h + 2 * m - h = h + (m + (m + 0)) by omega, nth_app2 _ _ _ (by omega), lf, nth_app2 _ _ _ (by omega), lU, nth_app2 _ _ _ (by omega), lL, show h + (m + (m + 0)) - h - m - m = 0 by omega]
    exact P.z (by omega)
/-- The two halves are orders. -/
theorem Split.ordU {o first last upper lower : List Int} {h : Nat} (P : Split o (2 * h) first last upper lower) : Ord2 upper h ∧ Ord2 lower h := by
  refine ⟨⟨fun p hp => ?_, fun p q hp hq e => ?_⟩, ⟨fun p hp => ?_, fun p q hp hq e => ?_⟩⟩
  · obtain ⟨x, hx, e, _⟩ := P.uo p hp
    unfold oN; rw [e]; simpa using hx
  · obtain ⟨x, hx, e1, _⟩ := P.uo p hp
    obtain ⟨y, hy, e2, _⟩ := P.uo q hq
    unfold oN at e
    rw [e1, e2] at e
    have e3 : nth upper p = nth upper q := by rw [e1, e2]; simp at e; rw [e]
    rcases Nat.lt_trichotomy p q with h1 | h1 | h1
    · exact absurd e3 (P.ui p q h1 hq)
    · exact h1
    · exact absurd e3.symm (P.ui q p h1 hp)
  · obtain ⟨x, hx, e, _⟩ := P.lo p hp
    unfold oN; rw [e]; simpa using hx
  · obtain ⟨x, hx, e1, _⟩ := P.lo p hp
    obtain ⟨y, hy, e2, _⟩ := P.lo q hq
    unfold oN at e
    rw [e1, e2] at e
    have e3 : nth lower p = nth lower q := by rw [e1, e2]; simp at e; rw [e]
    rcases Nat.lt_trichotomy p q with h1 | h1 | h1
    · exact absurd e3 (P.li p q h1 hq)
    · exact h1
    · exact absurd e3.symm (P.li q p h1 hp)

end Go.Proofs.Ytcfpiblgddihmaa

/- An order and its inverse have the same number of pairs out of order: plain numbers. -/
import Derived.Test.YtcfpiblgddihmaaCycL
import Derived.Test.YtcfpiblgddihmaaFabV
namespace Go.Proofs.Ytcfpiblgddihmaa
set_option linter.unusedVariables false

theorem Sm_bij (n : Nat) : ∀ (q o f : Nat → Nat), Inv2 q o n → Sm (fun a => f (o a)) n = Sm f n := by
  induction n with
  | zero => intro q o f _; rfl
  | succ N ih =>
    intro q o f h
    have hN := h N (by omega)
    simp only [Sm]
    by_cases hp : o N = N
    · have hq : q N = N := by have := hN.2.2.2; rw [hp] at this; exact this
      have h' : Inv2 q o N := by
        intro i hi
        obtain ⟨a, b, c, d⟩ := h i (by omega)
        have a' : q i ≠ N := fun e => by rw [e, hp] at c; omega
        have b' : o i ≠ N := fun e => by rw [e, hq] at d; omega
        exact ⟨by omega, by omega, c, d⟩
      rw [ih q o f h', hp]
    · obtain ⟨p, hpe⟩ : ∃ p, o N = p := ⟨_, rfl⟩
      obtain ⟨m, hme⟩ : ∃ m, q N = m := ⟨_, rfl⟩
      have hpN : p < N := by have := hN.2.1; omega
      have hqp : q p = N := by have := hN.2.2.2; rw [hpe] at this; exact this
      have hom : o m = N := by have := hN.2.2.1; rw [hme] at this; exact this
      have hmN : m < N := by
        have := hN.1
        by_cases e : m = N
        · rw [e] at hom; omega
        · omega
      obtain ⟨q', hq'⟩ : ∃ q' : Nat → Nat, ∀ i, q' i = if i = p then m else q i := ⟨fun i => if i = p then m else q i, fun _ => rfl⟩
      obtain ⟨o', ho'⟩ : ∃ o' : Nat → Nat, ∀ i, o' i = if i = m then p else o i := ⟨fun i => if i = m then p else o i, fun _ => rfl⟩
      have h' : Inv2 q' o' N := by
        intro i hi
        obtain ⟨a, b, c, d⟩ := h i (by omega)
        refine ⟨?_, ?_, ?_, ?_⟩
        · rw [hq']; split
          · exact hmN
          · have : q i ≠ N := fun e => by rw [e, hpe] at c; omega
            omega
        · rw [ho']; split
          · exact hpN
          · have : o i ≠ N := fun e => by rw [e, hme] at d; omega
            omega
        · rw [hq']; split
          · rw [ho', if_pos rfl]; omega
          · have : q i ≠ m := fun e => by rw [e, hom] at c; omega
            rw [ho', if_neg this]; exact c
        · rw [ho']; split
          · rw [hq', if_pos rfl]; omega
          · have : o i ≠ p := fun e => by rw [e, hqp] at d; omega
            rw [hq', if_neg this]; exact d
      have e1 := ih q' o' f h'
      rw [Sm_at (f := fun a => f (o' a)) hmN] at e1
      rw [Sm_at (f := fun a => f (o a)) hmN]
      have e2 : Sm (fun k => if k = m then 0 else f (o' k)) N = Sm (fun k => if k = m then 0 else f (o k)) N := Sm_congr (fun k _ => by
        by_cases e : k = m
        · rw [if_pos e, if_pos e]
        · rw [if_neg e, if_neg e, ho', if_neg e])
      have e3 : f (o' m) = f p := by rw [ho', if_pos rfl]
      have e4 : f (o m) = f N := by rw [hom]
      rw [hpe]
      simp only [e3] at e1
      simp only [e4]
      omega
theorem Sm_comm (f : Nat → Nat → Nat) (n m : Nat) : Sm (fun a => Sm (fun b => f a b) m) n = Sm (fun b => Sm (fun a => f a b) n) m := by
  induction n with
  | zero => simp only [Sm]; exact (Sm_zero (fun k _ => rfl)).symm
  | succ n ih => simp only [Sm]; rw [ih, Sm_add]
theorem invN_sq (q : Nat → Nat) (n : Nat) : invN q n = Sm (fun k => Sm (fun j => if j < k ∧ q k < q j then 1 else 0) n) n := by
  unfold invN
  refine Sm_congr (fun k hk => ?_)
  rw [← Sm_lt (p := k) (n := n) (by omega)]
  refine Sm_congr (fun j _ => ?_)
  by_cases e : j < k
  · rw [if_pos e]; unfold out1
    by_cases e2 : q k < q j
    · rw [if_pos e2, if_pos ⟨e, e2⟩]
    · rw [if_neg e2, if_neg (fun x => e2 x.2)]
  · rw [if_neg e, if_neg (fun x => e x.1)]
theorem inv_same {q o : Nat → Nat} {n : Nat} (h : Inv2 q o n) : invN q n = invN o n := by
  rw [invN_sq, invN_sq]
  rw [← Sm_bij n q o _ h]
  have e : Sm (fun a => Sm (fun j => if j < o a ∧ q (o a) < q j then 1 else 0) n) n = Sm (fun a => Sm (fun b => if o b < o a ∧ a < b then 1 else 0) n) n := by
    refine Sm_congr (fun a ha => ?_)
    rw [← Sm_bij n q o _ h]
    refine Sm_congr (fun b hb => ?_)
    rw [(h a ha).2.2.2, (h b hb).2.2.2]
  rw [e, Sm_comm]
  refine Sm_congr (fun b _ => Sm_congr (fun a _ => ?_))
  by_cases e : a < b ∧ o b < o a
  · rw [if_pos e, if_pos ⟨e.2, e.1⟩]
  · rw [if_neg e, if_neg (fun x => e ⟨x.2, x.1⟩)]
theorem sumC_invF {q : List Int} {n : Nat} (hb : ∀ j, j < n → 0 ≤ nth q j) : sumC q n = invN (oN q) n := by
  have h1 : ∀ k, k < n → ∀ m, m ≤ k → cntG q (nth q k) m = Sm (fun j => out1 (oN q) j k) m := by
    intro k hk m
    induction m with
    | zero => intro _; rfl
    | succ m ih =>
      intro hm
      simp only [cntG, Sm]
      rw [ih (by omega)]
      have a := hb k hk
      have b := hb m (by omega)
      unfold out1 oN
      by_cases e : nth q k < nth q m
      · rw [if_pos e, if_pos (by omega)]
      · rw [if_neg e, if_neg (by omega)]
  have h2 : ∀ k, k ≤ n → sumC q k = invN (oN q) k := by
    intro k
    induction k with
    | zero => intro _; rfl
    | succ k ih =>
      intro hk
      have e : invN (oN q) (k + 1) = invN (oN q) k + Sm (fun j => out1 (oN q) j k) k := rfl
      rw [e, ← ih (by omega)]
      simp only [sumC]
      rw [h1 k (by omega) k (Nat.le_refl _)]
  exact h2 n (Nat.le_refl _)
/-- The inverse order. -/
theorem inv_order {o : List Int} {n : Nat} (ho : Order o n) : Order (invT o n n) n ∧ (∀ i, i < n → nth (invT o n n) (oN o i) = (i : Int)) ∧ sumC (invT o n n) n = sumC o n := by
  have lt : ∀ p, p < n → oN o p < n := fun p hp => by have := ho.2.1 p hp; unfold oN; omega
  have inj : ∀ p q, p < n → q < n → oN o p = oN o q → p = q := fun p q hp hq e => by
    have a := ho.2.1 p hp
    have b := ho.2.1 q hq
    unfold oN at e
    rcases Nat.lt_trichotomy p q with h1 | h1 | h1
    · exact absurd (by omega) (ho.2.2 p q h1 hq)
    · exact h1
    · exact absurd (by omega) (ho.2.2 q p h1 hp)
  have at' := invT_at lt inj n (Nat.le_refl _)
  have find : ∀ v, v < n → ∃ p, p < n ∧ oN o p = v := by
    intro v hv
    obtain ⟨p, hp, e⟩ := take_sub ho v hv
    exact ⟨p, hp, by unfold oN; rw [e]; rfl⟩
  have hI : Inv2 (oN o) (oN (invT o n n)) n := by
    intro i hi
    obtain ⟨p, hp, e⟩ := find i hi
    have e1 : oN (invT o n n) i = p := by
      have := at' p hp
      rw [e] at this
      unfold oN; rw [this]; rfl
    have e2 : oN (invT o n n) (oN o i) = i := by
      have := at' i hi
      unfold oN at this ⊢; rw [this]; rfl
    exact ⟨lt i hi, by omega, e2, by rw [e1, e]⟩
  have hO : Order (invT o n n) n := by
    refine ⟨invT_len o n n, fun j hj => ?_, fun i j hij hj e => ?_⟩
    · obtain ⟨p, hp, e⟩ := find j hj
      have := at' p hp
      rw [e] at this
      rw [this]; omega
    · have h1 := (hI i (by omega)).2.2.2
      have h2 := (hI j hj).2.2.2
      have : oN (invT o n n) i = oN (invT o n n) j := by unfold oN; rw [e]
      rw [this] at h1
      omega
  refine ⟨hO, at', ?_⟩
  rw [sumC_invF (fun j hj => (hO.2.1 j hj).1), sumC_invF (fun j hj => (ho.2.1 j hj).1)]
  exact (inv_same hI).symm

end Go.Proofs.Ytcfpiblgddihmaa

/- Plain numbers: cycles of an order, and pairs out of order. -/
import Derived.Test.YtcfpiblgddihmaaDisL
namespace Go.Proofs.Ytcfpiblgddihmaa
set_option linter.unusedVariables false

def Sm (f : Nat → Nat) : Nat → Nat
  | 0 => 0
  | n + 1 => Sm f n + f n
theorem Sm_congr {f g : Nat → Nat} {n : Nat} (h : ∀ k, k < n → f k = g k) : Sm f n = Sm g n := by
  induction n with
  | zero => rfl
  | succ n ih => simp only [Sm]; rw [ih (fun k hk => h k (by omega)), h n (by omega)]
theorem Sm_add (f g : Nat → Nat) (n : Nat) : Sm (fun k => f k + g k) n = Sm f n + Sm g n := by
  induction n with
  | zero => rfl
  | succ n ih => simp only [Sm]; rw [ih]; omega
theorem Sm_zero {f : Nat → Nat} {n : Nat} (h : ∀ k, k < n → f k = 0) : Sm f n = 0 := by
  induction n with
  | zero => rfl
  | succ n ih => simp only [Sm]; rw [ih (fun k hk => h k (by omega)), h n (by omega)]
theorem Sm_at {f : Nat → Nat} {n p : Nat} (hp : p < n) : Sm f n = Sm (fun k => if k = p then 0 else f k) n + f p := by
  induction n with
  | zero => omega
  | succ n ih =>
    simp only [Sm]
    by_cases h : p = n
    · subst h
      rw [if_pos rfl]
      have := Sm_congr (f := f) (g := fun k => if k = p then 0 else f k) (n := p) (fun k hk => by simp; omega)
      omega
    · rw [ih (by omega), if_neg (fun e => h e.symm)]; omega
theorem Sm_lt {f : Nat → Nat} {p n : Nat} (h : p ≤ n) : Sm (fun k => if k < p then f k else 0) n = Sm f p := by
  induction n with
  | zero =>
    have e : p = 0 := by omega
    subst e; rfl
  | succ n ih =>
    simp only [Sm]
    by_cases e : p = n + 1
    · subst e
      rw [if_pos (by omega)]
      simp only [Sm]
      rw [Sm_congr (f := fun k => if k < n + 1 then f k else 0) (g := f) (fun k hk => by rw [if_pos (by omega)])]
    · rw [ih (by omega), if_neg (by omega)]; rfl

def out1 (q : Nat → Nat) (j k : Nat) : Nat := if q k < q j then 1 else 0
def invN (q : Nat → Nat) (n : Nat) : Nat := Sm (fun k => Sm (fun j => out1 q j k) k) n
def offP (q : Nat → Nat) (p n : Nat) : Nat := Sm (fun k => Sm (fun j => if j = p ∨ k = p then 0 else out1 q j k) k) n
theorem invN_split (q : Nat → Nat) (p n : Nat) : invN q n = offP q p n + (if p < n then Sm (fun j => out1 q j p) p else 0) + Sm (fun k => if p < k then out1 q p k else 0) n := by
  induction n with
  | zero => simp [invN, offP, Sm]
  | succ n ih =>
    have e1 : invN q (n + 1) = invN q n + Sm (fun j => out1 q j n) n := rfl
    have e2 : offP q p (n + 1) = offP q p n + Sm (fun j => if j = p ∨ n = p then 0 else out1 q j n) n := rfl
    rw [e1, e2, ih]
    simp only [Sm]
    rcases Nat.lt_trichotomy n p with h | h | h
    · rw [if_neg (by omega), if_neg (by omega), if_neg (by omega)]
      have := Sm_congr (f := fun j => if j = p ∨ n = p then 0 else out1 q j n) (g := fun j => out1 q j n) (n := n) (fun j hj => by simp; omega)
      omega
    · subst h
      rw [if_neg (by omega), if_pos (by omega), if_neg (by omega)]
      have := Sm_zero (f := fun j => if j = n ∨ n = n then 0 else out1 q j n) (n := n) (fun j hj => by simp)
      omega
    · rw [if_pos h, if_pos (by omega), if_pos h]
      have a := Sm_at (f := fun j => out1 q j n) h
      have b := Sm_congr (f := fun j => if j = p ∨ n = p then 0 else out1 q j n) (g := fun j => if j = p then 0 else out1 q j n) (n := n) (fun j hj => by
        by_cases e : j = p
        · simp [e]
        · rw [if_neg (by omega), if_neg e])
      omega
theorem offP_congr {q r : Nat → Nat} {p n : Nat} (h : ∀ k, k < n → k ≠ p → q k = r k) : offP q p n = offP r p n := by
  unfold offP
  refine Sm_congr (fun k hk => Sm_congr (fun j hj => ?_))
  by_cases e : j = p ∨ k = p
  · rw [if_pos e, if_pos e]
  · rw [if_neg e, if_neg e]; unfold out1; rw [h k hk (by omega), h j (by omega) (by omega)]

/-- k is the least number of its cycle. -/
def minO (f : Nat → Nat) (n k : Nat) : Prop := ∃ S : Nat → Prop, S k ∧ ∀ i, S i → i < n ∧ k ≤ i ∧ S (f i)
open Classical in
noncomputable def cyc (f : Nat → Nat) (n m : Nat) : Nat := Sm (fun k => if minO f n k then 1 else 0) m
theorem cyc_le (f : Nat → Nat) (n m : Nat) : cyc f n m ≤ m := by
  unfold cyc
  induction m with
  | zero => simp [Sm]
  | succ m ih => simp only [Sm]; split <;> omega
/-- Two orders, each the other's inverse. -/
def Inv2 (q o : Nat → Nat) (n : Nat) : Prop := ∀ i, i < n → q i < n ∧ o i < n ∧ o (q i) = i ∧ q (o i) = i

open Classical in
theorem inv_cyc (n : Nat) : ∀ q o : Nat → Nat, Inv2 q o n → ∃ t, invN q n + cyc o n n = n + 2 * t := by
  induction n with
  | zero => intro q o h; exact ⟨0, rfl⟩
  | succ N ih =>
    intro q o h
    have hN := h N (by omega)
    have e1 : invN q (N + 1) = invN q N + Sm (fun j => out1 q j N) N := rfl
    have e2 : cyc o (N + 1) (N + 1) = cyc o (N + 1) N + (if minO o (N + 1) N then 1 else 0) := rfl
    by_cases hp : o N = N
    · have hq : q N = N := by have := hN.2.2.2; rw [hp] at this; exact this
      have h' : Inv2 q o N := by
        intro i hi
        obtain ⟨a, b, c, d⟩ := h i (by omega)
        have a' : q i ≠ N := fun e => by rw [e, hp] at c; omega
        have b' : o i ≠ N := fun e => by rw [e, hq] at d; omega
        exact ⟨by omega, by omega, c, d⟩
      obtain ⟨t, ht⟩ := ih q o h'
      have c0 : Sm (fun j => out1 q j N) N = 0 := Sm_zero (fun j hj => by
        have := (h' j hj).1
        unfold out1; rw [if_neg (by omega)])
      have c1 : minO o (N + 1) N := ⟨fun i => i = N, rfl, fun i hi => by subst hi; exact ⟨by omega, by omega, hp⟩⟩
      have c2 : cyc o (N + 1) N = cyc o N N := by
        unfold cyc
        refine Sm_congr (fun k hk => ?_)
        have : minO o (N + 1) k ↔ minO o N k := by
          constructor
          · rintro ⟨S, hS, hc⟩
            refine ⟨fun i => S i ∧ i < N, ⟨hS, hk⟩, ?_⟩
            rintro i ⟨hi, hiN⟩
            exact ⟨hiN, (hc i hi).2.1, (hc i hi).2.2, (h' i hiN).2.1⟩
          · rintro ⟨S, hS, hc⟩
            exact ⟨S, hS, fun i hi => ⟨by have := (hc i hi).1; omega, (hc i hi).2⟩⟩
        simp only [this]
      refine ⟨t, ?_⟩
      rw [e1, e2, c0, c2, if_pos c1]; omega
    · obtain ⟨p, hpe⟩ : ∃ p, o N = p := ⟨_, rfl⟩
      obtain ⟨m, hme⟩ : ∃ m, q N = m := ⟨_, rfl⟩
      have hpN : p < N := by have := hN.2.1; omega
      have hqp : q p = N := by have := hN.2.2.2; rw [hpe] at this; exact this
      have hom : o m = N := by have := hN.2.2.1; rw [hme] at this; exact this
      have hmN : m < N := by
        have := hN.1
        by_cases e : m = N
        · rw [e] at hom; omega
        · omega
      obtain ⟨q', hq'⟩ : ∃ q' : Nat → Nat, ∀ i, q' i = if i = p then m else q i := ⟨fun i => if i = p then m else q i, fun _ => rfl⟩
      obtain ⟨o', ho'⟩ : ∃ o' : Nat → Nat, ∀ i, o' i = if i = m then p else o i := ⟨fun i => if i = m then p else o i, fun _ => rfl⟩
      have h' : Inv2 q' o' N := by
        intro i hi
        obtain ⟨a, b, c, d⟩ := h i (by omega)
        refine ⟨?_, ?_, ?_, ?_⟩
        · rw [hq']; split
          · exact hmN
          · have : q i ≠ N := fun e => by rw [e, hpe] at c; omega
            omega
        · rw [ho']; split
          · exact hpN
          · have : o i ≠ N := fun e => by rw [e, hme] at d; omega
            omega
        · rw [hq']; split
          · rw [ho', if_pos rfl]; omega
          · have : q i ≠ m := fun e => by rw [e, hom] at c; omega
            rw [ho', if_neg this]; exact c
        · rw [ho']; split
          · rw [hq', if_pos rfl]; omega
          · have : o i ≠ p := fun e => by rw [e, hqp] at d; omega
            rw [hq', if_neg this]; exact d
      obtain ⟨t, ht⟩ := ih q' o' h'
      -- the pairs
      have s1 := invN_split q p N
      have s2 := invN_split q' p N
      rw [if_pos hpN] at s1 s2
      have s3 : offP q p N = offP q' p N := offP_congr (fun k _ hkp => by rw [hq', if_neg hkp])
      have qlt : ∀ k, k < N → k ≠ p → q k < N ∧ q k ≠ m := by
        intro k hk hkp
        obtain ⟨a, b, c, d⟩ := h k (by omega)
        exact ⟨by have : q k ≠ N := fun e => by rw [e, hpe] at c; omega
                  omega, fun e => by rw [e, hom] at c; omega⟩
      have hq'p : q' p = m := by rw [hq', if_pos rfl]
      have z1 : Sm (fun j => out1 q j p) p = 0 := Sm_zero (fun j hj => by
        have := qlt j (by omega) (by omega)
        unfold out1; rw [if_neg (by omega)])
      have z2 : Sm (fun j => out1 q' j p) p = Sm (fun k => if k < p ∧ m < q k then 1 else 0) N := by
        rw [← Sm_lt (p := p) (n := N) (by omega)]
        refine Sm_congr (fun k hk => ?_)
        by_cases e : k < p
        · unfold out1
          have hk' : q' k = q k := by rw [hq', if_neg (by omega)]
          rw [if_pos e, hq'p, hk']
          by_cases e2 : m < q k
          · rw [if_pos e2, if_pos ⟨e, e2⟩]
          · rw [if_neg e2, if_neg (fun x => e2 x.2)]
        · rw [if_neg e, if_neg (fun x => e x.1)]
      have z3 : Sm (fun k => if p < k then out1 q p k else 0) N = Sm (fun k => (if p < k ∧ q k < m then 1 else 0) + (if p < k ∧ m < q k then 1 else 0)) N := by
        refine Sm_congr (fun k hk => ?_)
        by_cases e : p < k
        · have := qlt k hk (by omega)
          unfold out1
          rw [if_pos e, if_pos (by omega)]
          by_cases e2 : m < q k
          · rw [if_neg (by omega), if_pos ⟨e, e2⟩]
          · rw [if_pos ⟨e, by omega⟩, if_neg (fun x => e2 x.2)]
        · rw [if_neg e, if_neg (fun x => e x.1), if_neg (fun x => e x.1)]
      rw [Sm_add] at z3
      have z4 : Sm (fun k => if p < k then out1 q' p k else 0) N = Sm (fun k => if p < k ∧ q k < m then 1 else 0) N := by
        refine Sm_congr (fun k hk => ?_)
        by_cases e : p < k
        · unfold out1
          have hk' : q' k = q k := by rw [hq', if_neg (by omega)]
          rw [if_pos e, hq'p, hk']
          by_cases e2 : q k < m
          · rw [if_pos e2, if_pos ⟨e, e2⟩]
          · rw [if_neg e2, if_neg (fun x => e2 x.2)]
        · rw [if_neg e, if_neg (fun x => e x.1)]
      have z5 : Sm (fun j => out1 q j N) N = Sm (fun k => (if k < p ∧ m < q k then 1 else 0) + (if p < k ∧ m < q k then 1 else 0)) N + 1 := by
        rw [Sm_at hpN]
        have : out1 q p N = 1 := by unfold out1; rw [if_pos (by omega)]
        rw [this]
        congr 1
        refine Sm_congr (fun k hk => ?_)
        by_cases e : k = p
        · rw [if_pos e, if_neg (by omega), if_neg (by omega)]
        · rw [if_neg e]
          unfold out1
          rw [hme]
          by_cases e2 : m < q k
          · rw [if_pos e2]
            by_cases e3 : k < p
            · rw [if_pos ⟨e3, e2⟩, if_neg (by omega)]
            · rw [if_neg (by omega), if_pos ⟨by omega, e2⟩]
          · rw [if_neg e2, if_neg (fun x => e2 x.2), if_neg (fun x => e2 x.2)]
      rw [Sm_add] at z5
      have c1 : ¬ minO o (N + 1) N := by
        rintro ⟨S, hS, hc⟩
        have := hc _ (hc N hS).2.2
        rw [hpe] at this; omega
      have c2 : cyc o (N + 1) N = cyc o' N N := by
        unfold cyc
        refine Sm_congr (fun k hk => ?_)
        have : minO o (N + 1) k ↔ minO o' N k := by
          constructor
          · rintro ⟨S, hS, hc⟩
            refine ⟨fun i => S i ∧ i < N, ⟨hS, hk⟩, ?_⟩
            rintro i ⟨hi, hiN⟩
            have h1 := hc i hi
            refine ⟨hiN, h1.2.1, ?_⟩
            rw [ho']; split
            · rename_i e
              subst e
              rw [hom] at h1
              have h2 := (hc N h1.2.2).2.2
              rw [hpe] at h2
              exact ⟨h2, hpN⟩
            · rename_i e
              have h3 := h i (by omega)
              have : o i ≠ N := fun e' => by have h4 := h3.2.2.2; rw [e', hme] at h4; omega
              exact ⟨h1.2.2, by omega⟩
          · rintro ⟨S, hS, hc⟩
            refine ⟨fun i => S i ∨ (i = N ∧ S m), Or.inl hS, ?_⟩
            rintro i (hi | ⟨rfl, hi⟩)
            · have h1 := hc i hi
              refine ⟨by omega, h1.2.1, ?_⟩
              by_cases e : i = m
              · subst e; exact Or.inr ⟨hom, hi⟩
              · have h2 := h1.2.2
                rw [ho', if_neg e] at h2
                exact Or.inl h2
            · refine ⟨by omega, by omega, Or.inl ?_⟩
              have h2 := (hc m hi).2.2
              rw [ho', if_pos rfl] at h2
              rw [hpe]; exact h2
        simp only [this]
      refine ⟨t + Sm (fun k => if p < k ∧ m < q k then 1 else 0) N, ?_⟩
      rw [e1, e2, c2, if_neg c1]
      omega
theorem cyc_pos {q o : Nat → Nat} {n : Nat} (h : Inv2 q o n) (hn : 1 ≤ n) : 1 ≤ cyc o n n := by
  have h0 : minO o n 0 := ⟨fun i => i < n, by omega, fun i hi => ⟨hi, by omega, (h i hi).2.1⟩⟩
  have hs : ∀ m, 1 ≤ m → 1 ≤ cyc o n m := by
    intro m hm
    induction m with
    | zero => omega
    | succ m ih =>
      unfold cyc at ih ⊢
      simp only [Sm]
      by_cases e : m = 0
      · subst e; simp only [if_pos h0]; omega
      · have := ih (by omega); omega
  exact hs n hn

end Go.Proofs.Ytcfpiblgddihmaa

/- Distances of orders by flips: the search over all orders, in plain lists. -/
import Derived.Test.YtpicnechmdbkfaaFlipL
import Derived.Test.YtpicnechmdbkfaaGreedyL
namespace Go.Proofs.Ytpicnechmdbkfaa
open Go.RowKit
set_option linter.unusedVariables false

/-- The numbers from 0 up to n. -/
def idn (n : Nat) : List Int := (List.range n).map fun i : Nat => (i : Int)
theorem idn_len (n : Nat) : (idn n).length = n := by simp [idn]
theorem nth_idn {n j : Nat} (h : j < n) : nth (idn n) j = j := by
  rw [nth_eq (by rw [idn_len]; exact h)]; simp [idn]
theorem idn_order (n : Nat) : Order (idn n) n := ⟨idn_len n, fun j hj => by rw [nth_idn hj]; omega, fun i j hij hj => by rw [nth_idn (by omega), nth_idn hj]; omega⟩
theorem idn_snoc (n : Nat) : idn (n + 1) = idn n ++ [(n : Int)] := by simp [idn, List.range_succ]

/-- A list as one number to the base 8, behind s. -/
def keyF (s : Nat) (xs : List Int) : Nat := xs.foldl (fun a x => a * 8 + x.toNat) s
theorem keyF_snoc (s : Nat) (xs : List Int) (x : Int) : keyF s (xs ++ [x]) = keyF s xs * 8 + x.toNat := by simp [keyF]
def Dig (xs : List Int) : Prop := ∀ x ∈ xs, 0 ≤ x ∧ x < 8
theorem keyF_inj : ∀ (xs ys : List Int) (s t : Nat), xs.length = ys.length → Dig xs → Dig ys → keyF s xs = keyF t ys → s = t ∧ xs = ys
  | [], [], _, _, _, _, _, h => ⟨h, rfl⟩
  | [], _ :: _, _, _, hl, _, _, _ => by simp at hl
  | _ :: _, [], _, _, hl, _, _, _ => by simp at hl
  | x :: xs, y :: ys, s, t, hl, hx, hy, h => by
    have hr := keyF_inj xs ys (s * 8 + x.toNat) (t * 8 + y.toNat) (by simpa using hl) (fun z hz => hx z (by simp [hz])) (fun z hz => hy z (by simp [hz])) h
    have h1 := hx x (by simp)
    have h2 := hy y (by simp)
    have h3 := hr.1
    have e : x = y := by omega
    exact ⟨by omega, by rw [e, hr.2]⟩
theorem keyF_bd : ∀ (xs : List Int) (s : Nat), Dig xs → keyF s xs < (s + 1) * 8 ^ xs.length
  | [], s, _ => by simp [keyF]
  | x :: xs, s, h => by
    have h1 := keyF_bd xs (s * 8 + x.toNat) (fun z hz => h z (by simp [hz]))
    have h2 := h x (by simp)
    have h3 : (s * 8 + x.toNat + 1) * 8 ^ xs.length ≤ ((s + 1) * 8) * 8 ^ xs.length := Nat.mul_le_mul_right _ (by omega)
    have e : (s + 1) * 8 ^ (x :: xs).length = ((s + 1) * 8) * 8 ^ xs.length := by rw [List.length_cons, Nat.pow_succ, Nat.mul_comm (8 ^ xs.length) 8, Nat.mul_assoc]
    rw [e]
    exact Nat.lt_of_lt_of_le h1 h3
theorem Order.dig {xs : List Int} {n : Nat} (h : Order xs n) (hn : n ≤ 8) : Dig xs := fun x hx => by
  obtain ⟨j, hj, rfl⟩ := List.mem_iff_getElem.1 hx
  have := h.2.1 j (by rw [← h.1]; exact hj)
  rw [nth_eq hj] at this
  omega
theorem Order.eq_idn {xs : List Int} {n : Nat} (h : Order xs n) (h2 : ∀ j, j < n → nth xs j = j) : xs = idn n :=
  ext_nth' (by rw [h.1, idn_len]) (fun j hj => by rw [h.1] at hj; rw [h2 j hj, nth_idn hj])
theorem flipL_twice {xs : List Int} {k : Nat} (hk : k ≤ xs.length) : flipL (flipL xs k) k = xs := by
  have hl : (xs.take k).reverse.length = k := by simp; omega
  unfold flipL
  rw [List.take_left' hl, List.drop_left' hl, List.reverse_reverse, List.take_append_drop]
theorem flipL_one (xs : List Int) : flipL xs 1 = xs := by
  cases xs <;> simp [flipL]
theorem flipL_zero (xs : List Int) : flipL xs 0 = xs := by simp [flipL]

abbrev Ent := List Int × Nat
def en (es : List Ent) (i : Nat) : Ent := es.getD i ([], 0)
theorem en_eq {es : List Ent} {i : Nat} (h : i < es.length) : en es i = es[i] := by simp [en, List.getD, h]
theorem en_some {es : List Ent} {i : Nat} (h : i < es.length) : es[i]? = some (en es i) := by rw [en_eq h, List.getElem?_eq_getElem h]
theorem en_app {es : List Ent} {e : Ent} {i : Nat} (h : i < es.length) : en (es ++ [e]) i = en es i := by simp [en, List.getD, List.getElem?_append_left h]
theorem en_new (es : List Ent) (e : Ent) : en (es ++ [e]) es.length = e := by simp [en, List.getD]
/-- Is the order there? -/
def hasE (es : List Ent) (x : List Int) : Bool := es.any fun e => decide (e.1 = x)
theorem hasE_iff {es : List Ent} {x : List Int} : hasE es x = true ↔ ∃ i, i < es.length ∧ (en es i).1 = x := by
  unfold hasE
  rw [List.any_eq_true]
  constructor
  · rintro ⟨e, he, h⟩
    obtain ⟨i, hi, rfl⟩ := List.mem_iff_getElem.1 he
    exact ⟨i, hi, by rw [en_eq hi]; simpa using h⟩
  · rintro ⟨i, hi, h⟩
    exact ⟨es[i], List.getElem_mem hi, by rw [en_eq hi] at h; simpa using h⟩

/-- One flip tried, of the order at place a. -/
def stp (a k : Nat) (es : List Ent) : List Ent := if hasE es (flipL (en es a).1 k) then es else es ++ [(flipL (en es a).1 k, (en es a).2 + 1)]
def inn (a : Nat) : Nat → List Ent → List Ent
  | 0, es => es
  | j + 1, es => stp a (j + 2) (inn a j es)
def srch (n : Nat) : Nat → List Ent
  | 0 => [(idn n, 0)]
  | a + 1 => if a < (srch n a).length then inn a (n - 1) (srch n a) else srch n a

/-- What holds while the order at place a is tried, j flips of it behind. -/
structure Bf (n : Nat) (es : List Ent) (a j : Nat) : Prop where
  ord : ∀ i, i < es.length → Order (en es i).1 n
  nd : ∀ i i', i < i' → i' < es.length → (en es i).1 ≠ (en es i').1
  head : en es 0 = (idn n, 0)
  pos : 0 < es.length
  le : a ≤ es.length
  mono : ∀ i i', i ≤ i' → i' < es.length → (en es i).2 ≤ (en es i').2
  last : a < es.length → ∀ i, i < es.length → (en es i).2 ≤ (en es a).2 + 1
  done : ∀ i, i < a → ∀ k, 2 ≤ k → k ≤ n → ∃ i', i' < es.length ∧ (en es i').1 = flipL (en es i).1 k ∧ (en es i').2 ≤ (en es i).2 + 1
  now : ∀ k, 2 ≤ k → k < j + 2 → ∃ i', i' < es.length ∧ (en es i').1 = flipL (en es a).1 k ∧ (en es i').2 ≤ (en es a).2 + 1
  par : ∀ i, 0 < i → i < es.length → ∃ p k, p < i ∧ 2 ≤ k ∧ k ≤ n ∧ (en es p).1 = flipL (en es i).1 k ∧ (en es i).2 = (en es p).2 + 1

theorem Bf.start (n : Nat) : Bf n [(idn n, 0)] 0 0 := by
  have e0 : en [(idn n, 0)] 0 = (idn n, 0) := rfl
  refine ⟨fun i hi => ?_, fun i i' h1 h2 => by simp at h2; omega, rfl, by simp, by simp, fun i i' h1 h2 => ?_, fun _ i hi => ?_, fun i hi => by omega, fun k h1 h2 => by omega, fun i h1 h2 => by simp at h2; omega⟩
  · obtain rfl : i = 0 := by simp at hi; omega
    rw [e0]; exact idn_order n
  · obtain rfl : i' = 0 := by simp at h2; omega
    obtain rfl : i = 0 := by omega
    exact Nat.le_refl _
  · obtain rfl : i = 0 := by simp at hi; omega
    exact Nat.le_succ _

theorem Bf.step {n : Nat} {es : List Ent} {a j : Nat} (h : Bf n es a j) (ha : a < es.length) (hj : j + 2 ≤ n) : Bf n (stp a (j + 2) es) a (j + 1) := by
  have hoa := h.ord a ha
  unfold stp
  split
  · rename_i hh
    obtain ⟨i0, hi0, hx⟩ := hasE_iff.1 hh
    refine ⟨h.ord, h.nd, h.head, h.pos, h.le, h.mono, h.last, h.done, fun k h1 h2 => ?_, h.par⟩
    by_cases hk : k = j + 2
    · subst hk
      exact ⟨i0, hi0, hx, h.last ha i0 hi0⟩
    · exact h.now k h1 (by omega)
  · rename_i hh
    generalize hy : (flipL (en es a).1 (j + 2), (en es a).2 + 1) = e at *
    have hlen : (es ++ [e]).length = es.length + 1 := by simp
    have old : ∀ i, i < es.length → en (es ++ [e]) i = en es i := fun i hi => en_app hi
    have new : en (es ++ [e]) es.length = e := en_new es e
    have cs : ∀ i, i < (es ++ [e]).length → i < es.length ∨ i = es.length := fun i hi => by rw [hlen] at hi; omega
    have hy1 : e.1 = flipL (en es a).1 (j + 2) := by rw [← hy]
    have hy2 : e.2 = (en es a).2 + 1 := by rw [← hy]
    refine ⟨fun i hi => ?_, fun i i' h1 h2 => ?_, by rw [old 0 h.pos]; exact h.head, by omega, by have := h.le; omega, fun i i' h1 h2 => ?_, fun _ i hi => ?_, fun i hi k h1 h2 => ?_, fun k h1 h2 => ?_, fun i h1 h2 => ?_⟩
    · rcases cs i hi with h1 | h1
      · rw [old i h1]; exact h.ord i h1
      · subst h1; rw [new, hy1]; exact hoa.flip _ hj
    · rcases cs i' h2 with h3 | h3
      · rw [old i (by omega), old i' h3]; exact h.nd i i' h1 h3
      · subst h3; rw [new, old i h1, hy1]
        exact fun e2 => hh (hasE_iff.2 ⟨i, h1, e2⟩)
    · rcases cs i' h2 with h3 | h3
      · rw [old i (by omega), old i' h3]; exact h.mono i i' h1 h3
      · subst h3
        rcases cs i (by omega) with h4 | h4
        · rw [new, old i h4, hy2]; exact h.last ha i h4
        · subst h4; exact Nat.le_refl _
    · rw [old a ha]
      rcases cs i hi with h1 | h1
      · rw [old i h1]; exact h.last ha i h1
      · subst h1; rw [new, hy2]; exact Nat.le_refl _
    · obtain ⟨i', h3, h4, h5⟩ := h.done i hi k h1 h2
      exact ⟨i', by omega, by rw [old i' h3, old i (by have := h.le; omega)]; exact h4, by rw [old i' h3, old i (by have := h.le; omega)]; exact h5⟩
    · rw [old a ha]
      by_cases hk : k = j + 2
      · subst hk
        exact ⟨es.length, by omega, by rw [new, hy1], by rw [new, hy2]; exact Nat.le_refl _⟩
      · obtain ⟨i', h3, h4, h5⟩ := h.now k h1 (by omega)
        exact ⟨i', by omega, by rw [old i' h3]; exact h4, by rw [old i' h3]; exact h5⟩
    · rcases cs i h2 with h3 | h3
      · obtain ⟨p, k, h4, h5, h6, h7, h8⟩ := h.par i h1 h3
        exact ⟨p, k, h4, h5, h6, by rw [old p (by omega), old i h3]; exact h7, by rw [old p (by omega), old i h3]; exact h8⟩
      · subst h3
        exact ⟨a, j + 2, ha, by omega, hj, by rw [new, old a ha, hy1, flipL_twice (by rw [hoa.1]; exact hj)], by rw [new, old a ha, hy2]⟩
theorem Bf.next {n : Nat} {es : List Ent} {a j : Nat} (h : Bf n es a j) (ha : a < es.length) (hj : n ≤ j + 1) : Bf n es (a + 1) 0 := by
  refine ⟨h.ord, h.nd, h.head, h.pos, by omega, h.mono, fun h1 i hi => ?_, fun i hi k h1 h2 => ?_, fun k h1 h2 => by omega, h.par⟩
  · have := h.last ha i hi
    have := h.mono a (a + 1) (by omega) h1
    omega
  · by_cases e : i = a
    · subst e; exact h.now k h1 (by omega)
    · exact h.done i (by omega) k h1 h2
theorem stp_len (a k : Nat) (es : List Ent) : es.length ≤ (stp a k es).length := by unfold stp; split <;> simp
theorem inn_len (a j : Nat) (es : List Ent) : es.length ≤ (inn a j es).length := by
  induction j with
  | zero => exact Nat.le_refl _
  | succ j ih => exact Nat.le_trans ih (stp_len _ _ _)
theorem Bf.inn {n : Nat} {es : List Ent} {a : Nat} (h : Bf n es a 0) (ha : a < es.length) (j : Nat) (hj : j = 0 ∨ j + 1 ≤ n) : Bf n (inn a j es) a j := by
  induction j with
  | zero => exact h
  | succ j ih => exact (ih (by omega)).step (Nat.lt_of_lt_of_le ha (inn_len a j es)) (by omega)
theorem Bf.round {n : Nat} {a : Nat} (h : Bf n (srch n a) a 0) (ha : a < (srch n a).length) : Bf n (srch n (a + 1)) (a + 1) 0 := by
  simp only [srch]
  rw [if_pos ha]
  exact (h.inn ha (n - 1) (by omega)).next (Nat.lt_of_lt_of_le ha (inn_len _ _ _)) (by omega)
theorem Bf.bound {n : Nat} {es : List Ent} {a j : Nat} (h : Bf n es a j) (hn : n ≤ 8) : es.length ≤ 8 ^ n := by
  have hnd : ((List.range es.length).map fun i => keyF 0 (en es i).1).Nodup := by
    rw [List.nodup_iff_pairwise_ne, List.pairwise_map]
    refine List.pairwise_lt_range.imp_of_mem (fun {x y} hx hy hxy e => ?_)
    have hx' := List.mem_range.1 hx
    have hy' := List.mem_range.1 hy
    exact h.nd x y hxy hy' (keyF_inj _ _ 0 0 (by rw [(h.ord x hx').1, (h.ord y hy').1]) ((h.ord x hx').dig hn) ((h.ord y hy').dig hn) e).2
  have hsub : ((List.range es.length).map fun i => keyF 0 (en es i).1) ⊆ List.range (8 ^ n) := fun y hy => by
    obtain ⟨i, hi, rfl⟩ := List.mem_map.1 hy
    have ho := h.ord i (List.mem_range.1 hi)
    have := keyF_bd (en es i).1 0 (ho.dig hn)
    rw [ho.1] at this
    exact List.mem_range.2 (by omega)
  have := List.Nodup.length_le_of_subset hnd hsub
  simpa using this
theorem srch_stop {n a : Nat} (h : a = (srch n a).length) (m : Nat) (hm : a ≤ m) : srch n m = srch n a := by
  induction m with
  | zero => obtain rfl : a = 0 := by omega
            rfl
  | succ m ih =>
    by_cases e : a = m + 1
    · rw [e]
    · have := ih (by omega)
      simp only [srch]
      rw [this, if_neg (by omega)]
/-- All orders, with their distances. -/
def dst (n : Nat) : List Ent := srch n (8 ^ n)
theorem dst_of {n a : Nat} (hn : n ≤ 8) (h : Bf n (srch n a) a 0) (ha : a = (srch n a).length) : srch n a = dst n := (srch_stop ha _ (by have := h.bound hn; omega)).symm
theorem srch_bf (n : Nat) (a : Nat) : ∃ b, b ≤ a ∧ srch n a = srch n b ∧ Bf n (srch n b) b 0 ∧ (b < a → b = (srch n b).length) := by
  induction a with
  | zero => exact ⟨0, Nat.le_refl _, rfl, Bf.start n, fun h => by omega⟩
  | succ a ih =>
    obtain ⟨b, h1, h2, h3, h4⟩ := ih
    by_cases hb : b < a
    · have e := h4 hb
      exact ⟨b, by omega, by rw [srch_stop e (a + 1) (by omega)], h3, fun _ => e⟩
    · obtain rfl : b = a := by omega
      by_cases hl : b < (srch n b).length
      · exact ⟨b + 1, Nat.le_refl _, rfl, h3.round hl, fun h => by omega⟩
      · have e : b = (srch n b).length := by have := h3.le; omega
        exact ⟨b, by omega, by rw [srch_stop e (b + 1) (by omega)], h3, fun _ => e⟩
theorem dst_ok (n : Nat) (hn : n ≤ 8) : Bf n (dst n) (dst n).length 0 := by
  obtain ⟨b, h1, h2, h3, h4⟩ := srch_bf n (8 ^ n)
  have h5 := h3.bound hn
  have h6 := h3.le
  have e : b = (srch n b).length := by
    by_cases h : b < 8 ^ n
    · exact h4 h
    · omega
  unfold dst
  rw [h2, ← e]
  exact h3

/-- Whatever is closed under flips holds all orders. -/
theorem all_orders {n : Nat} {C : List Int → Prop} (h0 : C (idn n)) (hc : ∀ x k, Order x n → C x → 2 ≤ k → k ≤ n → C (flipL x k)) : ∀ x, Order x n → C x := by
  have cl : ∀ x k, Order x n → C x → 1 ≤ k → k ≤ n → C (flipL x k) := fun x k ho hx h1 h2 => by
    by_cases e : k = 1
    · subst e; rw [flipL_one]; exact hx
    · exact hc x k ho hx (by omega) h2
  have main : ∀ m, m ≤ n → ∀ x, Order x n → (∀ j, m ≤ j → j < n → nth x j = j) → C x := by
    intro m
    induction m with
    | zero => intro _ x ho hx; rw [ho.eq_idn (fun j hj => hx j (by omega) hj)]; exact h0
    | succ m ih =>
      intro hm x ho hx
      obtain ⟨p, hp, hpm⟩ := take_sub ho m (by omega)
      have hpm' : p ≤ m := by
        rcases Nat.lt_or_ge m p with h | h
        · have := hx p (by omega) hp; omega
        · exact h
      have hl := ho.1
      have o1 := ho.flip (p + 1) (by omega)
      have o2 := o1.flip (m + 1) (by omega)
      have hl1 := o1.1
      have c2 : C (flipL (flipL x (p + 1)) (m + 1)) := ih (by omega) _ o2 (fun j h1 h2 => by
        rw [nth_flipL (by omega) (by omega)]
        split
        · obtain rfl : j = m := by omega
          rw [nth_flipL (by omega) (by omega), if_pos (by omega), show p + 1 - 1 - (j + 1 - 1 - j) = p by omega]
          exact hpm
        · rw [nth_flipL (by omega) (by omega), if_neg (by omega)]
          exact hx j (by omega) h2)
      have c1 := cl _ (m + 1) o2 c2 (by omega) (by omega)
      rw [flipL_twice (by omega)] at c1
      have c0 := cl _ (p + 1) o1 c1 (by omega) (by omega)
      rwa [flipL_twice (by omega)] at c0
  exact fun x ho => main n (Nat.le_refl _) x ho (fun j h1 h2 => by omega)
theorem dst_all {n : Nat} (hn : n ≤ 8) (x : List Int) (ho : Order x n) : ∃ i, i < (dst n).length ∧ (en (dst n) i).1 = x := by
  have h := dst_ok n hn
  refine all_orders (C := fun x => ∃ i, i < (dst n).length ∧ (en (dst n) i).1 = x) ⟨0, h.pos, by rw [h.head]⟩ (fun y k ho ⟨i, hi, he⟩ h1 h2 => ?_) x ho
  obtain ⟨i', h3, h4, _⟩ := h.done i hi k h1 h2
  exact ⟨i', h3, by rw [h4, he]⟩

/-- The distance of an order. -/
noncomputable def dv (n : Nat) (x : List Int) : Nat := (en (dst n) (Classical.epsilon fun i => i < (dst n).length ∧ (en (dst n) i).1 = x)).2
theorem dv_at {n : Nat} (hn : n ≤ 8) {i : Nat} (hi : i < (dst n).length) : dv n (en (dst n) i).1 = (en (dst n) i).2 := by
  have h := dst_ok n hn
  have hs := Classical.epsilon_spec (p := fun i' => i' < (dst n).length ∧ (en (dst n) i').1 = (en (dst n) i).1) ⟨i, hi, rfl⟩
  unfold dv
  generalize (Classical.epsilon fun i' => i' < (dst n).length ∧ (en (dst n) i').1 = (en (dst n) i).1) = i' at *
  rcases Nat.lt_trichotomy i' i with h1 | h1 | h1
  · exact absurd hs.2 (h.nd i' i h1 hi)
  · rw [h1]
  · exact absurd hs.2.symm (h.nd i i' h1 hs.1)
theorem dv_zero {n : Nat} (hn : n ≤ 8) {x : List Int} (ho : Order x n) : dv n x = 0 ↔ x = idn n := by
  have h := dst_ok n hn
  constructor
  · intro e
    obtain ⟨i, hi, rfl⟩ := dst_all hn x ho
    rw [dv_at hn hi] at e
    by_cases h0 : i = 0
    · subst h0; rw [h.head]
    · obtain ⟨p, k, _, _, _, _, h8⟩ := h.par i (by omega) hi
      omega
  · intro e
    subst e
    have h2 := dv_at hn h.pos
    rw [h.head] at h2
    exact h2
theorem dv_flip {n : Nat} (hn : n ≤ 8) {x : List Int} (ho : Order x n) (k : Nat) (hk : k ≤ n) : dv n (flipL x k) ≤ dv n x + 1 := by
  have h := dst_ok n hn
  by_cases h2 : 2 ≤ k
  · obtain ⟨i, hi, rfl⟩ := dst_all hn x ho
    obtain ⟨i', h3, h4, h5⟩ := h.done i hi k h2 hk
    rw [← h4, dv_at hn h3, dv_at hn hi]
    exact h5
  · rcases (show k = 0 ∨ k = 1 by omega) with rfl | rfl
    · rw [flipL_zero]; omega
    · rw [flipL_one]; omega
theorem dv_back {n : Nat} (hn : n ≤ 8) {x : List Int} (ho : Order x n) (k : Nat) (hk : k ≤ n) : dv n x ≤ dv n (flipL x k) + 1 := by
  have := dv_flip hn (ho.flip k hk) k hk
  rwa [flipL_twice (by rw [ho.1]; exact hk)] at this
theorem dv_down {n : Nat} (hn : n ≤ 8) {x : List Int} (ho : Order x n) (hp : 0 < dv n x) : ∃ k, 2 ≤ k ∧ k ≤ n ∧ dv n (flipL x k) + 1 = dv n x := by
  have h := dst_ok n hn
  obtain ⟨i, hi, rfl⟩ := dst_all hn x ho
  rw [dv_at hn hi] at hp ⊢
  by_cases h0 : i = 0
  · subst h0; rw [h.head] at hp; exact absurd hp (Nat.lt_irrefl _)
  · obtain ⟨p, k, h1, h2, h3, h4, h5⟩ := h.par i (by omega) hi
    exact ⟨k, h2, h3, by rw [← h4, dv_at hn (by omega)]; omega⟩
theorem en_le {n : Nat} {es : List Ent} {a j : Nat} (h : Bf n es a j) (i : Nat) (hi : i < es.length) : (en es i).2 ≤ i := by
  induction i using Nat.strongRecOn with
  | ind i ih =>
    by_cases h0 : i = 0
    · subst h0; rw [h.head]; exact Nat.le_refl _
    · obtain ⟨p, k, h1, _, _, _, h5⟩ := h.par i (by omega) hi
      have := ih p h1 (by omega)
      omega
theorem dv_le {n : Nat} (hn : n ≤ 8) {x : List Int} (ho : Order x n) : dv n x < 8 ^ n := by
  obtain ⟨i, hi, rfl⟩ := dst_all hn x ho
  have h := dst_ok n hn
  rw [dv_at hn hi]
  have h1 := en_le h i hi
  have h2 := h.bound hn
  omega

/-- The first of the shortest lists of flips that sort an order. -/
inductive Best (n : Nat) : List Int → List Int → Prop
  | nil : Best n (idn n) []
  | cons (x : List Int) (k : Nat) (l : List Int) (h1 : 2 ≤ k) (h2 : k ≤ n) (h3 : dv n (flipL x k) + 1 = dv n x) (h4 : ∀ k', 2 ≤ k' → k' < k → ¬ dv n (flipL x k') + 1 = dv n x) (h5 : Best n (flipL x k) l) : Best n x ((k : Int) :: l)
theorem Best.len {n : Nat} (hn : n ≤ 8) {x l : List Int} (h : Best n x l) : l.length = dv n x := by
  induction h with
  | nil => rw [(dv_zero hn (idn_order n)).2 rfl]; rfl
  | cons x k l _ _ h3 _ _ ih => rw [List.length_cons, ih, h3]
theorem Best.one {n : Nat} (hn : n ≤ 8) {x l m : List Int} (h : Best n x l) (h' : Best n x m) : l = m := by
  have z := (dv_zero hn (idn_order n)).2 rfl
  induction h generalizing m with
  | nil =>
    cases h' with
    | nil => rfl
    | cons _ k l' _ _ h3 _ _ => omega
  | cons x k l h1 h2 h3 h4 h5 ih =>
    cases h' with
    | nil => omega
    | cons _ k' l' g1 g2 g3 g4 g5 =>
      obtain rfl : k = k' := by
        rcases Nat.lt_trichotomy k k' with hh | hh | hh
        · exact absurd h3 (g4 k h1 hh)
        · exact hh
        · exact absurd g3 (h4 k' g1 hh)
      rw [ih g5]
theorem first_least (p : Nat → Prop) (m : Nat) (h : p m) : ∃ k, k ≤ m ∧ p k ∧ ∀ k', k' < k → ¬ p k' := by
  induction m using Nat.strongRecOn with
  | ind m ih =>
    by_cases e : ∃ k', k' < m ∧ p k'
    · obtain ⟨k', h1, h2⟩ := e
      obtain ⟨k, h3, h4, h5⟩ := ih k' h1 h2
      exact ⟨k, by omega, h4, h5⟩
    · exact ⟨m, Nat.le_refl _, h, fun k' h1 h2 => e ⟨k', h1, h2⟩⟩
theorem Best.ex {n : Nat} (hn : n ≤ 8) : ∀ (d : Nat) (x : List Int), Order x n → dv n x = d → ∃ l, Best n x l := by
  intro d
  induction d with
  | zero => intro x ho e; rw [(dv_zero hn ho).1 e]; exact ⟨_, .nil⟩
  | succ d ih =>
    intro x ho e
    obtain ⟨m, h1, h2, h3⟩ := dv_down hn ho (by omega)
    obtain ⟨k, g1, ⟨g2, g3⟩, g4⟩ := first_least (fun k => 2 ≤ k ∧ dv n (flipL x k) + 1 = dv n x) m ⟨h1, h3⟩
    obtain ⟨l, hl⟩ := ih (flipL x k) (ho.flip k (by omega)) (by omega)
    exact ⟨_, .cons x k l g2 (by omega) g3 (fun k' h5 h6 h7 => g4 k' h6 ⟨h5, h7⟩) hl⟩
noncomputable def bestL (n : Nat) (x : List Int) : List Int := Classical.epsilon (Best n x)
theorem bestL_spec {n : Nat} (hn : n ≤ 8) {x : List Int} (ho : Order x n) : Best n x (bestL n x) := Classical.epsilon_spec (Best.ex hn _ x ho rfl)
theorem bestL_eq {n : Nat} (hn : n ≤ 8) {x l : List Int} (ho : Order x n) (h : Best n x l) : l = bestL n x := h.one hn (bestL_spec hn ho)

end Go.Proofs.Ytpicnechmdbkfaa

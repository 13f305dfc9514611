/- A region that draws its order and holds calls that only make memory: one walk in the order of the text, in the class of all worlds that keep what was there. No condition. -/
import Derived.Test.YtaffokicnabkiaaMem
import Derived.Deep.Quiet
import Derived.BigQuiet
import Derived.Below
import Derived.WalkSmall
namespace Go.Proofs.Ytaffokicnabkiaa
open Go.RowKit

structure KeepW (w0 : World) where
  w : World
  below : Below w0.heap.size w0 w
instance keepNe (w0 : World) : Nonempty (KeepW w0) := ⟨⟨w0, Below.refl _ _⟩⟩
/-- A world that keeps all that w0 held. -/
def beW (w0 : World) (e : KeepW w0) : World := e.w
theorem beW_below (w0 : World) (e : KeepW w0) : Below w0.heap.size w0 (beW w0 e) := e.below
theorem beW_in {w0 w' : World} (h : Below w0.heap.size w0 w') : ∃ e, w' = beW w0 e := ⟨⟨w', h⟩, rfl⟩
theorem beW_cell {w0 : World} {b o : Nat} {v : Value} (h : w0.cell? ⟨b, o, none⟩ = some v) : ∀ e, (beW w0 e).cell? ⟨b, o, none⟩ = some v := fun e =>
  ((beW_below w0 e).cell (p := ⟨b, o, none⟩) (World.block_lt_of_cell? w0 _ h)).trans h
theorem inB_of {P : Program} {f : FuncId} {args : Array Value} {w0 : World} {v : Value}
    (h : ∀ w1, Below w0.heap.size w0 w1 → Calls P f args w1 fun e w' => e = .returned v ∧ Below w1.heap.size w1 w') : ∀ e, Calls P f args (beW w0 e) fun r w'' => r = .returned v ∧ ∃ e', w'' = beW w0 e' := fun e =>
  (h _ (beW_below w0 e)).mono fun _ _ ⟨h1, h2⟩ => ⟨h1, beW_in ((beW_below w0 e).trans (h2.mono (beW_below w0 e).size))⟩
/-- Two operations of the text, one ahead of the other: the later waits for the earlier, or neither touches the other's. -/
def pairOk (ops : Array Oper) (i : Nat) (x y : Oper) : Bool := x.apart ops y || y.after.any (fun e => Region.binds .any e && e.on == i)
/-- The order of the text may be taken for every order: a cheap test. -/
def lexCrit (ops : Array Oper) : Nat → List Oper → Bool
  | _, [] => true
  | k, o :: rest => (o.after.all fun e => !Region.binds .any e || Nat.blt e.on k) && (rest.all (pairOk ops k o) && lexCrit ops (k + 1) rest)
theorem getD_two {l : Array Bool} {j : Nat} (h1 : l.getD j true = false) (h2 : l.getD j false = true) : False := by
  rcases Nat.lt_or_ge j l.size with h | h
  · simp [h] at h1 h2; rw [h1] at h2; cases h2
  · simp [Array.getElem?_eq_none h] at h2
theorem lexFrom_crit {L : List Oper} : ∀ (l : List Oper) (k : Nat) (listed : Array Bool), L.drop k = l → listed.size = L.length → (∀ j, j < k → j < L.length → listed.getD j false = true) → (∀ j, k ≤ j → j < L.length → listed.getD j true = false) →
    lexCrit L.toArray k l = true → Region.lexFrom .any L.toArray l.length k listed = true
  | [], k, listed, hd, hsz, h1, h2, _ => by
    have hk : L.length ≤ k := List.drop_eq_nil_iff.1 hd
    simp only [List.length_nil, Region.lexFrom, List.isEmpty_iff]
    rw [List.eq_nil_iff_forall_not_mem]
    intro j hj
    obtain ⟨a, o, ho, _⟩ := mem_ready.1 hj
    have hjl : j < L.length := by
      rcases Nat.lt_or_ge j L.length with h | h
      · exact h
      · simp [List.getElem?_eq_none h] at ho
    exact getD_two a (h1 j (by omega) hjl)
  | o :: l, k, listed, hd, hsz, h1, h2, hc => by
    have hk : k < L.length := by
      rcases Nat.lt_or_ge k L.length with h | h
      · exact h
      · rw [List.drop_eq_nil_iff.2 h] at hd; cases hd
    have hdk := List.drop_eq_getElem_cons hk
    rw [hd] at hdk
    have ho : L[k] = o := (List.cons.inj hdk).1.symm
    have hl : L.drop (k + 1) = l := (List.cons.inj hdk).2.symm
    have hok : L.toArray[k]? = some o := by simp [hk, ho]
    simp only [lexCrit, Bool.and_eq_true] at hc
    obtain ⟨c1, c2, c3⟩ := hc
    simp only [List.length_cons, Region.lexFrom, Bool.and_eq_true]
    refine ⟨⟨?_, ?_⟩, ?_⟩
    · have hm : k ∈ Region.ready .any L.toArray listed := by
        refine mem_ready.2 ⟨h2 k (Nat.le_refl _) hk, o, hok, fun e he hb => ?_⟩
        have := Array.all_eq_true_iff_forall_mem.1 c1 e he
        rw [hb] at this
        simp [Nat.blt_eq] at this
        exact h1 _ this (by omega)
      simpa using hm
    · unfold Region.free
      rw [hok]
      simp only [List.all_eq_true, List.mem_range, List.size_toArray, Bool.or_eq_true]
      intro j hj
      rcases Nat.lt_trichotomy j k with h | h | h
      · refine Or.inl (Or.inr ?_)
        have := h1 j h hj
        rcases hb : listed.getD j true with _ | _
        · exact (getD_two hb this).elim
        · rfl
      · exact Or.inl (Or.inl (by simp [h]))
      · refine Or.inr ?_
        have hjo : L.toArray[j]? = some L[j] := by simp [hj]
        rw [hjo]
        have hmem : L[j] ∈ l := by
          rw [← hl]
          exact List.mem_drop_iff_getElem.2 ⟨j - (k + 1), by omega, by congr 1; omega⟩
        have := List.all_eq_true.1 c2 _ hmem
        simp only [pairOk, Bool.or_eq_true] at this
        simp only [Bool.or_eq_true]
        exact this.symm
    · refine lexFrom_crit l (k + 1) _ hl (by simpa using hsz) (fun j hj hjl => ?_) (fun j hj hjl => ?_) c3
      · by_cases e : j = k
        · subst e; simp [hsz, hk]
        · exact getD_set_true (h1 j (by omega) hjl)
      · rw [getD_set_ne true (by omega)]; exact h2 j (by omega) hjl
theorem lexB_crit {L : List Oper} (hs : Region.noSelect L.toArray = true) (hc : lexCrit L.toArray 0 L = true) : Region.lexB .any L.toArray = true := by
  simp only [Region.lexB, Bool.and_eq_true]
  refine ⟨hs, ?_⟩
  have := lexFrom_crit L 0 (Array.replicate L.length false) rfl (by simp) (fun j hj => by omega) (fun j _ hj => by simp [hj]) hc
  simpa using this
theorem wp_region_inB {P : Program} {id : Nat} {Q : Exit → Act → World → Prop} {a : Act} {w0 : World} {l : List Oper} (hm : P.follows .mixedOrders = true) (hs : Region.noSelect l.toArray = true) (hB : lexCrit l.toArray 0 l = true)
    (h : wpQuiet P l.toArray (fun w' => ∃ e, w' = beW w0 e) (fun a' => ∀ w', (∃ e, w' = beW w0 e) → Q .normal a' w') l a) : (Code.region id l.toArray true).wp P Q a w0 :=
  wp_region_quiet (C := fun w' => ∃ e, w' = beW w0 e) hm (lexB_crit hs hB) (beW_in (below_drewN (Below.refl _ _) 1)) (by simpa using h)

end Go.Proofs.Ytaffokicnabkiaa

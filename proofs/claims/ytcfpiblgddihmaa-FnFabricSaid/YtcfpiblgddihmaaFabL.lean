/- Settings by loops, plain lists: what the looping keeps. -/
import Derived.Test.YtcfpiblgddihmaaDisL
import Derived.Test.YtcfpiblgddihmaaBool
namespace Go.Proofs.Ytcfpiblgddihmaa
set_option linter.unusedVariables false

def pt (v : Nat) : Nat := if v % 2 = 0 then v + 1 else v - 1
theorem pt_pt (v : Nat) : pt (pt v) = v := by
  unfold pt
  by_cases h : v % 2 = 0
  · rw [if_pos h, if_neg (by omega)]; omega
  · rw [if_neg h, if_pos (by omega)]; omega
theorem pt_div (v : Nat) : pt v / 2 = v / 2 := by unfold pt; split <;> omega
theorem pt_mod (v : Nat) : pt v % 2 = 1 - v % 2 := by unfold pt; split <;> omega
theorem pt_ne (v : Nat) : pt v ≠ v := by unfold pt; split <;> omega
theorem pt_lt {v h : Nat} (hv : v < 2 * h) : pt v < 2 * h := by unfold pt; split <;> omega
theorem div_two {a b : Nat} (h : a / 2 = b / 2) : a = b ∨ a = pt b := by unfold pt; split <;> omega
def oN (o : List Int) (p : Nat) : Nat := (nth o p).toNat
def uP (last : List Int) (k : Nat) : Nat := 2 * k + (nth last k).toNat
def lP (last : List Int) (k : Nat) : Nat := 2 * k + 1 - (nth last k).toNat
theorem nth_setL (l : List Int) (i j : Nat) (x : Int) (hi : i < l.length) : nth (l.set i x) j = if i = j then x else nth l j := by
  unfold nth List.getD
  rw [List.getElem?_set]
  by_cases e : i = j
  · subst e; rw [if_pos rfl, if_pos rfl, if_pos hi]; rfl
  · rw [if_neg e, if_neg e]
theorem getB_setL (bs : List Bool) (c j : Nat) (h : c < bs.length) : getB (bs.set c true) j = true ↔ j = c ∨ getB bs j = true := by
  unfold getB List.getD
  rw [List.getElem?_set]
  by_cases e : c = j
  · subst e; simp [h]
  · rw [if_neg e]
    exact ⟨fun x => Or.inr x, fun x => x.resolve_left (fun y => e y.symm)⟩

/-- o is an order of 2 h numbers. -/
structure Ord2 (o : List Int) (h : Nat) : Prop where
  lt : ∀ p, p < 2 * h → oN o p < 2 * h
  inj : ∀ p q, p < 2 * h → q < 2 * h → oN o p = oN o q → p = q
structure Fm (o : List Int) (h j prev : Nat) (S : List Bool) (last : List Int) : Prop where
  bit : ∀ k, k < h → getB S k = true → nth last k = 0 ∨ nth last k = 1
  m1 : ∀ k, k < h → getB S k = true → k ≠ prev → ∃ k2, k2 < h ∧ getB S k2 = true ∧ pt (oN o (uP last k)) = oN o (lP last k2)
  m2 : ∀ k, k < h → getB S k = true → (k ≠ j ∨ h ≤ prev) → ∃ k1, k1 < h ∧ getB S k1 = true ∧ k1 ≠ prev ∧ pt (oN o (lP last k)) = oN o (uP last k1)
theorem uP_lt {last : List Int} {k h : Nat} (hk : k < h) (hb : nth last k = 0 ∨ nth last k = 1) : uP last k < 2 * h ∧ lP last k < 2 * h ∧ uP last k / 2 = k ∧ lP last k / 2 = k ∧ uP last k ≠ lP last k := by
  unfold uP lP; rcases hb with e | e <;> rw [e] <;> simp <;> omega
theorem Fm.loc {o : List Int} {h j prev : Nat} {S : List Bool} {last : List Int} (f : Fm o h j prev S last) (ho : Ord2 o h) (hp : prev < h) (hps : getB S prev = true) {k p : Nat} (hk : k < h) (hks : getB S k = true) (hpk : p / 2 = k)
    (he : oN o p = pt (oN o (uP last prev))) : k = j ∧ p = lP last j := by
  have bk := f.bit k hk hks
  have bp := f.bit prev hp hps
  have uk := uP_lt hk bk
  have up := uP_lt hp bp
  have hcase : p = uP last k ∨ p = lP last k := by
    unfold uP lP; rcases bk with e | e <;> rw [e] <;> simp <;> omega
  rcases hcase with e | e
  · exfalso
    rw [e] at he
    by_cases ek : k = prev
    · rw [ek] at he; exact pt_ne _ he.symm
    · obtain ⟨k2, h2, hs2, e2⟩ := f.m1 k hk hks ek
      rw [he, pt_pt] at e2
      have u2 := uP_lt h2 (f.bit k2 h2 hs2)
      have e3 := ho.inj _ _ up.1 u2.2.1 e2
      have e4 : prev = k2 := by rw [← up.2.2.1, ← u2.2.2.2.1, e3]
      rw [e4] at e3
      exact u2.2.2.2.2 e3
  · by_cases ej : k = j
    · exact ⟨ej, by rw [e, ej]⟩
    · exfalso
      obtain ⟨k1, h1, hs1, hne, e1⟩ := f.m2 k hk hks (Or.inl ej)
      rw [← e, he, pt_pt] at e1
      have u1 := uP_lt h1 (f.bit k1 h1 hs1)
      have e3 := ho.inj _ _ up.1 u1.1 e1
      exact hne (by rw [← up.2.2.1, ← u1.2.2.1, e3])
theorem Fm.step {o : List Int} {h j prev : Nat} {S : List Bool} {last : List Int} (f : Fm o h j prev S last) (hS : S.length = h) (hl : last.length = h) {k : Nat} {c : Int} (hk : k < h) (hks : ¬ getB S k = true) (hc : c = 0 ∨ c = 1)
    (hp : (prev = h ∧ k = j) ∨ (prev < h ∧ getB S prev = true ∧ pt (oN o (uP last prev)) = oN o (2 * k + 1 - c.toNat))) : Fm o h j k (S.set k true) (last.set k c) := by
  have gs := fun i => getB_setL S k i (by omega)
  have nl := fun i => nth_setL last k i c (by omega)
  have uo : ∀ i, i ≠ k → uP (last.set k c) i = uP last i := fun i hi => by unfold uP; rw [nl, if_neg (fun e => hi e.symm)]
  have lo : ∀ i, i ≠ k → lP (last.set k c) i = lP last i := fun i hi => by unfold lP; rw [nl, if_neg (fun e => hi e.symm)]
  have uk : uP (last.set k c) k = 2 * k + c.toNat := by unfold uP; rw [nl, if_pos rfl]
  have lk : lP (last.set k c) k = 2 * k + 1 - c.toNat := by unfold lP; rw [nl, if_pos rfl]
  have ne : ∀ i, getB S i = true → i ≠ k := fun i hi e => hks (by rw [← e]; exact hi)
  refine ⟨fun i hi hs => ?_, fun i hi hs hne => ?_, fun i hi hs hx => ?_⟩
  · rw [nl]
    by_cases e : k = i
    · rw [if_pos e]; exact hc
    · rw [if_neg e]
      exact f.bit i hi (((gs i).1 hs).resolve_left (fun x => e x.symm))
  · have hsi := ((gs i).1 hs).resolve_left hne
    rw [uo i hne]
    by_cases e : i = prev
    · rcases hp with ⟨h1, _⟩ | ⟨_, _, h3⟩
      · omega
      · exact ⟨k, hk, (gs k).2 (Or.inl rfl), by rw [e, h3, lk]⟩
    · obtain ⟨k2, h2, hs2, e2⟩ := f.m1 i hi hsi e
      exact ⟨k2, h2, (gs k2).2 (Or.inr hs2), by rw [lo k2 (ne k2 hs2)]; exact e2⟩
  · have hij : i ≠ j := hx.resolve_right (by omega)
    by_cases e : i = k
    · rcases hp with ⟨_, h2⟩ | ⟨h1, h2, h3⟩
      · omega
      · refine ⟨prev, h1, (gs prev).2 (Or.inr h2), ne prev h2, ?_⟩
        rw [e, lk, uo prev (ne prev h2), ← h3, pt_pt]
    · have hsi := ((gs i).1 hs).resolve_left e
      obtain ⟨k1, h1, hs1, _, e1⟩ := f.m2 i hi hsi (Or.inl hij)
      exact ⟨k1, h1, (gs k1).2 (Or.inr hs1), ne k1 hs1, by rw [lo i e, uo k1 (ne k1 hs1)]; exact e1⟩
theorem Fm.close {o : List Int} {h j prev : Nat} {S : List Bool} {last : List Int} (f : Fm o h j prev S last) (hp : prev < h) (hps : getB S prev = true) (hj : j < h) (hjs : getB S j = true) (he : oN o (lP last j) = pt (oN o (uP last prev))) (j' : Nat) :
    Fm o h j' h S last := by
  refine ⟨f.bit, fun i hi hs _ => ?_, fun i hi hs _ => ?_⟩
  · by_cases e : i = prev
    · exact ⟨j, hj, hjs, by rw [e, he]⟩
    · exact f.m1 i hi hs e
  · by_cases e : i = j
    · exact ⟨prev, hp, hps, by omega, by rw [e, he, pt_pt]⟩
    · obtain ⟨k1, h1, h2, _, h3⟩ := f.m2 i hi hs (Or.inl e)
      exact ⟨k1, h1, h2, by omega, h3⟩
theorem Fm.free {o : List Int} {h j : Nat} {S : List Bool} {last : List Int} (f : Fm o h j h S last) (j' : Nat) : Fm o h j' h S last :=
  ⟨f.bit, f.m1, fun i hi hs _ => f.m2 i hi hs (Or.inr (Nat.le_refl _))⟩

structure Fd (o : List Int) (h j prev : Nat) (S : List Bool) (last first upper lower : List Int) : Prop where
  d1 : ∀ k, k < h → getB S k = true → nth upper k = ((oN o (uP last k) / 2 : Nat) : Int) ∧ nth first (oN o (uP last k) / 2) = ((oN o (uP last k) % 2 : Nat) : Int)
  d2 : ∀ k, k < h → getB S k = true → (k ≠ j ∨ h ≤ prev) → nth lower k = ((oN o (lP last k) / 2 : Nat) : Int)
theorem Fd.step {o : List Int} {h j prev : Nat} {S : List Bool} {last first upper lower : List Int} (d : Fd o h j prev S last first upper lower) (f : Fm o h j prev S last) (ho : Ord2 o h)
    (hS : S.length = h) (hl : last.length = h) (hf : first.length = h) (hu : upper.length = h) (hw : lower.length = h) {k : Nat} {c : Int} (hk : k < h) (hks : ¬ getB S k = true) (hc : c = 0 ∨ c = 1)
    (hp : (prev = h ∧ k = j) ∨ (prev < h ∧ getB S prev = true ∧ pt (oN o (uP last prev)) = oN o (2 * k + 1 - c.toNat)))
    (hlow : prev < h → nth lower k = ((oN o (2 * k + 1 - c.toNat) / 2 : Nat) : Int)) {v p : Nat} (hv : oN o (2 * k + c.toNat) = v) (hpl : p < 2 * h) (hpv : oN o p = pt v) :
    Fd o h j k (S.set k true) (last.set k c) (first.set (v / 2) ((v % 2 : Nat) : Int)) (upper.set k ((v / 2 : Nat) : Int)) (lower.set (p / 2) ((v / 2 : Nat) : Int)) := by
  have f' := f.step hS hl hk hks hc hp
  have gs := fun i => getB_setL S k i (by omega)
  have nl := fun i => nth_setL last k i c (by omega)
  have uo : ∀ i, i ≠ k → uP (last.set k c) i = uP last i := fun i hi => by unfold uP; rw [nl, if_neg (fun e => hi e.symm)]
  have lo : ∀ i, i ≠ k → lP (last.set k c) i = lP last i := fun i hi => by unfold lP; rw [nl, if_neg (fun e => hi e.symm)]
  have uk : uP (last.set k c) k = 2 * k + c.toNat := by unfold uP; rw [nl, if_pos rfl]
  have lk : lP (last.set k c) k = 2 * k + 1 - c.toNat := by unfold lP; rw [nl, if_pos rfl]
  have ne : ∀ i, getB S i = true → i ≠ k := fun i hi e => hks (by rw [← e]; exact hi)
  have hkc : 2 * k + c.toNat < 2 * h ∧ 2 * k + 1 - c.toNat < 2 * h ∧ (2 * k + c.toNat) / 2 = k ∧ (2 * k + 1 - c.toNat) / 2 = k ∧ 2 * k + c.toNat ≠ 2 * k + 1 - c.toNat := by
    rcases hc with e | e <;> rw [e] <;> simp <;> omega
  have hvl : v < 2 * h := by rw [← hv]; exact ho.lt _ hkc.1
  refine ⟨fun i hi hs => ?_, fun i hi hs hx => ?_⟩
  · by_cases e : i = k
    · subst e
      rw [uk, hv, nth_setL _ _ _ _ (by omega), if_pos rfl, nth_setL _ _ _ _ (by omega), if_pos rfl]
      exact ⟨rfl, rfl⟩
    · have hsi := ((gs i).1 hs).resolve_left e
      obtain ⟨a, b⟩ := d.d1 i hi hsi
      have ui := uP_lt hi (f.bit i hi hsi)
      rw [uo i e, nth_setL _ _ _ _ (by omega), if_neg (fun x => e x.symm), nth_setL _ _ _ _ (by omega)]
      refine ⟨a, ?_⟩
      rw [if_neg]
      · exact b
      · intro e2
        rcases div_two e2.symm with e3 | e3
        · have := ho.inj _ _ ui.1 hkc.1 (by rw [e3, hv])
          exact e (by rw [← ui.2.2.1, this, hkc.2.2.1])
        · -- the partner of v stands at u i
          have e4 : v = pt (oN o (uP last i)) := by rw [e3, pt_pt]
          by_cases ep : i = prev
          · rcases hp with ⟨h1, _⟩ | ⟨h1, h2, h3⟩
            · omega
            · rw [ep, h3, ← hv] at e4
              exact hkc.2.2.2.2 (ho.inj _ _ hkc.1 hkc.2.1 e4)
          · obtain ⟨k2, h2, hs2, e5⟩ := f.m1 i hi hsi ep
            have u2 := uP_lt h2 (f.bit k2 h2 hs2)
            rw [← e4, ← hv] at e5
            have := ho.inj _ _ hkc.1 u2.2.1 e5
            exact ne k2 hs2 (by rw [← u2.2.2.2.1, ← this, hkc.2.2.1])
  · have hij : i ≠ j := hx.resolve_right (by omega)
    rw [nth_setL _ _ _ _ (by omega)]
    by_cases e : p / 2 = i
    · exfalso
      have := (f'.loc ho hk ((gs k).2 (Or.inl rfl)) hi hs e (by rw [hpv, uk, hv])).1
      exact hij this
    · rw [if_neg e]
      by_cases e2 : i = k
      · subst e2
        rw [lk]
        rcases hp with ⟨_, h2⟩ | ⟨h1, _, _⟩
        · exact absurd h2 hij
        · exact hlow h1
      · rw [lo i e2]
        exact d.d2 i hi (((gs i).1 hs).resolve_left e2) (Or.inl hij)

/-- Between two loops. -/
structure Cls (o : List Int) (h j : Nat) (S : List Bool) (last first upper lower : List Int) : Prop where
  hS : S.length = h
  hl : last.length = h
  hf : first.length = h
  hu : upper.length = h
  hw : lower.length = h
  fm : Fm o h j h S last
  fd : Fd o h j h S last first upper lower
  low : ∀ i, i < j → getB S i = true
  z : getB S 0 = true → nth last 0 = 0
/-- At the head of the inner loop. -/
structure Pth (o : List Int) (h j : Nat) (S : List Bool) (last first upper lower : List Int) (k : Nat) (c : Int) (prev : Nat) : Prop where
  hS : S.length = h
  hl : last.length = h
  hf : first.length = h
  hu : upper.length = h
  hw : lower.length = h
  hj : j < h
  hk : k < h
  hc : c = 0 ∨ c = 1
  fm : Fm o h j prev S last
  fd : Fd o h j prev S last first upper lower
  low : ∀ i, i < j → getB S i = true
  z : getB S 0 = true → nth last 0 = 0
  pf : (prev = h ∧ k = j ∧ c = 0) ∨ (prev < h ∧ getB S prev = true ∧ getB S j = true ∧ pt (oN o (uP last prev)) = oN o (2 * k + 1 - c.toNat) ∧ nth lower k = ((oN o (2 * k + 1 - c.toNat) / 2 : Nat) : Int))
theorem Cls.start {o : List Int} {h j : Nat} {S : List Bool} {last first upper lower : List Int} (C : Cls o h j S last first upper lower) (hj : j < h) : Pth o h j S last first upper lower j 0 h :=
  ⟨C.hS, C.hl, C.hf, C.hu, C.hw, hj, hj, Or.inl rfl, C.fm, C.fd, C.low, C.z, Or.inl ⟨rfl, rfl, rfl⟩⟩
theorem Pth.done {o : List Int} {h j : Nat} {S : List Bool} {last first upper lower : List Int} {k : Nat} {c : Int} {prev : Nat} (P : Pth o h j S last first upper lower k c prev) (ho : Ord2 o h) (hks : getB S k = true) :
    Cls o h (j + 1) S last first upper lower := by
  have hjs : getB S j = true := by
    rcases P.pf with ⟨_, e, _⟩ | ⟨_, _, e, _⟩
    · rw [← e]; exact hks
    · exact e
  have low : ∀ i, i < j + 1 → getB S i = true := fun i hi => by
    by_cases e : i = j
    · rw [e]; exact hjs
    · exact P.low i (by omega)
  rcases P.pf with ⟨e1, e2, e3⟩ | ⟨h1, h2, h3, h4, h5⟩
  · have fm := P.fm
    have fd := P.fd
    rw [e1] at fm fd
    exact ⟨P.hS, P.hl, P.hf, P.hu, P.hw, fm.free _, ⟨fd.d1, fun i hi hs _ => fd.d2 i hi hs (Or.inr (Nat.le_refl _))⟩, low, P.z⟩
  · have hc2 : (2 * k + 1 - c.toNat) / 2 = k := by rcases P.hc with e | e <;> rw [e] <;> simp <;> omega
    obtain ⟨e1, e2⟩ := P.fm.loc ho h1 h2 P.hk hks hc2 h4.symm
    have fm := P.fm.close h1 h2 P.hj h3 (by rw [← e2]; exact h4.symm) (j + 1)
    refine ⟨P.hS, P.hl, P.hf, P.hu, P.hw, fm, ⟨P.fd.d1, fun i hi hs _ => ?_⟩, low, P.z⟩
    by_cases e : i = j
    · rw [e, ← e1, h5, e2, e1]
    · exact P.fd.d2 i hi hs (Or.inl e)
theorem Pth.step {o : List Int} {h j : Nat} {S : List Bool} {last first upper lower : List Int} {k : Nat} {c : Int} {prev : Nat} (P : Pth o h j S last first upper lower k c prev) (ho : Ord2 o h) (hks : ¬ getB S k = true)
    {v p : Nat} (hv : oN o (2 * k + c.toNat) = v) (hpl : p < 2 * h) (hpv : oN o p = pt v) :
    Pth o h j (S.set k true) (last.set k c) (first.set (v / 2) ((v % 2 : Nat) : Int)) (upper.set k ((v / 2 : Nat) : Int)) (lower.set (p / 2) ((v / 2 : Nat) : Int)) (p / 2) (1 - ((p % 2 : Nat) : Int)) k := by
  have hk := P.hk
  have hp : (prev = h ∧ k = j) ∨ (prev < h ∧ getB S prev = true ∧ pt (oN o (uP last prev)) = oN o (2 * k + 1 - c.toNat)) := by
    rcases P.pf with ⟨a, b, _⟩ | ⟨a, b, _, d, _⟩
    · exact Or.inl ⟨a, b⟩
    · exact Or.inr ⟨a, b, d⟩
  have gs := fun i => getB_setL S k i (by rw [P.hS]; exact hk)
  have nl := fun i => nth_setL last k i c (by rw [P.hl]; exact hk)
  have hp2 : 2 * (p / 2) + 1 - (1 - ((p % 2 : Nat) : Int)).toNat = p := by omega
  refine ⟨by simpa using P.hS, by simpa using P.hl, by simpa using P.hf, by simpa using P.hu, by simpa using P.hw, P.hj, by omega, by omega, P.fm.step P.hS P.hl hk hks P.hc hp, ?_, ?_, ?_, Or.inr ⟨hk, (gs k).2 (Or.inl rfl), ?_, ?_, ?_⟩⟩
  · refine P.fd.step P.fm ho P.hS P.hl P.hf P.hu P.hw hk hks P.hc hp (fun hp1 => ?_) hv hpl hpv
    rcases P.pf with ⟨a, _⟩ | ⟨_, _, _, _, e⟩
    · omega
    · exact e
  · exact fun i hi => (gs i).2 (Or.inr (P.low i hi))
  · intro h0
    rw [nl]
    by_cases e : k = 0
    · rw [if_pos e]
      rcases P.pf with ⟨_, _, h3⟩ | ⟨_, _, h3, _⟩
      · exact h3
      · exfalso
        rcases Nat.eq_zero_or_pos j with hj | hj
        · rw [hj, ← e] at h3; exact hks h3
        · exact hks (by rw [e]; exact P.low 0 hj)
    · rw [if_neg e]
      exact P.z (((gs 0).1 h0).resolve_left (fun x => e x.symm))
  · rcases P.pf with ⟨_, e, _⟩ | ⟨_, _, e, _⟩
    · exact (gs j).2 (Or.inl e.symm)
    · exact (gs j).2 (Or.inr e)
  · have : uP (last.set k c) k = 2 * k + c.toNat := by unfold uP; rw [nl, if_pos rfl]
    rw [this, hv, hp2, hpv]
  · rw [hp2, hpv, pt_div, nth_setL _ _ _ _ (by rw [P.hw]; omega), if_pos rfl]
theorem Pth.fuel {o : List Int} {h j : Nat} {S : List Bool} {last first upper lower : List Int} {k : Nat} {c : Int} {prev : Nat} (P : Pth o h j S last first upper lower k c prev) (hks : ¬ getB S k = true) : cntF (S.set k true) + 1 = cntF S :=
  cntF_set S k (by rw [P.hS]; exact P.hk) (by simpa using hks)
theorem getB_rep (n k : Nat) : ¬ getB (List.replicate n false) k = true := by
  simp [getB, List.getD, List.getElem?_replicate]; split <;> simp
theorem Cls.init (o : List Int) (h : Nat) : Cls o h 0 (List.replicate h false) (List.replicate h 0) (List.replicate h 0) (List.replicate h 0) (List.replicate h 0) := by
  refine ⟨by simp, by simp, by simp, by simp, by simp, ⟨fun k _ hs => absurd hs (getB_rep _ _), fun k _ hs => absurd hs (getB_rep _ _), fun k _ hs => absurd hs (getB_rep _ _)⟩, ⟨fun k _ hs => absurd hs (getB_rep _ _), fun k _ hs => absurd hs (getB_rep _ _)⟩, fun i hi => by omega, fun hs => absurd hs (getB_rep _ _)⟩

/-- What stands at the end: for each switch of the last level where its two numbers come from. -/
structure Split (o : List Int) (h : Nat) (first last upper lower : List Int) : Prop where
  hf : first.length = h
  hl : last.length = h
  hu : upper.length = h
  hw : lower.length = h
  fb : ∀ i, i < h → nth first i = 0 ∨ nth first i = 1
  lb : ∀ i, i < h → nth last i = 0 ∨ nth last i = 1
  z : 0 < h → nth last 0 = 0
  uo : ∀ k, k < h → ∃ x : Nat, x < h ∧ nth upper k = (x : Int) ∧ nth first x = ((oN o (uP last k) % 2 : Nat) : Int) ∧ x = oN o (uP last k) / 2
  lo : ∀ k, k < h → ∃ x : Nat, x < h ∧ nth lower k = (x : Int) ∧ nth first x = 1 - ((oN o (lP last k) % 2 : Nat) : Int) ∧ x = oN o (lP last k) / 2
  ui : ∀ i k, i < k → k < h → nth upper i ≠ nth upper k
  li : ∀ i k, i < k → k < h → nth lower i ≠ nth lower k
theorem Cls.split {o : List Int} {h : Nat} {S : List Bool} {last first upper lower : List Int} (C : Cls o h h S last first upper lower) (ho : Ord2 o h) (hat : ∀ v, v < 2 * h → ∃ p, p < 2 * h ∧ oN o p = v) : Split o h first last upper lower := by
  have bit := fun k hk => C.fm.bit k hk (C.low k hk)
  have up := fun k (hk : k < h) => uP_lt hk (bit k hk)
  have d1 := fun k hk => C.fd.d1 k hk (C.low k hk)
  have d2 := fun k hk => C.fd.d2 k hk (C.low k hk) (Or.inr (Nat.le_refl _))
  have m1 := fun k (hk : k < h) => C.fm.m1 k hk (C.low k hk) (by omega)
  have m2 := fun k hk => C.fm.m2 k hk (C.low k hk) (Or.inr (Nat.le_refl _))
  have lo : ∀ k, k < h → ∃ x : Nat, x < h ∧ nth lower k = (x : Int) ∧ nth first x = 1 - ((oN o (lP last k) % 2 : Nat) : Int) ∧ x = oN o (lP last k) / 2 := by
    intro k hk
    obtain ⟨k1, h1, _, _, e1⟩ := m2 k hk
    have := ho.lt _ (up k hk).2.1
    refine ⟨_, by omega, d2 k hk, ?_, rfl⟩
    have e2 := (d1 k1 h1).2
    rw [← e1, pt_div, pt_mod] at e2
    rw [e2]; omega
  refine ⟨C.hf, C.hl, C.hu, C.hw, fun i hi => ?_, bit, fun hh => C.z (C.low 0 hh), fun k hk => ⟨_, by have := ho.lt _ (up k hk).1; omega, (d1 k hk).1, (d1 k hk).2, rfl⟩, lo, fun i k hik hk e => ?_, fun i k hik hk e => ?_⟩
  · obtain ⟨p, hp, hpv⟩ := hat (2 * i) (by omega)
    have hk : p / 2 < h := by omega
    have hcase : p = uP last (p / 2) ∨ p = lP last (p / 2) := by
      unfold uP lP; rcases bit (p / 2) hk with e | e <;> rw [e] <;> simp <;> omega
    rcases hcase with e | e
    · have := (d1 (p / 2) hk).2
      rw [← e, hpv] at this
      rw [show 2 * i / 2 = i by omega] at this
      rw [this]; omega
    · obtain ⟨x, _, _, h3, h4⟩ := lo (p / 2) hk
      rw [← e, hpv] at h3 h4
      rw [show x = i by omega] at h3
      rw [h3]; omega
  · rw [(d1 i (by omega)).1, (d1 k hk).1] at e
    have ui := up i (by omega)
    have uk := up k hk
    rcases div_two (show oN o (uP last i) / 2 = oN o (uP last k) / 2 by omega) with e2 | e2
    · have := ho.inj _ _ ui.1 uk.1 e2
      have : i = k := by rw [← ui.2.2.1, ← uk.2.2.1, this]
      omega
    · obtain ⟨k2, h2, _, e3⟩ := m1 k hk
      rw [← e2] at e3
      have u2 := up k2 h2
      have e4 := ho.inj _ _ ui.1 u2.2.1 e3
      have e5 : i = k2 := by rw [← ui.2.2.1, ← u2.2.2.2.1, e4]
      rw [← e5] at e4
      exact ui.2.2.2.2 e4
  · rw [d2 i (by omega), d2 k hk] at e
    have ui := up i (by omega)
    have uk := up k hk
    rcases div_two (show oN o (lP last i) / 2 = oN o (lP last k) / 2 by omega) with e2 | e2
    · have := ho.inj _ _ ui.2.1 uk.2.1 e2
      have : i = k := by rw [← ui.2.2.2.1, ← uk.2.2.2.1, this]
      omega
    · obtain ⟨k2, h2, _, _, e3⟩ := m2 k hk
      rw [← e2] at e3
      have u2 := up k2 h2
      have e4 := ho.inj _ _ ui.2.1 u2.1 e3
      have e5 : i = k2 := by rw [← ui.2.2.2.1, ← u2.2.2.1, e4]
      rw [← e5] at e4
      exact ui.2.2.2.2 e4.symm

end Go.Proofs.Ytcfpiblgddihmaa

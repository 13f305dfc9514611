/- The marking of cycles counts their least numbers. -/
import Derived.Test.YtpicnechmdbkfaaDis6
import Derived.Test.YtpicnechmdbkfaaCycL
namespace Go.Proofs.Ytpicnechmdbkfaa
set_option linter.unusedVariables false

def fnO (o : List Int) (i : Nat) : Nat := (nth o i).toNat
theorem getB_set (bs : List Bool) (c j : Nat) (h : c < bs.length) : getB (bs.set c true) j = true ↔ j = c ∨ getB bs j = true := by
  unfold getB List.getD
  rw [List.getElem?_set]
  by_cases e : c = j
  · subst e; simp [h]
  · rw [if_neg e]
    constructor
    · exact fun x => Or.inr x
    · rintro (x | x)
      · exact absurd x.symm e
      · exact x
theorem cntF_zero {bs : List Bool} (h : cntF bs = 0) : ∀ j, j < bs.length → getB bs j = true := by
  intro j hj
  apply Classical.byContradiction
  intro hn
  have hg : getB bs j = false := by simpa using hn
  have := cntF_set bs j hj hg
  omega

/-- Closed: under the function, below n. -/
def Cl (f : Nat → Nat) (n : Nat) (S : Nat → Prop) : Prop := ∀ i, S i → i < n ∧ S (f i)
structure Mk (f : Nat → Nat) (n k0 : Nat) (bs0 bs : List Bool) (c : Nat) : Prop where
  len : bs.length = n
  clt : c < n
  klt : k0 < n
  mono : ∀ j, getB bs0 j = true → getB bs j = true
  way : ∀ j, j < n → getB bs j = true → getB bs0 j = true ∨ ∀ S, Cl f n S → S j → S c
  fwd : ∀ j, j < n → getB bs j = true → getB bs (f j) = true ∨ f j = c
  bwd : ∀ j, j < n → getB bs (f j) = true → getB bs j = true ∨ f j = k0
  start : getB bs k0 = true ∨ c = k0
  prev : getB bs k0 = true → ∃ p, p < n ∧ getB bs p = true ∧ f p = c
  hit : getB bs c = true → c = k0

/-- The state between two marks: closed both ways; whatever is seen leads below k. -/
structure Sn (f : Nat → Nat) (n k : Nat) (bs : List Bool) : Prop where
  len : bs.length = n
  fwd : ∀ j, j < n → getB bs j = true → getB bs (f j) = true
  bwd : ∀ j, j < n → getB bs (f j) = true → getB bs j = true
  low : ∀ j, j < k → getB bs j = true
  way : ∀ j, j < n → getB bs j = true → ∀ S, Cl f n S → S j → ∃ k0, k0 < k ∧ S k0

theorem Sn.seen {f : Nat → Nat} {n k : Nat} {bs : List Bool} (h : Sn f n k bs) (hk : k < n) (hf : ∀ i, i < n → f i < n) : getB bs k = true ↔ ¬ minO f n k := by
  constructor
  · rintro hg ⟨S, hS, hc⟩
    obtain ⟨k0, h0, h1⟩ := h.way k hk hg S (fun i hi => ⟨(hc i hi).1, (hc i hi).2.2⟩) hS
    have := (hc k0 h1).2.1
    omega
  · intro hm
    apply Classical.byContradiction
    intro hg
    refine hm ⟨fun i => i < n ∧ ¬ getB bs i = true, ⟨hk, hg⟩, ?_⟩
    rintro i ⟨hi, hgi⟩
    refine ⟨hi, ?_, hf i hi, fun e => hgi (h.bwd i hi e)⟩
    apply Classical.byContradiction
    intro hlt
    exact hgi (h.low i (by omega))

theorem mark_sn (o : List Int) (n k0 : Nat) (bs0 : List Bool) (hs : Sn (fnO o) n k0 bs0) (hf : ∀ i, i < n → fnO o i < n) (hi : ∀ i j, i < n → j < n → fnO o i = fnO o j → i = j) :
    ∀ (fu : Nat) (bs : List Bool) (c : Nat), Mk (fnO o) n k0 bs0 bs c → cntF bs < fu → Sn (fnO o) n (k0 + 1) (markF o fu bs c) := by
  intro fu
  induction fu with
  | zero => intro bs c _ h; omega
  | succ fu ih =>
    intro bs c m hc
    by_cases hg : getB bs c = true
    · rw [markF_seen _ _ _ _ hg]
      have ck := m.hit hg
      subst ck
      obtain ⟨p, hp, hpg, hpc⟩ := m.prev hg
      refine ⟨m.len, fun j hj hjg => ?_, fun j hj hjg => ?_, fun j hj => ?_, fun j hj hjg S hS hSj => ?_⟩
      · rcases m.fwd j hj hjg with h1 | h1
        · exact h1
        · rw [h1]; exact hg
      · rcases m.bwd j hj hjg with h1 | h1
        · exact h1
        · have : j = p := hi j p hj hp (by rw [h1, hpc])
          subst this; exact hpg
      · by_cases e : j = c
        · subst e; exact hg
        · exact m.mono j (hs.low j (by omega))
      · rcases m.way j hj hjg with h1 | h1
        · obtain ⟨k1, h2, h3⟩ := hs.way j hj h1 S hS hSj
          exact ⟨k1, by omega, h3⟩
        · exact ⟨c, by omega, h1 S hS hSj⟩
    · have e : markF o (fu + 1) bs c = markF o fu (bs.set c true) (fnO o c) := by simp only [markF]; rw [if_neg hg]; rfl
      rw [e]
      have hgs := fun j => getB_set bs c j (by rw [m.len]; exact m.clt)
      have hcn := cntF_set bs c (by rw [m.len]; exact m.clt) (by simpa using hg)
      refine ih _ _ ⟨by rw [List.length_set]; exact m.len, hf c m.clt, m.klt, fun j hj => (hgs j).2 (Or.inr (m.mono j hj)), ?_, ?_, ?_, ?_, ?_, ?_⟩ (by omega)
      · intro j hj hjg
        rcases (hgs j).1 hjg with h1 | h1
        · subst h1; exact Or.inr (fun S hS hSj => (hS _ hSj).2)
        · rcases m.way j hj h1 with h2 | h2
          · exact Or.inl h2
          · exact Or.inr (fun S hS hSj => (hS _ (h2 S hS hSj)).2)
      · intro j hj hjg
        rcases (hgs j).1 hjg with h1 | h1
        · subst h1; exact Or.inr rfl
        · rcases m.fwd j hj h1 with h2 | h2
          · exact Or.inl ((hgs _).2 (Or.inr h2))
          · exact Or.inl ((hgs _).2 (Or.inl h2))
      · intro j hj hjg
        rcases (hgs _).1 hjg with h1 | h1
        · by_cases ek : c = k0
          · exact Or.inr (by rw [h1, ek])
          · rcases m.start with h2 | h2
            · obtain ⟨p, hp, hpg, hpc⟩ := m.prev h2
              have : j = p := hi j p hj hp (by rw [h1, hpc])
              subst this; exact Or.inl ((hgs _).2 (Or.inr hpg))
            · exact absurd h2 ek
        · rcases m.bwd j hj h1 with h2 | h2
          · exact Or.inl ((hgs _).2 (Or.inr h2))
          · exact Or.inr h2
      · rcases m.start with h2 | h2
        · exact Or.inl ((hgs _).2 (Or.inr h2))
        · exact Or.inl ((hgs _).2 (Or.inl h2.symm))
      · intro _
        exact ⟨c, m.clt, (hgs c).2 (Or.inl rfl), rfl⟩
      · intro hh
        rcases (hgs _).1 hh with h1 | h1
        · -- f c = c
          apply Classical.byContradiction
          intro hne
          have ck : c ≠ k0 := fun e => hne (by rw [h1, e])
          rcases m.start with h2 | h2
          · obtain ⟨p, hp, hpg, hpc⟩ := m.prev h2
            have : c = p := hi c p m.clt hp (by rw [h1, hpc])
            subst this; exact hg hpg
          · exact ck h2
        · rcases m.bwd c m.clt h1 with h2 | h2
          · exact absurd h2 hg
          · exact h2

open Classical in
theorem cycF_spec (o : List Int) (n : Nat) (hf : ∀ i, i < n → fnO o i < n) (hi : ∀ i j, i < n → j < n → fnO o i = fnO o j → i = j) :
    ∀ k, k ≤ n → Sn (fnO o) n k (cycF o n k).1 ∧ (cycF o n k).2 = cyc (fnO o) n k := by
  intro k
  induction k with
  | zero =>
    intro _
    have hg : ∀ j, ¬ getB (List.replicate n false) j = true := by
      intro j; simp [getB, List.getD, List.getElem?_replicate]; split <;> simp
    exact ⟨⟨by simp [cycF], fun j _ h => absurd h (hg j), fun j _ h => absurd h (hg _), fun j h => by omega, fun j _ h => absurd h (hg j)⟩, rfl⟩
  | succ k ih =>
    intro hk
    obtain ⟨h1, h2⟩ := ih (by omega)
    have hs := h1.seen (by omega) hf
    have e1 : cyc (fnO o) n (k + 1) = cyc (fnO o) n k + (if minO (fnO o) n k then 1 else 0) := rfl
    rw [cycF_fst, cycF_snd, e1, h2]
    by_cases hg : getB (cycF o n k).1 k = true
    · rw [if_pos hg, if_neg (hs.1 hg), markF_seen _ _ _ _ hg]
      refine ⟨⟨h1.len, h1.fwd, h1.bwd, fun j hj => ?_, fun j hj hjg S hS hSj => ?_⟩, by omega⟩
      · by_cases e : j = k
        · subst e; exact hg
        · exact h1.low j (by omega)
      · obtain ⟨k0, a, b⟩ := h1.way j hj hjg S hS hSj
        exact ⟨k0, by omega, b⟩
    · have hm : minO (fnO o) n k := Classical.byContradiction (fun hn => hg (hs.2 hn))
      rw [if_neg hg, if_pos hm]
      refine ⟨mark_sn o n k _ h1 hf hi (n + 1) _ k ⟨h1.len, by omega, by omega, fun _ h => h, fun j hj hjg => Or.inl hjg, fun j hj hjg => Or.inl (h1.fwd j hj hjg), fun j hj hjg => Or.inl (h1.bwd j hj hjg), Or.inr rfl, fun h => absurd h hg, fun h => absurd h hg⟩ ?_, rfl⟩
      have := cntF_le (cycF o n k).1
      rw [h1.len] at this; omega

end Go.Proofs.Ytpicnechmdbkfaa

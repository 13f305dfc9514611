/- The cheapest merge: the reference's MergeDepths. No condition but lengths. -/
import Derived.Test.YthlmopndmaemnaaCheapV
import Derived.Test.YthlmopndmaemnaaFlip
import Derived.Test.YthlmopndmaemnaaSplit
namespace Go.Proofs.Ythlmopndmaemnaa
open Go.RowKit
set_option linter.unusedVariables false
set_option linter.unusedSimpArgs false

def mv (ms : List RC) : List Value := ms.map fun m => m.2.val
theorem mv_one (ms : List RC) : ∀ u ∈ mv ms, u.oneCell' = true := fun u hu => by
  obtain ⟨m, _, rfl⟩ := List.mem_map.1 hu; rfl
theorem mv_at {ms : List RC} {j : Nat} (h : j < ms.length) : (mv ms)[j]? = some (.slice (mAt ms j).2.a (mAt ms j).2.n (mAt ms j).2.cap) := by
  unfold mv mAt; rw [List.getElem?_map, List.getElem?_eq_getElem h, List.getD, List.getElem?_eq_getElem h]; rfl
def mdL (l : List Rn) : Nat → List Rn
  | 0 => l
  | k + 1 => rmL (mdL l k) (lst (mdL l k))
def mdS (l : List Rn) : Nat → Int
  | 0 => 0
  | k + 1 => mdS l k + (rAt (mdL l k) (lst (mdL l k))).1
def mdA (l : List Rn) : Nat → List Int
  | 0 => []
  | k + 1 => mdA l k ++ (rAt (mdL l k) (lst (mdL l k))).2
theorem mdS_two (l : List Rn) : mdS l 2 = (both l).1 := by
  show 0 + (one1 l).1 + (two1 l).1 = _
  unfold both; simp
theorem mdA_two (l : List Rn) : mdA l 2 = (both l).2 := by
  show [] ++ (one1 l).2 ++ (two1 l).2 = _
  unfold both; simp
theorem mdL_len (l : List Rn) : ∀ k, k ≤ l.length → (mdL l k).length = l.length - k
  | 0, _ => rfl
  | k + 1, h => by
    have ih := mdL_len l k (by omega)
    rw [mdL, rmL_len (lst_lt (by omega)), ih]; omega
theorem mdL_mem (l : List Rn) : ∀ k r, r ∈ mdL l k → r ∈ l
  | 0, r, h => h
  | k + 1, r, h => mdL_mem l k r (rmL_mem h)
theorem rAt_in (l : List Rn) (j : Nat) : rAt l j ∈ l ∨ rAt l j = (0, []) := by
  unfold rAt
  rcases Nat.lt_or_ge j l.length with h | h
  · left; rw [List.getD, List.getElem?_eq_getElem h]; exact List.getElem_mem h
  · right; rw [List.getD, List.getElem?_eq_none h]; rfl
theorem st_bd {l : List Rn} {A : Int} {B : Nat} (h : ∀ r ∈ l, 0 ≤ r.1 ∧ r.1 ≤ A) (h2 : ∀ r ∈ l, r.2.length ≤ B) (hA : 0 ≤ A) : ∀ k, (0 ≤ mdS l k ∧ mdS l k ≤ A * k) ∧ (mdA l k).length ≤ B * k
  | 0 => by simp [mdS, mdA]
  | k + 1 => by
    have ih := st_bd h h2 hA k
    have e : A * ((k + 1 : Nat) : Int) = A * k + A := by rw [Int.natCast_add, Int.mul_add]; simp
    have e2 : B * (k + 1) = B * k + B := by rw [Nat.mul_add]; simp
    have hv : (0 ≤ (rAt (mdL l k) (lst (mdL l k))).1 ∧ (rAt (mdL l k) (lst (mdL l k))).1 ≤ A) ∧ (rAt (mdL l k) (lst (mdL l k))).2.length ≤ B := by
      rcases rAt_in (mdL l k) (lst (mdL l k)) with h3 | h3
      · exact ⟨h _ (mdL_mem l k _ h3), h2 _ (mdL_mem l k _ h3)⟩
      · rw [h3]; simp; exact hA
    rw [mdS, mdA, e, e2, List.length_append]
    omega
/-- The reference's state within a merge. -/
structure MDS (W w : World) (D n : Nat) (d : List Int) (Ls : List Nat) (sa : Option Addr) (sn sc : Nat) (Lm : List Nat) (ma : Option Addr) (mn mc : Nat) (La : List Nat) (aa : Option Addr) (an ac : Nat) (vs all : List Int) (ms : List RC) : Prop where
  os : Ow w 3 Ls sa sn sc (ints vs)
  om : Ow w 22 Lm ma mn mc (mv ms)
  oa : Ow w 3 La aa an ac (ints all)
  od : Ow w 3 [D] (some ⟨D, 0, none⟩) n n (ints d)
  nS : New W.heap.size Ls
  nM : New W.heap.size Lm
  nA : New W.heap.size La
  dS : D ∉ Ls
  dM : D ∉ Lm
  dA : D ∉ La
  sm : Apart Ls Lm
  sA : Apart Ls La
  mA : Apart Lm La
  hM : Ms w (D :: (Ls ++ (Lm ++ La))) ms
  b : Below W.heap.size W w
section
variable {W w w' : World} {D n : Nat} {d : List Int} {Ls : List Nat} {sa : Option Addr} {sn sc : Nat} {Lm : List Nat} {ma : Option Addr} {mn mc : Nat} {La : List Nat} {aa : Option Addr} {an ac : Nat} {vs all : List Int} {ms : List RC}
theorem not_single {D : Nat} {L : List Nat} (h : D ∉ L) : Apart [D] L := fun i hi hj => by simp at hi; subst hi; exact h hj
theorem MDS.all' (h : MDS W w D n d Ls sa sn sc Lm ma mn mc La aa an ac vs all ms) (k : Keeps La w w') {La' : List Nat} {aa' : Option Addr} {an' ac' : Nat} {all' : List Int} (s : Step w La La') (o : Ow w' 3 La' aa' an' ac' (ints all')) :
    MDS W w' D n d Ls sa sn sc Lm ma mn mc La' aa' an' ac' vs all' ms := by
  have hD := h.od.old D (by simp)
  refine ⟨h.os.keep k h.sA, h.om.keep k h.mA, o, h.od.keep k (not_single h.dA), h.nS, h.nM, s.new h.nA h.b.size, h.dS, h.dM, fun hm => ?_, h.sm, ?_, ?_, h.hM.go k (fun i hi => .inl (by simp [hi])) (fun i hi => ?_), k.below h.b h.nA h.b.size⟩
  · rcases s D hm with h1 | h1
    · exact h.dA h1
    · omega
  · exact (Apart.step h.sA.symm s h.os.old).symm
  · exact (Apart.step h.mA.symm s h.om.old).symm
  · rcases List.mem_cons.1 hi with h1 | h1
    · exact .inl (by simp [h1])
    · rcases List.mem_append.1 h1 with h1 | h1
      · exact .inl (by simp [h1])
      · rcases List.mem_append.1 h1 with h1 | h1
        · exact .inl (by simp [h1])
        · rcases s i h1 with h2 | h2
          · exact .inl (by simp [h2])
          · exact .inr h2
theorem MDS.sizes (h : MDS W w D n d Ls sa sn sc Lm ma mn mc La aa an ac vs all ms) (k : Keeps [] w w') {Ls' : List Nat} {sa' : Option Addr} {sn' sc' : Nat} {vs' : List Int} (s : ∀ i ∈ Ls', w.heap.size ≤ i) (o : Ow w' 3 Ls' sa' sn' sc' (ints vs')) :
    MDS W w' D n d Ls' sa' sn' sc' Lm ma mn mc La aa an ac vs' all ms := by
  have hD := h.od.old D (by simp)
  have no : ∀ L : List Nat, Apart L [] := fun L i _ hj => by cases hj
  refine ⟨o, h.om.keep k (no _), h.oa.keep k (no _), h.od.keep k (no _), fun i hi => Nat.le_trans h.b.size (s i hi), h.nM, h.nA, fun hm => ?_, h.dM, h.dA, fun i hi hj => ?_, fun i hi hj => ?_, h.mA, h.hM.go k (fun i hi => by cases hi) (fun i hi => ?_), k.below h.b (fun i hi => by cases hi) h.b.size⟩
  · have := s D hm; omega
  · have := s i hi; have := h.om.old i hj; omega
  · have := s i hi; have := h.oa.old i hj; omega
  · rcases List.mem_cons.1 hi with h1 | h1
    · exact .inl (by simp [h1])
    · rcases List.mem_append.1 h1 with h1 | h1
      · exact .inr (s i h1)
      · exact .inl (by rcases List.mem_append.1 h1 with h1 | h1 <;> simp [h1])
theorem MDS.mems (h : MDS W w D n d Ls sa sn sc Lm ma mn mc La aa an ac vs all ms) (k : Keeps [] w w') {Lm' : List Nat} {ma' : Option Addr} {mn' mc' : Nat} {ms' : List RC} (s : ∀ i ∈ Lm', w.heap.size ≤ i) (o : Ow w' 22 Lm' ma' mn' mc' (mv ms')) (hs : ∀ m ∈ ms', m ∈ ms) :
    MDS W w' D n d Ls sa sn sc Lm' ma' mn' mc' La aa an ac vs all ms' := by
  have hD := h.od.old D (by simp)
  have no : ∀ L : List Nat, Apart L [] := fun L i _ hj => by cases hj
  refine ⟨h.os.keep k (no _), o, h.oa.keep k (no _), h.od.keep k (no _), h.nS, fun i hi => Nat.le_trans h.b.size (s i hi), h.nA, h.dS, fun hm => ?_, h.dA, fun i hi hj => ?_, h.sA, fun i hi hj => ?_, (h.hM.sub hs).go k (fun i hi => by cases hi) (fun i hi => ?_), k.below h.b (fun i hi => by cases hi) h.b.size⟩
  · have := s D hm; omega
  · have := s i hj; have := h.os.old i hi; omega
  · have := s i hi; have := h.oa.old i hj; omega
  · rcases List.mem_cons.1 hi with h1 | h1
    · exact .inl (by simp [h1])
    · rcases List.mem_append.1 h1 with h1 | h1
      · exact .inl (by simp [h1])
      · rcases List.mem_append.1 h1 with h1 | h1
        · exact .inr (s i h1)
        · exact .inl (by simp [h1])
theorem MDS.bump (h : MDS W w D n d Ls sa sn sc Lm ma mn mc La aa an ac vs all ms) (k : Keeps [D] w w') (hB : W.heap.size ≤ D) {d' : List Int} (o : Ow w' 3 [D] (some ⟨D, 0, none⟩) n n (ints d')) :
    MDS W w' D n d' Ls sa sn sc Lm ma mn mc La aa an ac vs all ms := by
  have sy : ∀ {L : List Nat}, D ∉ L → Apart L [D] := fun hL i hi hj => by simp at hj; subst hj; exact hL hi
  exact ⟨h.os.keep k (sy h.dS), h.om.keep k (sy h.dM), h.oa.keep k (sy h.dA), o, h.nS, h.nM, h.nA, h.dS, h.dM, h.dA, h.sm, h.sA, h.mA, h.hM.keep k (fun i hi => .inl (by simp at hi; simp [hi])), k.below h.b (fun i hi => by simp at hi; omega) h.b.size⟩
theorem MDS.pushS (h : MDS W w D n d Ls sa sn sc Lm ma mn mc La aa an ac vs all ms) (k : Keeps Ls w w') {Ls' : List Nat} {sa' : Option Addr} {sn' sc' : Nat} {vs' : List Int} (s : Step w Ls Ls') (o : Ow w' 3 Ls' sa' sn' sc' (ints vs')) :
    MDS W w' D n d Ls' sa' sn' sc' Lm ma mn mc La aa an ac vs' all ms := by
  have hD := h.od.old D (by simp)
  refine ⟨o, h.om.keep k h.sm.symm, h.oa.keep k h.sA.symm, h.od.keep k (not_single h.dS), s.new h.nS h.b.size, h.nM, h.nA, fun hm => ?_, h.dM, h.dA, Apart.step h.sm s h.om.old, Apart.step h.sA s h.oa.old, h.mA, h.hM.go k (fun i hi => .inl (by simp [hi])) (fun i hi => ?_), k.below h.b h.nS h.b.size⟩
  · rcases s D hm with h1 | h1
    · exact h.dS h1
    · omega
  · rcases List.mem_cons.1 hi with h1 | h1
    · exact .inl (by simp [h1])
    · rcases List.mem_append.1 h1 with h1 | h1
      · rcases s i h1 with h2 | h2
        · exact .inl (by simp [h2])
        · exact .inr h2
      · exact .inl (by rcases List.mem_append.1 h1 with h1 | h1 <;> simp [h1])
/-- The end of a merge. -/
theorem MDS.pushM (h : MDS W w D n d Ls sa sn sc Lm ma mn mc La aa an ac vs all ms) (k : Keeps Lm w w') {Lm' : List Nat} {ma' : Option Addr} {mn' mc' : Nat} {v : Int} (s : Step w Lm Lm') (o : Ow w' 22 Lm' ma' mn' mc' (mv (ms ++ [((v, ⟨La, aa, an, ac, all⟩) : RC)]))) :
    Ow w' 3 Ls sa sn sc (ints vs) ∧ Ow w' 3 [D] (some ⟨D, 0, none⟩) n n (ints d) ∧ New W.heap.size Lm' ∧ D ∉ Lm' ∧ Apart Ls Lm' ∧ Ms w' (D :: (Ls ++ Lm')) (ms ++ [((v, ⟨La, aa, an, ac, all⟩) : RC)]) ∧ Below W.heap.size W w' := by
  have hD := h.od.old D (by simp)
  refine ⟨h.os.keep k h.sm, h.od.keep k (not_single h.dM), s.new h.nM h.b.size, fun hm => ?_, (Apart.step h.sm.symm s h.os.old).symm, (h.hM.go k (fun i hi => .inl (by simp [hi])) (fun i hi => ?_)).snoc (h.oa.keep k h.mA.symm) (fun i hi hj => ?_), k.below h.b h.nM h.b.size⟩
  · rcases s D hm with h1 | h1
    · exact h.dM h1
    · omega
  · rcases List.mem_cons.1 hi with h1 | h1
    · exact .inl (by simp [h1])
    · rcases List.mem_append.1 h1 with h1 | h1
      · exact .inl (by simp [h1])
      · rcases s i h1 with h2 | h2
        · exact .inl (by simp [h2])
        · exact .inr h2
  · rcases List.mem_cons.1 hj with h1 | h1
    · subst h1; exact h.dA hi
    · rcases List.mem_append.1 h1 with h1 | h1
      · exact h.sA i h1 hi
      · rcases s i h1 with h2 | h2
        · exact h.mA i h2 hi
        · have := h.oa.old i hi; omega
end
theorem Step.pre {w w1 : World} {L L' : List Nat} (h : Step w1 L L') (hs : w.heap.size ≤ w1.heap.size) : Step w L L' := fun i hi => by
  rcases h i hi with h1 | h1
  · exact .inl h1
  · exact .inr (Nat.le_trans hs h1)
def lenR3 (v : Value) : Nat := match v with | .slice _ m _ => m | _ => 0

set_option maxRecDepth 100000 in
set_option maxHeartbeats 8000000 in
theorem cs_MergeDepths (a : Option Addr) (n cap : Nat) (xs : List Int) (w : World) (hr : RdI w a n cap xs) :
    Calls Try.prog 23 #[.slice a n cap] w fun e w' => ∃ sa sn sc, e = .returned (.slice sa sn sc) ∧ RdI w' sa sn sc (mdV xs) ∧ sn ≤ 1048576 ∧ Below w.heap.size w w' := by
  have HL := Lib.hid hr.lens
  cases hok : okLengthsOk xs
  · have HV := Lib.hid (show mdV xs = [] by unfold mdV; rw [hok]; rfl)
    have HK := Lib.hid hok
    clear hok
    go_enter Try.func23, Try.ntmps23
    go_wp2_with (go_at_call 37; refine (cs_LengthsOk a n cap xs _ hr).mono ?_; rw [HK.out]; rintro e w' ⟨rfl, hb⟩)
    go_ret
    exact ⟨none, 0, 0, rfl, by rw [HV.out]; exact Rd.nil _ _ _ (by unfold maxLen; omega), by omega, by assumption⟩
  · have HV := Lib.hid (show mdV xs = hufD xs by unfold mdV; rw [hok]; rfl)
    have hat := okLengthsOk_at hok
    rw [HL.out] at hat
    have HX := Lib.hid (ok_mem hok)
    have HK := Lib.hid hok
    clear hok
    have hn8 := hat.1
    have hS := isum_ok (by rw [HL.out]; exact hn8) HX.out
    have hmk := run_make_row' (P := Try.prog) 22 3 (.int .i64 0) 8 Try.underlying22 infoInt rfl .i64 .i64 n (by omega) (by omega)
    have hcap := hr.le
    go_enter Try.func23, Try.ntmps23
    go_upto_region 4 with (go_at_call 37; refine (cs_LengthsOk a n cap xs _ hr).mono ?_; rw [HK.out]; rintro e w1 ⟨rfl, hb1⟩)
    obtain ⟨D, hD⟩ : ∃ D, D = w1.heap.size := ⟨_, rfl⟩
    obtain ⟨wm, hwm⟩ : ∃ wm, wm = w1.alloc (.cells (madeCells #[.int .i64 0] n) 3) := ⟨_, rfl⟩
    have hbm : Below w1.heap.size w1 wm := by rw [hwm]; exact (Below.refl _ _).alloc (Nat.le_refl _) _
    have hD0 : Ow wm 3 [D] (some ⟨D, 0, none⟩) n n (ints (hst xs 0).d) := by
      rw [hwm, hD]
      exact Ow.new' _ _ _ _ _ (size_madeCells _ _) (by rw [toList_madeCells_one]; simp [hst, HL.out]) (by unfold maxLen; omega)
    have hbW := Below.nx hb1 hbm
    have hwD : w.heap.size ≤ D := by have := hb1.size; omega
    have hrm := hr.below hbW
    rw [← hwm, ← hD]
    clear hwm hD hbm hmk hb1
    have hszm := hbW.size
    go_upto_region 5 with ((with_reducible show wpList _ _ _ (⟨some 23, _, _, _, _, _⟩ :: _) _ _); refine wpList_app _ rfl _ _ 22 rfl 3 Try.underlying22 infoInt rfl rfl rfl (Ow.bare _ _ _) (hrm.below ((Below.refl _ _).alloc (Nat.le_refl _) (.cells #[] 3))) (one_ints _) (by omega) (by unfold maxLen; omega) ?_; intro sa0 sc0 Ls0 wz ows0 kpz stz; rw [Nat.zero_add, List.nil_append] at ows0)
    have hsz1 : w.heap.size ≤ (wm.alloc (.cells #[] 3)).heap.size := Nat.le_trans hszm (by simp)
    have hbz := kpz.below (hbW.alloc hszm _) (fun i hi => by cases hi) hsz1
    have hDz := (hD0.alloc (.cells #[] 3)).keep kpz (fun _ _ h => by cases h)
    have hDs : D ∉ Ls0 := fun h => by
      rcases stz D h with h2 | h2
      · cases h2
      · have := hD0.old D (by simp); simp at h2; omega
    have hnS : New w.heap.size Ls0 := stz.new (fun i hi => by cases hi) hsz1
    clear hD0 hrm kpz stz hbW hszm hsz1
    go_wp2_with fail
    have hszz := hbz.size
    go_loopw [5, 27] (fun s i wr => ∃ k : Nat, ∃ Lm ma mc ms, k ≤ n ∧ i = .int .i64 (k : Int) ∧ s = .slice ma k mc ∧ Ow wr 22 Lm ma k mc (mv ms) ∧ Ow wr 3 Ls0 sa0 n sc0 (ints xs) ∧ Ow wr 3 [D] (some ⟨D, 0, none⟩) n n (ints (hst xs 0).d) ∧ New w.heap.size Lm ∧ D ∉ Lm ∧ Apart Ls0 Lm ∧ Ms wr (D :: (Ls0 ++ Lm)) ms ∧ ms.map rnOf = leafs xs k ∧ Below w.heap.size w wr) (fun _ i _ => n - natT i)
    case atStart => exact ⟨0, [], _, _, [], by omega, rfl, rfl, Ow.bare _ _ _, ows0.alloc _, hDz.alloc _, (fun _ h => by cases h), (fun h => by cases h), (fun _ _ h => by cases h), (fun _ h => by cases h), rfl, hbz.alloc hszz _⟩
    case round =>
      clear ows0 hDz hbz hszz
      obtain ⟨k, Lm, ma, mc, ms, hk, rfl, rfl, hom, hos, hoD, hnM, hDM, hap, hM, hms, hb⟩ := hrel
      have HMS := Lib.hid hms
      clear hms
      have hszr := hb.size
      by_cases hkn : k < n
      · go_wp2_with ((with_reducible show wpList _ _ _ (⟨some 34, _, _, _, _, _⟩ :: _) _ _); refine wpList_app _ rfl _ _ 23 rfl 22 Try.underlying23 infoSl rfl rfl rfl ((hom.alloc _).alloc _) (Rd.one' _ _ _ _ (by simp)) (one_slice _ _ _) (by omega) (by unfold maxLen; omega) ?_; intro a1 cap1 L1 w3 ow1 kp1 st1)
        have hst1 : ∀ i ∈ L1, i ∈ Lm ∨ wr.heap.size < i := fun i hi => by
          rcases st1 i hi with h | h
          · exact .inl h
          · right; simp at h; omega
        have KQ : Keeps Lm wr w3 := ((Keeps.alloc Lm wr _).trans (Keeps.alloc Lm _ _) (Step.refl _ _)).trans kp1 (Step.refl _ _)
        have hself : Ow w3 3 [wr.heap.size] (some ⟨wr.heap.size, 0, none⟩) 1 1 (ints [(k : Int)]) := ((Ow.new' wr 3 #[.int .i64 (k : Int)] 1 _ rfl rfl (by unfold maxLen; omega)).alloc _).keep kp1 (fun i hi hj => by simp at hi; subst hi; have := hom.old _ hj; omega)
        have hDr := hoD.old D (by simp)
        have hM2 := (hM.go KQ (fun i hi => .inl (by simp [hi])) (B' := D :: (Ls0 ++ L1)) (fun i hi => by
          rcases List.mem_cons.1 hi with h | h
          · exact .inl (by simp [h])
          · rcases List.mem_append.1 h with h | h
            · exact .inl (by simp [h])
            · rcases hst1 i h with h2 | h2
              · exact .inl (by simp [h2])
              · exact .inr (by omega))).snoc (m := (nth xs k, ⟨[wr.heap.size], some ⟨wr.heap.size, 0, none⟩, 1, 1, [(k : Int)]⟩)) hself (fun i hi hj => by
          simp at hi; subst hi
          rcases List.mem_cons.1 hj with h | h
          · omega
          · rcases List.mem_append.1 h with h | h
            · have := hos.old _ h; omega
            · rcases hst1 _ h with h2 | h2
              · have := hom.old _ h2; omega
              · omega)
        have hos2 := hos.keep KQ hap
        have hoD2 := hoD.keep KQ (fun i hi hj => by simp at hi; subst hi; exact hDM hj)
        have hn2 : New w.heap.size L1 := fun i hi => by
          rcases hst1 i hi with h | h
          · exact hnM i h
          · omega
        have hap2 : Apart Ls0 L1 := fun i hi hj => by
          rcases hst1 i hj with h | h
          · exact hap i hi h
          · have := hos.old i hi; omega
        have hD2 : D ∉ L1 := fun h => by
          rcases hst1 _ h with h2 | h2
          · exact hDM h2
          · omega
        have hbF := KQ.below hb hnM hszr
        have HLF := Lib.hid (show (ms ++ [((nth xs k, ⟨[wr.heap.size], some ⟨wr.heap.size, 0, none⟩, 1, 1, [(k : Int)]⟩) : RC)]).map rnOf = leafs xs (k + 1) by rw [List.map_append, HMS.out, leafs_succ]; rfl)
        have ow2 : Ow w3 22 L1 a1 (k + 1) cap1 (mv (ms ++ [((nth xs k, ⟨[wr.heap.size], some ⟨wr.heap.size, 0, none⟩, 1, 1, [(k : Int)]⟩) : RC)])) := by unfold mv at ow1 ⊢; rw [List.map_append]; exact ow1
        clear ow1 kp1 st1 hM hos hoD hom KQ
        go_roundw
        case rel => exact ⟨k + 1, L1, a1, cap1, _, by omega, by rw [Int.natCast_add]; rfl, rfl, ow2, hos2, hoD2, hn2, hD2, hap2, hM2, HLF.out, hbF⟩
        case measure => simp [natT]; omega
      · obtain rfl : k = n := by omega
        clear hkn hk
        have HMS0 := Lib.hid (show ms.map rnOf = (hst xs 0).l by rw [HMS.out]; show _ = leafs xs xs.length; rw [HL.out])
        have HS0 := Lib.hid (show xs = vals (hst xs 0).l by show xs = vals (leafs xs xs.length); rw [vals_leafs])
        have hos0 : Ow wr 3 Ls0 sa0 k sc0 (ints (vals (hst xs 0).l)) := by rw [← HS0.out]; exact hos
        clear hos HMS
        go_wp2_with fail
        go_loopw [4, 5] (fun s m wr => ∃ t ln : Nat, ∃ Ls sa sc Lm ma mc ms, s = .slice sa ln sc ∧ m = .slice ma ln mc ∧ ln + t = k ∧ (t + 1 ≤ k ∨ t = 0) ∧ Ow wr 3 Ls sa ln sc (ints (vals (hst xs t).l)) ∧ Ow wr 22 Lm ma ln mc (mv ms) ∧ Ow wr 3 [D] (some ⟨D, 0, none⟩) k k (ints (hst xs t).d) ∧ New w.heap.size Ls ∧ New w.heap.size Lm ∧ D ∉ Ls ∧ D ∉ Lm ∧ Apart Ls Lm ∧ Ms wr (D :: (Ls ++ Lm)) ms ∧ ms.map rnOf = (hst xs t).l ∧ Below w.heap.size w wr) (fun s _ _ => lenR3 s)
        case atStart => exact ⟨0, k, Ls0, sa0, sc0, Lm, ma, mc, ms, rfl, rfl, by omega, .inr rfl, hos0, hom, hoD, hnS, hnM, hDs, hDM, hap, hM, HMS0.out, hb⟩
        case round =>
          clear hos0 hom hoD hnS hnM hDs hDM hap hM HMS0 HS0 hb hszr
          obtain ⟨t, ln, Ls, sa, sc, Lm, ma, mc, ms, rfl, rfl, hln, ht, hos, hom, hoD, hnS, hnM, hDS, hDM, hap, hM, hms, hb⟩ := hrel
          have HI := Lib.hid (HI.all HX.out t (by rw [HL.out]; exact ht))
          by_cases h2 : 2 ≤ ln
          · have h3 : (1 : Int) < (ln : Int) := by omega
            have hll : (hst xs t).l.length = ln := by have := HI.out.len; rw [HL.out] at this; omega
            obtain ⟨l, hl⟩ : ∃ l, l = (hst xs t).l := ⟨_, rfl⟩
            have HBD := Lib.hid (st_bd (l := l) (A := 8000) (B := 8) (fun r hr => by rw [hl] at hr; exact ⟨by have := HI.out.pos r hr; omega, Int.le_trans (HI.out.low hr) hS.2⟩) (fun r hr => by rw [hl] at hr; have := HI.out.short hr; rw [HL.out] at this; omega) (by omega))
            have HLL := Lib.hid hl
            rw [← hl] at hll hms hos
            have HLN := Lib.hid hll
            clear hl hll
            have hszr := hb.size
            have hMS : Ms wr (D :: (Ls ++ (Lm ++ []))) ms := by rw [List.append_nil]; exact hM
            have S0 : MDS w (wr.alloc (.cells #[] 3)) D k (hst xs t).d Ls sa (ln - 0) sc Lm ma (ln - 0) mc [] (some ⟨wr.heap.size, 0, none⟩) 0 0 (vals (mdL l 0)) (mdA l 0) ms :=
              ⟨hos.alloc _, hom.alloc _, Ow.bare _ _ _, hoD.alloc _, hnS, hnM, (fun _ h => by cases h), hDS, hDM, (fun h => by cases h), hap, (fun _ _ h => by cases h), (fun _ _ h => by cases h), hMS.below ((Below.refl _ _).alloc (Nat.le_refl _) _), hb.alloc hszr _⟩
            have HMS := Lib.hid hms
            have HLENS := Lib.hid (show lenR3 (.slice sa ln sc) = ln from rfl)
            clear hos hom hoD hnS hnM hDS hDM hap hM hMS hms hb hszr
            go_wp2_with fail
            go_loopw [4, 5, 7, 8, 9] (fun s m al su kk wx => ∃ j : Nat, ∃ Ls sa sc Lm ma mc La aa an ac ms, j ≤ 2 ∧ s = .slice sa (ln - j) sc ∧ m = .slice ma (ln - j) mc ∧ al = .slice aa an ac ∧ su = .int .i64 (mdS l j) ∧ kk = .int .i64 (j : Int) ∧ MDS w wx D k (hst xs t).d Ls sa (ln - j) sc Lm ma (ln - j) mc La aa an ac (vals (mdL l j)) (mdA l j) ms ∧ ms.map rnOf = mdL l j) (fun _ _ _ _ kk _ => 2 - natT kk)
            case atStart => exact ⟨0, Ls, sa, sc, Lm, ma, mc, [], _, 0, 0, ms, by omega, rfl, rfl, rfl, rfl, rfl, S0, HMS.out⟩
            case round =>
              clear S0 HMS
              obtain ⟨j, Ls, sa, sc, Lm, ma, mc, La, aa, an, ac, ms, hj, rfl, rfl, rfl, rfl, rfl, S, hms⟩ := hrel
              have HMS := Lib.hid hms
              clear hms
              by_cases hj2 : j < 2
              · have hjl : j ≤ l.length := by rw [HLN.out]; omega
                have hlj : (mdL l j).length = ln - j := by rw [mdL_len l j hjl, HLN.out]
                have hq : 0 < ln - j := by omega
                obtain ⟨q, hqe⟩ : ∃ q, q = ln - j := ⟨_, rfl⟩
                rw [← hqe] at S hlj hq ⊢
                have HQE := Lib.hid hqe
                have hq8 : q ≤ 8 := by omega
                have HLJ := Lib.hid hlj
                clear hqe hlj hjl
                obtain ⟨p, hp⟩ : ∃ p, p = lst (mdL l j) := ⟨_, rfl⟩
                have hpq : p < q := by
                  have h := lst_lt (l := mdL l j) (by rw [HLJ.out]; exact hq)
                  rw [← hp, HLJ.out] at h; exact h
                have hml : ms.length = q := by
                  have h := congrArg List.length HMS.out
                  rw [List.length_map, HLJ.out] at h; exact h
                obtain ⟨c, hc⟩ : ∃ c, c = mAt ms p := ⟨_, rfl⟩
                have hcm : c ∈ ms := by rw [hc]; exact mAt_mem (by omega)
                have HC := Lib.hid (show rnOf c = rAt (mdL l j) p by rw [hc, ← HMS.out, rAt_map])
                have HV1 := Lib.hid (show nth (vals (mdL l j)) p = c.1 by rw [vals_nth, ← HC.out]; rfl)
                have hcl : rnOf c ∈ l := mdL_mem l j _ (by rw [← HMS.out]; exact List.mem_map.2 ⟨c, hcm, rfl⟩)
                have hc1 : 1 ≤ c.1 ∧ c.1 ≤ 8000 := by
                  rw [HLL.out] at hcl
                  exact ⟨HI.out.pos _ hcl, Int.le_trans (HI.out.low hcl) hS.2⟩
                have hoc := (S.hM c hcm).1
                have hcn : c.2.n ≤ 8 := by
                  rw [HLL.out] at hcl
                  have h := HI.out.short hcl
                  have h2 := hoc.lens
                  rw [HL.out] at h
                  simp only [rnOf] at h; omega
                have HS1 := Lib.hid (show mdS l (j + 1) = mdS l j + c.1 by rw [mdS, ← hp, ← HC.out]; rfl)
                have HA1 := Lib.hid (show mdA l (j + 1) = mdA l j ++ c.2.xs by rw [mdA, ← hp, ← HC.out]; rfl)
                have HL1 := Lib.hid (show mdL l (j + 1) = rmL (mdL l j) p by rw [mdL, ← hp])
                have HVV := Lib.hid (show vals (mdL l (j + 1)) = rmAt (vals (mdL l j)) p by rw [HL1.out]; exact rmL_map _ _ _)
                have HMM := Lib.hid (show (rmL ms p).map rnOf = mdL l (j + 1) by rw [rmL_map, HMS.out, HL1.out])
                have HP := Lib.hid (show lq (vals (mdL l j)) q = p by rw [hp]; unfold lst; rw [HLJ.out])
                have HVL := Lib.hid (show (vals (mdL l j)).length = q by rw [vals_len]; exact HLJ.out)
                have HCA := Lib.hid hc
                have hbd := (HBD.out j).1
                have han : an ≤ 16 := by have h1 := (HBD.out j).2; have h2 := S.oa.lens; omega
                clear hcl hc hp
                obtain ⟨gs, rfl, rfl, _, hgs, _⟩ := S.os.int (by have := S.os.le; omega)
                obtain ⟨gm, rfl, rfl, _, hgm, _⟩ := S.om.at' (by have := S.om.le; omega)
                have c2 := (hgm p hpq).trans (mv_at (by omega))
                rw [← HCA.out] at c2
                have c4 := hgs p hpq
                rw [HV1.out] at c4
                have HGS := Lib.hid hgs
                clear hgs hgm
                obtain ⟨wx, rfl⟩ : ∃ wx : World, wx = wr := ⟨_, rfl⟩
                obtain ⟨vs, hvs⟩ : ∃ vs, vs = vals (mdL l j) := ⟨_, rfl⟩
                rw [← hvs] at S HV1 HVV HP HVL HGS
                clear hvs
                go_wp2_with fail
                go_loopw [10, 46] (fun at' i wf => ∃ z : Nat, z ≤ q ∧ at' = .int .i64 (lq vs z : Int) ∧ i = .int .i64 (z : Int) ∧ wx = wf) (fun _ i _ => q - natT i)
                case atStart => exact ⟨0, by omega, rfl, rfl, rfl⟩
                case round =>
                  obtain ⟨z, hz, rfl, rfl, rfl⟩ := hrel
                  by_cases hzq : z < q
                  · have c1 := HGS.out z hzq
                    have hlz := lq_lt vs (by rw [HVL.out]; exact hq) z (by rw [HVL.out]; omega)
                    rw [HVL.out] at hlz
                    have c3 := HGS.out (lq vs z) hlz
                    have LS := Lib.hid (show lq vs (z + 1) = if nth vs z < nth vs (lq vs z) then z else lq vs z from rfl)
                    clear c2 c4
                    by_cases hlt : nth vs z < nth vs (lq vs z)
                    · have HN := Lib.hid (show lq vs (z + 1) = z by rw [LS.out, if_pos hlt])
                      go_wp2_with fail
                      go_roundw
                      case rel => exact ⟨z + 1, by omega, by rw [HN.out], by rw [Int.natCast_add]; rfl, by trivial⟩
                      case measure => simp [natT]; omega
                    · have HN := Lib.hid (show lq vs (z + 1) = lq vs z by rw [LS.out, if_neg hlt])
                      go_wp2_with fail
                      go_roundw
                      case rel => exact ⟨z + 1, by omega, by rw [HN.out], by rw [Int.natCast_add]; rfl, by trivial⟩
                      case measure => simp [natT]; omega
                  · obtain rfl : z = q := by omega
                    rw [HP.out]
                    go_wp2_with ((with_reducible show wpList _ _ _ (⟨some 70, _, _, _, _, _⟩ :: _) _ _); refine wpList_app _ rfl _ _ 22 rfl 3 Try.underlying22 infoInt rfl rfl rfl S.oa hoc.rd (one_ints _) (by omega) (by unfold maxLen; omega) ?_; intro a5 cap5 L5 w5 ow5 kp5 st5; rw [ints_append, ← HA1.out] at ow5)
                    have S5 := S.all' kp5 st5 ow5
                    clear S ow5 kp5 st5 c2 c4 HGS hoc
                    have hQj1 : (p : Int) + 1 ≤ (z : Int) := by omega
                    have hwQ : IntKind.i64.wrap ((p : Int) + 1) = (p : Int) + 1 := by rw [IntKind.wrap_i64]; omega
                    have hQ01 : (0 : Int) ≤ (p : Int) + 1 := by omega
                    have hQn : ((p : Int) + 1).toNat = p + 1 := by omega
                    have hoss := S5.os
                    have hle4 := hoss.le
                    have hmx4 := hoss.max
                    have hQsc : p ≤ sc := by omega
                    have hQ1 : p + 1 ≤ sc := by omega
                    have hone1 : ∀ u ∈ (ints vs).take p, u.oneCell' = true := fun u hu => one_ints _ u (List.mem_of_mem_take hu)
                    have hone2 : ∀ u ∈ (ints vs).drop (p + 1), u.oneCell' = true := fun u hu => one_ints _ u (List.mem_of_mem_drop hu)
                    obtain ⟨A, hA, SRC⟩ : ∃ A : Addr, (if sc = p + 1 then (some ⟨gs, 0, none⟩ : Option Addr) else some ⟨gs, p + 1, none⟩) = some A ∧ Hid (∀ w', Ow w' 3 [gs] (some ⟨gs, 0, none⟩) z sc (ints vs) → Rd w' (some A) (z - (p + 1)) (sc - (p + 1)) ((ints vs).drop (p + 1))) := by
                      by_cases hc : sc = p + 1
                      · refine ⟨⟨gs, 0, none⟩, by rw [if_pos hc], Lib.hid fun w' h => ?_⟩
                        have h2 := h.rd.from (p + 1) (by omega)
                        unfold cutAt at h2
                        rw [if_pos hc] at h2
                        exact h2
                      · refine ⟨⟨gs, p + 1, none⟩, by rw [if_neg hc], Lib.hid fun w' h => ?_⟩
                        have h2 := h.rd.from (p + 1) (by omega)
                        unfold cutAt at h2
                        rw [if_neg hc, Option.map_some, Addr.add_lit, Nat.zero_add] at h2
                        exact h2
                    go_cut [4] from 71 to 80 (fun s wx => ∃ L' a' c', s = .slice a' (p + (z - (p + 1))) c' ∧ Ow wx 3 L' a' (p + (z - (p + 1))) c' (ints (rmAt vs p)) ∧ (∀ i ∈ L', w5.heap.size ≤ i) ∧ Keeps [] w5 wx)
                    case first =>
                      go_wp2_with fail
                      go_region_law (first | (refine step_appG rfl (.tmp 71) (.tmp 74) 22 rfl 3 Try.underlying22 infoInt rfl (by simp [Act.eval, Act.put]) (by simp [Act.eval, Act.put]) (L := []) (sa := some ⟨w5.heap.size, 0, none⟩) (n := 0) (cap := 0) (vs := []) (xa := some ⟨gs, 0, none⟩) (m := p) (xcap := sc) (Ow.bare _ _ _) (((hoss.alloc (.cells #[] 3)).drew).rd.head p (by omega)) hone1 (by omega) (by unfold maxLen; omega) ?_; intro a1 cap1 L1 wa hc1 ow1 kp1 st1) | (refine step_appG rfl (.tmp 75) (.tmp 79) 22 rfl 3 Try.underlying22 infoInt rfl (by simp [Act.eval, Act.put]) (by simp [Act.eval, Act.put]) (xa := some A) (m := z - (p + 1)) (xcap := sc - (p + 1)) ow1 (SRC.out _ (((hoss.alloc (.cells #[] 3)).drew).keep kp1 (fun _ _ h => by cases h))) hone2 (by omega) (by unfold maxLen; omega) ?_; intro a2 cap2 L2 w2 hc2 ow2 kp2 st2))
                      all_goals
                        have hs1 : w5.heap.size ≤ ((w5.alloc (.cells #[] 3)).drew).heap.size := by show w5.heap.size ≤ (w5.alloc (.cells #[] 3)).heap.size; simp
                        have hs2 := kp1.size
                        have n1 : ∀ i ∈ L1, w5.heap.size ≤ i := fun i hi => by
                          rcases st1 i hi with h | h
                          · cases h
                          · omega
                        have n2 : ∀ i ∈ L2, w5.heap.size ≤ i := fun i hi => by
                          rcases st2 i hi with h | h
                          · exact n1 i h
                          · omega
                        have kA : Keeps [] w5 wa := ((Keeps.alloc [] w5 (.cells #[] 3)).trans (Keeps.drew [] _) (Step.refl _ _)).trans kp1 (Step.refl _ _)
                        have kB : Keeps [] w5 w2 := kA.trans kp2 (fun i hi => .inr (n1 i hi))
                        rw [Nat.zero_add, List.nil_append] at ow2
                        rw [ints_take, ints_drop, ints_append] at ow2
                        clear hc1 hc2 hA
                        go_wp2_with fail
                        go_meet
                        exact ⟨L2, a2, cap2, by first | rfl | (rw [Nat.zero_add]), ow2, n2, kB⟩
                    case rest =>
                      obtain ⟨L6, a6, c6, rfl, ow6, hn6, kp6⟩ := hcut
                      obtain ⟨w6, rfl⟩ : ∃ w6 : World, w6 = wc := ⟨_, rfl⟩
                      rw [← HVV.out] at ow6
                      have S6 := S5.sizes kp6 hn6 ow6
                      clear S5 ow6 hn6 kp6 hoss hA SRC hone1 hone2 hQsc hQ1 hle4 hmx4 A
                      have homm := S6.om
                      go_wp2_with fail
                      have hle5 := homm.le
                      have hmx5 := homm.max
                      have hQsc : p ≤ mc := by omega
                      have hQ1 : p + 1 ≤ mc := by omega
                      have hone1 : ∀ u ∈ (mv ms).take p, u.oneCell' = true := fun u hu => mv_one _ u (List.mem_of_mem_take hu)
                      have hone2 : ∀ u ∈ (mv ms).drop (p + 1), u.oneCell' = true := fun u hu => mv_one _ u (List.mem_of_mem_drop hu)
                      obtain ⟨A, hA, SRC⟩ : ∃ A : Addr, (if mc = p + 1 then (some ⟨gm, 0, none⟩ : Option Addr) else some ⟨gm, p + 1, none⟩) = some A ∧ Hid (∀ w', Ow w' 22 [gm] (some ⟨gm, 0, none⟩) z mc (mv ms) → Rd w' (some A) (z - (p + 1)) (mc - (p + 1)) ((mv ms).drop (p + 1))) := by
                        by_cases hc : mc = p + 1
                        · refine ⟨⟨gm, 0, none⟩, by rw [if_pos hc], Lib.hid fun w' h => ?_⟩
                          have h2 := h.rd.from (p + 1) (by omega)
                          unfold cutAt at h2
                          rw [if_pos hc] at h2
                          exact h2
                        · refine ⟨⟨gm, p + 1, none⟩, by rw [if_neg hc], Lib.hid fun w' h => ?_⟩
                          have h2 := h.rd.from (p + 1) (by omega)
                          unfold cutAt at h2
                          rw [if_neg hc, Option.map_some, Addr.add_lit, Nat.zero_add] at h2
                          exact h2
                      go_region_law (first | (refine step_appG rfl (.tmp 81) (.tmp 84) 23 rfl 22 Try.underlying23 infoSl rfl (by simp [Act.eval, Act.put]) (by simp [Act.eval, Act.put]) (L := []) (sa := some ⟨w6.heap.size, 0, none⟩) (n := 0) (cap := 0) (vs := []) (xa := some ⟨gm, 0, none⟩) (m := p) (xcap := mc) (Ow.bare _ _ _) (((homm.alloc (.cells #[] 22)).drew).rd.head p (by omega)) hone1 (by omega) (by unfold maxLen; omega) ?_; intro a1 cap1 L1 wa hc1 ow1 kp1 st1) | (refine step_appG rfl (.tmp 85) (.tmp 89) 23 rfl 22 Try.underlying23 infoSl rfl (by simp [Act.eval, Act.put]) (by simp [Act.eval, Act.put]) (xa := some A) (m := z - (p + 1)) (xcap := mc - (p + 1)) ow1 (SRC.out _ (((homm.alloc (.cells #[] 22)).drew).keep kp1 (fun _ _ h => by cases h))) hone2 (by omega) (by unfold maxLen; omega) ?_; intro a2 cap2 L2 w2 hc2 ow2 kp2 st2))
                      all_goals
                        have hs1 : w6.heap.size ≤ ((w6.alloc (.cells #[] 22)).drew).heap.size := by show w6.heap.size ≤ (w6.alloc (.cells #[] 22)).heap.size; simp
                        have hs2 := kp1.size
                        have n1 : ∀ i ∈ L1, w6.heap.size ≤ i := fun i hi => by
                          rcases st1 i hi with h | h
                          · cases h
                          · omega
                        have n2 : ∀ i ∈ L2, w6.heap.size ≤ i := fun i hi => by
                          rcases st2 i hi with h | h
                          · exact n1 i h
                          · omega
                        have kA : Keeps [] w6 wa := ((Keeps.alloc [] w6 (.cells #[] 22)).trans (Keeps.drew [] _) (Step.refl _ _)).trans kp1 (Step.refl _ _)
                        have kB : Keeps [] w6 w2 := kA.trans kp2 (fun i hi => .inr (n1 i hi))
                        rw [Nat.zero_add, List.nil_append] at ow2
                        rw [show (mv ms).take p ++ (mv ms).drop (p + 1) = mv (rmL ms p) by unfold mv; rw [rmL_map]; rfl] at ow2
                        clear hc1 hc2 hA
                        have ow7 := ow2
                        have S7 := S6.mems kB n2 ow7 (fun m hm => rmL_mem hm)
                        have hsn : p + (z - (p + 1)) = ln - (j + 1) := by have := HQE.out; omega
                        have HSN2 := Lib.hid hsn
                        rw [hsn] at S7
                        clear S6 ow7 ow2 ow1 kp1 kp2 st1 st2 kA kB n1 n2 homm SRC hone1 hone2 hQsc hQ1 hle5 hmx5 hsn hwQ hQn hQj1 hQ01
                        go_wp2_with fail
                        go_roundw
                        case rel =>
                          exact ⟨j + 1, L6, a6, c6, L2, a2, cap2, L5, a5, _, cap5, _, by omega, by rw [HSN2.out], by rw [HSN2.out], rfl, by rw [HS1.out], by rw [Int.natCast_add]; rfl, S7, HMM.out⟩
                        case measure => simp [natT, Act.put]; omega
              · obtain rfl : j = 2 := by omega
                have hvb := (HBD.out 2).1
                have han : an ≤ 16 := by have h1 := (HBD.out 2).2; have h2 := S.oa.lens; omega
                have HBOTH := Lib.hid (show both l = (mdS l 2, mdA l 2) by rw [mdS_two, mdA_two])
                have hmem := (HI.out.step (by rw [← HLL.out, HLN.out]; exact h2)).mem (both l) (by simp [hstep, HLL.out])
                rw [HBOTH.out, HL.out] at hmem
                have HMEM := Lib.hid hmem
                have hl2 := S.oa.lens
                have HL2 := Lib.hid (show (hst xs (t + 1)).l = mdL l 2 ++ [(mdS l 2, mdA l 2)] by
                  show rest2 (hst xs t).l ++ [both (hst xs t).l] = _
                  rw [← HLL.out, HBOTH.out]; rfl)
                have HD2 := Lib.hid (show (hst xs (t + 1)).d = bumpN (hst xs t).d (mdA l 2) an by
                  show bumpN (hst xs t).d (both (hst xs t).l).2 (both (hst xs t).l).2.length = _
                  rw [← HLL.out, HBOTH.out, ← hl2])
                obtain ⟨zs, hzs⟩ : ∃ zs, zs = mdA l 2 := ⟨_, rfl⟩
                obtain ⟨v, hv⟩ : ∃ v, v = mdS l 2 := ⟨_, rfl⟩
                rw [← hzs] at S HMEM hl2 HL2 HD2
                rw [← hv] at hvb HL2 ⊢
                have HZL := Lib.hid hl2
                clear hmem hzs hv HBOTH hl2
                have hkt : (k : Int) * (t : Int) ≤ 64 := by
                  have h : k * t ≤ 8 * 8 := Nat.mul_le_mul hn8 (by omega)
                  rw [← Int.natCast_mul]; omega
                have hkt0 : (0 : Int) ≤ (k : Int) * (t : Int) := by rw [← Int.natCast_mul]; omega
                have HDB := Lib.hid (fun j => bumpN_range (d := (hst xs t).d) (ms := zs) (B := (k : Int) * (t : Int)) (fun v hv => by have := HI.out.db v hv; rw [HL.out] at this; exact this) hkt0 j)
                have HDL := Lib.hid (show (hst xs t).d.length = k by rw [HI.out.dl, HL.out])
                have HKT := Lib.hid hkt
                clear hkt hkt0
                go_wp2_with fail
                go_loopw [93] (fun i wx => ∃ y : Nat, y ≤ an ∧ i = .int .i64 (y : Int) ∧ MDS w wx D k (bumpN (hst xs t).d zs y) Ls sa (ln - 2) sc Lm ma (ln - 2) mc La aa an ac (vals (mdL l 2)) zs ms) (fun i _ => an - natT i)
                case atStart => exact ⟨0, by omega, rfl, S⟩
                case round =>
                  clear S
                  obtain ⟨y, hy, rfl, S⟩ := hrel
                  by_cases hya : y < an
                  · have hm := HMEM.out (nth zs y) (by rw [nth_eq (by rw [HZL.out]; exact hya)]; exact List.getElem_mem _)
                    obtain ⟨i, hi⟩ : ∃ i : Nat, nth zs y = (i : Int) := ⟨(nth zs y).toNat, by omega⟩
                    have hik : i < k := by omega
                    obtain ⟨bm, om, hoa, hbm, hcm⟩ := S.oa.rd.int (by omega)
                    subst hoa
                    have c1 := hcm y hya
                    rw [hi] at c1
                    obtain ⟨D', eD, _, _, hcd, hfd⟩ := S.od.int (by omega)
                    have eD' := List.head_eq_of_cons_eq eD
                    subst eD'
                    have c2 := hcd i hik
                    have c3 := hfd i
                    have hbd := HDB.out y (nth (bumpN (hst xs t).d zs y) i) (by rw [nth_eq (by rw [bumpN_len, HDL.out]; exact hik)]; exact List.getElem_mem _)
                    have hbv : 0 ≤ nth (bumpN (hst xs t).d zs y) i ∧ nth (bumpN (hst xs t).d zs y) i ≤ 100 := by have := HKT.out; omega
                    have HBS := Lib.hid (show bumpN (hst xs t).d zs (y + 1) = (bumpN (hst xs t).d zs y).set i (nth (bumpN (hst xs t).d zs y) i + 1) by rw [bumpN, hi, Int.toNat_natCast])
                    have how2 := S.od.set i (.int .i64 (nth (bumpN (hst xs t).d zs y) i + 1))
                    rw [ints_set, ← HBS.out] at how2
                    have S2 := S.bump (Keeps.setCell _ _ _ _) hwD how2
                    clear hbd hcd hfd hcm eD hi hm S how2
                    go_wp2_with fail
                    go_roundw
                    case rel => exact ⟨y + 1, by omega, by rw [Int.natCast_add]; rfl, S2⟩
                    case measure => simp [natT]; omega
                  · obtain rfl : y = an := by omega
                    have hln8 : ln ≤ 8 := by omega
                    go_wp2_with (first | ((with_reducible show wpList _ _ _ (⟨some 107, _, _, _, _, _⟩ :: _) _ _); refine wpList_app _ rfl _ _ 22 rfl 3 Try.underlying22 infoInt rfl rfl rfl (S.os.alloc _) (Rd.one _ _ _) (one_int v) (by omega) (by unfold maxLen; omega) ?_; intro a5 cap5 L5 w5 ow5 kp5 st5; rw [ints_snoc] at ow5; have S1 := S.pushS ((Keeps.alloc Ls _ _).trans kp5 (Step.refl _ _)) (Step.pre st5 (by simp)) ow5; have hsz5 := S1.b.size) | ((with_reducible show wpList _ _ _ (⟨some 111, _, _, _, _, _⟩ :: _) _ _); refine wpList_app _ rfl _ _ 23 rfl 22 Try.underlying23 infoSl rfl rfl rfl (S1.om.alloc _) (Rd.one _ _ _) (one_slice _ _ _) (by omega) (by unfold maxLen; omega) ?_; intro a6 cap6 L6 w6 ow6 kp6 st6))
                    have ow7 : Ow w6 22 L6 a6 (ln - 2 + 1) cap6 (mv (ms ++ [((v, ⟨La, aa, y, ac, zs⟩) : RC)])) := by unfold mv at ow6 ⊢; rw [List.map_append]; exact ow6
                    obtain ⟨f1, f2, f3, f4, f5, f6, f7⟩ := S1.pushM ((Keeps.alloc Lm _ _).trans kp6 (Step.refl _ _)) (Step.pre st6 (by simp)) ow7
                    have f8 := S1.nS
                    have f9 := S1.dS
                    have HVL := Lib.hid (show vals (mdL l 2) ++ [v] = vals (hst xs (t + 1)).l by rw [HL2.out]; unfold vals; rw [List.map_append]; rfl)
                    have HRL := Lib.hid (show (ms ++ [((v, ⟨La, aa, y, ac, zs⟩) : RC)]).map rnOf = (hst xs (t + 1)).l by rw [HL2.out, List.map_append, HMS.out]; rfl)
                    rw [HVL.out] at f1
                    rw [← HD2.out] at f2
                    clear S S1 ow5 ow6 kp5 kp6 st5 st6
                    go_roundw
                    case rel => exact ⟨t + 1, ln - 2 + 1, L5, a5, cap5, L6, a6, cap6, _, rfl, rfl, by omega, .inl (by omega), f1, ow7, f2, f8, f3, f9, f4, f5, f6, HRL.out, f7⟩
                    case measure => simp [lenR3]; omega
          · have ht1 : t = k - 1 := by omega
            subst ht1
            have HDD := Lib.hid (show hufD xs = (hst xs (k - 1)).d by unfold hufD; rw [HL.out])
            have h3 : ¬ (1 : Int) < (ln : Int) := by omega
            go_wp2_with fail
            go_ret
            exact ⟨some ⟨D, 0, none⟩, k, k, rfl, by rw [HV.out, HDD.out]; exact hoD.rd, by omega, hb⟩

end Go.Proofs.Ythlmopndmaemnaa

/- append within the capacity. -/
import Derived.Test.YtaffokicnabkiaaHelp
namespace Go.Proofs.Ytaffokicnabkiaa
open Go.RowKit

theorem run_appRoom {P : Program} {w : World} (t ty T : TypeId) {z : Value} {bytes : Nat} (ht : P.underlying t = some (.slice T)) (hinfo : (P.info? T).map (fun i => (i.zero, i.size, i.bytes)) = some (some z, 1, bytes))
    {L : List Nat} {a : Option Addr} {n cap : Nat} {vs : List Value} (own : Ow w T L a n cap vs) {xa : Option Addr} {m xcap : Nat} {news : List Value} (src : Rd w xa m xcap news) (h1 : ∀ u ∈ news, u.oneCell' = true) (hroom : n + m ≤ cap) :
    ∃ w', (Builtin.append_ #[t, t] ty #[.slice a n cap, .slice xa m xcap]).run P w = .ok (.slice a (n + m) cap) w' ∧ Ow w' T L a (n + m) cap (vs ++ news) ∧ Keeps L w w' := by
  obtain ⟨i, hi, hz, hsize, hby⟩ := info_parts hinfo
  by_cases hm : m = 0
  · subst hm
    obtain rfl : news = [] := List.eq_nil_of_length_eq_zero src.len
    have hf := firstCells_rd P src
    refine ⟨w, ?_, by simpa using own, Keeps.refl _ _⟩
    have hle := own.le
    cases a <;> simp [Builtin.append_, run_underlying ht, sizeOf, typeInfo, hi, Builtin.lenOf, hsize, hf, hle, storeCells]
  · obtain ⟨xb, xo, rfl, hxb, hxc⟩ := src.at' (by omega)
    have hnews : ∀ j u, news[j]? = some u → w.cell? ((⟨xb, xo, none⟩ : Addr).add j) = some u := fun j v hv => by
      have hj : j < m := by rw [← src.len]; exact (List.getElem?_eq_some_iff.1 hv).1
      rw [Addr.add_lit, hxc j hj, hv]
    rcases own.2.2.2 with ⟨_, h0⟩ | ⟨g, cur, rfl, rfl, hg, hs, htk⟩
    · omega
    · have hr := run_append_room (P := P) w t ty T i ht hi g n cap cur hg ⟨xb, xo, none⟩ m xcap news (by rw [src.len, hsize, Nat.mul_one]) hnews h1 hroom (by rw [hsize, src.len]; omega)
      rw [hsize, Nat.mul_one] at hr
      refine ⟨_, hr, ⟨by rw [List.length_append, own.1, src.len], hroom, own.2.2.1, .inr ⟨g, _, rfl, rfl, setRow_heap w g cur _ T _ hg, ?_, ?_⟩⟩, Keeps.setRow _ _ _⟩
      · have h2 := src.len
        simp only [List.size_toArray, List.length_append, List.length_take, List.length_drop, Array.length_toList]
        omega
      · rw [htk]
        exact List.take_left' (by rw [List.length_append, own.1, src.len])


end Go.Proofs.Ytaffokicnabkiaa

/- Turning round the head of a list: the program's and the reference's. No condition but lengths. -/
import Derived.Test.YtaffokicnabkiaaTurn
import Derived.Test.YtaffokicnabkiaaRoom
namespace Go.Proofs.Ytaffokicnabkiaa
open Go.RowKit
set_option linter.unusedVariables false
set_option linter.unusedSimpArgs false

/-- append as one step of a region that draws its order. -/
theorem step_appG {P : Program} {ops : Array Oper} {o : Oper} {a : Act} {w : World} {K : Act → World → Prop} {Q : Exit → Act → World → Prop} {E : Prop}
    (hg : o.guard = none) (s x : Operand) (t : TypeId) (hop : o.op = Op.call { callee := Callee.builtin Builtin.append, args := #[s, x], argTypes := #[t, t] })
    (T : TypeId) {z : Value} {bytes : Nat} (ht : P.underlying t = some (.slice T)) (hinfo : (P.info? T).map (fun i => (i.zero, i.size, i.bytes)) = some (some z, 1, bytes)) (hz1 : z.cells.size = 1)
    {L : List Nat} {sa : Option Addr} {n cap : Nat} {vs : List Value} {xa : Option Addr} {m xcap : Nat} {news : List Value} (hs : a.eval s = .slice sa n cap) (hx : a.eval x = .slice xa m xcap)
    (own : Ow w T L sa n cap vs) (src : Rd w xa m xcap news) (h1 : ∀ u ∈ news, u.oneCell' = true) (hb : (n + m) * bytes ≤ 140737488355328) (h63 : n + m ≤ maxLen)
    (hK : ∀ a' cap' L' w', (n + m ≤ cap → cap' = cap) → Ow w' T L' a' (n + m) cap' (vs ++ news) → Keeps L w w' → Step w L L' → K (a.put o.dst (.slice a' (n + m) cap')) w') :
    if Region.wanted o (yielded ops a.tmps) = true then Oper.wp P o a w K Q else E := by
  have hw : Region.wanted o (yielded ops a.tmps) = true := by simp [Region.wanted, hg]
  rw [if_pos hw]
  by_cases hroom : n + m ≤ cap
  · obtain ⟨w', hrun, r1, r2⟩ := run_appRoom (P := P) t o.type T ht hinfo own src h1 hroom
    unfold Oper.wp
    simp [execOp, hop, resolve, invoke, builtin, hs, hx, hrun, Result.andThen]
    exact hK sa cap L w' (fun _ => rfl) r1 r2 (Step.refl _ _)
  · obtain ⟨a', cap', L', w', hrun, r1, r2, r3⟩ := run_app (P := P) t o.type T ht hinfo hz1 own src h1 hb h63
    unfold Oper.wp
    simp [execOp, hop, resolve, invoke, builtin, hs, hx, hrun, Result.andThen]
    exact hK a' cap' L' w' (fun h => absurd h hroom) r1 r2 r3

/-- wpList_app, and what room tells of the capacity. -/
theorem wpList_appR {P : Program} (w : World) {ops : Array Oper} {rest : List Oper} {o : Oper} {act : Act} {Q : Exit → Act → World → Prop} (hgd : o.guard = none) (s x : Operand) (t : TypeId)
    (ho : o.op = .call { callee := .builtin .append, args := #[s, x], argTypes := #[t, t] })
    (T : TypeId) {z : Value} {bytes : Nat} (ht : P.underlying t = some (.slice T)) (hinfo : (P.info? T).map (fun i => (i.zero, i.size, i.bytes)) = some (some z, 1, bytes)) (hz1 : z.cells.size = 1)
    {L : List Nat} {a : Option Addr} {n cap : Nat} {vs : List Value} {xa : Option Addr} {m xcap : Nat} {news : List Value} (hs : act.eval s = .slice a n cap) (hx : act.eval x = .slice xa m xcap)
    (own : Ow w T L a n cap vs) (src : Rd w xa m xcap news) (h1 : ∀ u ∈ news, u.oneCell' = true) (hb : (n + m) * bytes ≤ 140737488355328) (h63 : n + m ≤ maxLen)
    (h : ∀ a' cap' L' w', (n + m ≤ cap → cap' = cap) → Ow w' T L' a' (n + m) cap' (vs ++ news) → Keeps L w w' → Step w L L' → wpList P ops Q rest (act.put o.dst (.slice a' (n + m) cap')) w') : wpList P ops Q (o :: rest) act w := by
  refine wpList_plain hgd fun K hK' => ?_
  by_cases hroom : n + m ≤ cap
  · obtain ⟨w', hrun, r1, r2⟩ := run_appRoom (P := P) t o.type T ht hinfo own src h1 hroom
    unfold Oper.wp
    simp [execOp, ho, resolve, invoke, builtin, hs, hx, hrun, Result.andThen]
    exact hK' _ _ (h a cap L w' (fun _ => rfl) r1 r2 (Step.refl _ _))
  · obtain ⟨a', cap', L', w', hrun, r1, r2, r3⟩ := run_app (P := P) t o.type T ht hinfo hz1 own src h1 hb h63
    unfold Oper.wp
    simp [execOp, ho, resolve, invoke, builtin, hs, hx, hrun, Result.andThen]
    exact hK' _ _ (h a' cap' L' w' (fun h => absurd h hroom) r1 r2 r3)















































































































end Go.Proofs.Ytaffokicnabkiaa

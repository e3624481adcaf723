/- A drawn region with guarded operations: the guard told from what an earlier operation yielded. -/
import Derived.Test.YtoafljgcmloilaaDoorKit
namespace Go.Proofs.YtoafljgcmloilaaDoor
open Go.RowKit
namespace Kit
/-- The rest of a drawn region's walk. A structure, so that nothing unfolds it unasked. -/
structure Dq (P : Program) (ops : Array Oper) (w : World) (Q : Act → Prop) (l : List Oper) (a : Act) : Prop where
  out : wpQuiet P ops (Cls w) Q l a
section
variable {P : Program} {ops : Array Oper} {w : World} {Q : Act → Prop} {a : Act} {o : Oper} {rest : List Oper}
theorem d_region {id : Nat} {Q : Exit → Act → World → Prop} {l : List Oper} (hm : P.follows .mixedOrders = true) (hB : Region.lexB .any l.toArray = true)
    (h : Dq P l.toArray w (fun a' => ∀ w', Below w.heap.size w w' → Q .normal a' w') l a) : (Code.region id l.toArray true).wp P Q a w :=
  region_below hm hB h.out
theorem d_nil (h : Q a) : Dq P ops w Q [] a := ⟨wpQuiet_nil h⟩
theorem d_plain (hg : o.guard = none)
    (hq : ∃ v : Value, (∀ w', (∀ b o, b < w.heap.size → w'.cell? ⟨b, o, none⟩ = w.cell? ⟨b, o, none⟩) → Cls w w' → Oper.quietUpon P (Cls w) w' v ((execOp a.eval o).run P w')) ∧
      Dq P ops w Q rest (a.put o.dst v)) : Dq P ops w Q (o :: rest) a :=
  ⟨q_step (by unfold Region.wanted; rw [hg]) (hq.elim fun v h => ⟨v, h.1, h.2.out⟩)⟩
theorem d_on {j : Nat} {b c : Bool} (hg : o.guard = some (j, b)) (hy : yielded ops a.tmps j = some c) (hc : c = b)
    (hq : ∃ v : Value, (∀ w', (∀ b o, b < w.heap.size → w'.cell? ⟨b, o, none⟩ = w.cell? ⟨b, o, none⟩) → Cls w w' → Oper.quietUpon P (Cls w) w' v ((execOp a.eval o).run P w')) ∧
      Dq P ops w Q rest (a.put o.dst v)) : Dq P ops w Q (o :: rest) a :=
  ⟨q_step (by unfold Region.wanted; rw [hg]; simp [hy, hc]) (hq.elim fun v h => ⟨v, h.1, h.2.out⟩)⟩
theorem d_off {j : Nat} {b c : Bool} (hg : o.guard = some (j, b)) (hy : yielded ops a.tmps j = some c) (hc : c = !b)
    (h : Dq P ops w Q rest (a.put o.dst undef)) : Dq P ops w Q (o :: rest) a :=
  ⟨q_skip (by unfold Region.wanted; rw [hg]; simp [hy, hc]) h.out⟩
/-- The guard's own operation was skipped: so is this one. -/
theorem d_void {j : Nat} {b : Bool} (hg : o.guard = some (j, b)) (hy : yielded ops a.tmps j = none)
    (h : Dq P ops w Q rest (a.put o.dst undef)) : Dq P ops w Q (o :: rest) a :=
  ⟨q_skip (by unfold Region.wanted; rw [hg]; simp [hy]) h.out⟩
end
end Kit
end Go.Proofs.YtoafljgcmloilaaDoor

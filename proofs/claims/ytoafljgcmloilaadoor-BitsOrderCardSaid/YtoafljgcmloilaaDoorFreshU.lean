/- Small laws for the use of fresh_region: blocks of two, four and six numbers. -/
import Derived.Test.YtoafljgcmloilaaDoorFresh
import Derived.Laws.Rows
namespace Go.Proofs.YtoafljgcmloilaaDoor
open Go.RowKit
namespace Kit
theorem q2_value {P : Program} {w : World} {v : Value} : quiet2 P w v (.ok (.value v) w) := ⟨rfl, rfl⟩
theorem q2_skip {P : Program} {w : World} : quiet2 P w undef (.ok .skip w) := ⟨rfl, rfl⟩
theorem q2_enter {P : Program} {w : World} {v : Value} {f : FuncId} {args : Array Value} (h : Calls P f args w fun e w3 => e = .returned v ∧ Below w.heap.size w w3) : quiet2 P w v (.ok (.enter f args) w) := ⟨rfl, h⟩
theorem only_refl (b : Nat) (w : World) : OnlyB b w w := ⟨rfl, rfl, rfl, rfl, fun _ _ => rfl⟩
theorem only_set {b : Nat} {w w' : World} (h : OnlyB b w w') (i : Nat) (u : Value) : OnlyB b w (w'.setCell ⟨b, i, none⟩ u) :=
  ⟨h.1, h.2.1, h.2.2.1, by rw [← h.2.2.2.1]; simp [World.setCell], fun c hc => (Below.heap_setCell w' ⟨b, i, none⟩ u c hc).trans (h.2.2.2.2 c hc)⟩
theorem blk_set {w : World} {b : Nat} {t : TypeId} {cs : Array Value} (h : w.heap[b]? = some (.cells cs t (0, 0))) (i : Nat) (u : Value) : (w.setCell ⟨b, i, none⟩ u).heap[b]? = some (.cells (cs.setIfInBounds i u) t (0, 0)) := by
  simp [World.setCell, Array.getElem?_modify, h]
theorem blk_cell {w : World} {b : Nat} {t : TypeId} {cs : Array Value} (h : w.heap[b]? = some (.cells cs t (0, 0))) (i : Nat) : w.cell? ⟨b, i, none⟩ = cs[i]? := cell_of_row w b i cs t (0, 0) h
theorem blk_free {w : World} {b : Nat} {t : TypeId} {cs : Array Value} (h : w.heap[b]? = some (.cells cs t (0, 0))) (i : Nat) : w.frozen? ⟨b, i, none⟩ = false := by simp [World.frozen?, h]
theorem blk_b2 {w : World} {b : Nat} {t : TypeId} {x y : Int} (h : w.heap[b]? = some (.cells #[.int .i64 x, .int .i64 y] t (0, 0))) : B2 w b x y :=
  ⟨⟨blk_cell h 0, blk_cell h 1⟩, blk_free h 0, blk_free h 1⟩
theorem made_ne {is : List Info} {w w' : World} {β : Nat → Nat} (M : Made is w w' β) (i j : Nat) {d d' : Tmp} {T T' : TypeId} {z z' : Array Value} (hi : is[i]? = some (.al d T z)) (hj : is[j]? = some (.al d' T' z')) (h : i ≠ j) : β i ≠ β j :=
  fun e => h (M.inj i j d T z d' T' z' hi hj e)
end Kit
end Go.Proofs.YtoafljgcmloilaaDoor

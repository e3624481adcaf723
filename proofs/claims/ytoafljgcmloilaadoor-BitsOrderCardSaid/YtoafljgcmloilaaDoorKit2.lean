/- More small laws for walks. -/
import Derived.Test.YtoafljgcmloilaaDoorDraw
import Derived.BigRegion
import Derived.Deep.RegionWith
namespace Go.Proofs.YtoafljgcmloilaaDoor
open Go.RowKit
namespace Kit
theorem new_ne {w : World} {b off : Nat} {u : Value} (h : w.cell? ⟨b, off, none⟩ = some u) : ¬ w.heap.size = b ∧ ¬ b = w.heap.size ∧ b < w.heap.size := by
  have := lt_of_cell h
  have h' : b < w.heap.size := this
  omega
theorem cls {w w' : World} (h : Cls w w') : Below w.heap.size w w' := h
/-- A piece of code whose ways come to one end: what is known there. -/
def Ends (F : Act → World → Prop) : Exit → Act → World → Prop
  | .normal, a, w => F a w
  | _, _, _ => False
theorem cut_region {P : Program} {c : Code} {Q : Exit → Act → World → Prop} {a : Act} {w : World} (F : Act → Act → World → Prop) (h : c.wp P (Ends (F a)) a w) (k : ∀ a' w', F a a' w' → Q .normal a' w') : c.wp P Q a w :=
  wp_mono h (by intro e a' w' h; cases e <;> first | exact k a' w' h | exact h.elim)
def puts (a : Act) : List (Nat × Value) → Act
  | [] => a
  | (d, v) :: l => puts (a.put (some d) v) l
theorem b2_pairA (w : World) (ty : TypeId) (x y x' y' : Int) : B2 ((w.alloc (.cells #[.int .i64 x, .int .i64 y] ty)).alloc (.cells #[.int .i64 x', .int .i64 y'] ty)) w.heap.size x y := b2_alloc _ (b2_new w ty x y)
end Kit
end Go.Proofs.YtoafljgcmloilaaDoor

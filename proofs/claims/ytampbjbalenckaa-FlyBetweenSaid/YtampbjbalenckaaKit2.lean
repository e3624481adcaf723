/- More small laws for walks. -/
import Derived.Test.YtampbjbalenckaaDraw
import Derived.BigRegion
namespace Go.Proofs.Ytampbjbalenckaa
open Go.RowKit
namespace Kit
theorem new_ne {w : World} {b off : Nat} {u : Value} (h : w.cell? ⟨b, off, none⟩ = some u) : ¬ w.heap.size = b ∧ ¬ b = w.heap.size ∧ b < w.heap.size := by
  have := lt_of_cell h
  have h' : b < w.heap.size := this
  omega
end Kit
end Go.Proofs.Ytampbjbalenckaa

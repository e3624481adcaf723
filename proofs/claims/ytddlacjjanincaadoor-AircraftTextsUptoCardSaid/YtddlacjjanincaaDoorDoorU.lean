/- What the texts of types have of their row. -/
import Derived.Test.YtddlacjjanincaaDoorDoorT
import Derived.Test.YtddlacjjanincaaDoorVarA
namespace Go.Proofs.YtddlacjjanincaaDoor
open Go.ChangeShapes Go.WideShapes Go.RowKit Go.Shelf
namespace DoorU
theorem vars_of {W : World} (h : laidMetH Tryd.prog DoorT.laid W ∧ W.ShapedOpen Tryd.prog) : Ac.VarsA W := by
  have h' : laidMet Tryd.prog DoorT.laid W := h.1
  have hT : laidMet Tryd.prog (("internal/strconv.uint64pow10", Lib.tabData .u64 Lib.pow10Tab) :: _) W := h'.tail.tail
  have hW : laidMet Tryd.prog (("skyway/aircraft.wakes", .agg (Ac.wkL.map fun s => .lit (.string s))) :: _) W := h'.tail.tail.tail.tail.tail.tail
  exact ⟨Lib.tabIs_of_head (g := 1) (by kernel_rfl) (t := 112) (by kernel_rfl) Tryd.underlying112 Tryd.underlying92 (by kernel_rfl) (by kernel_rfl) hT,
    fun q hq => Ac.strs_of_head (g := 0) (by kernel_rfl) (t := 54) (by kernel_rfl) Tryd.underlying54 Tryd.underlying9 (by kernel_rfl) (by kernel_rfl) hW q hq⟩
end DoorU
end Go.Proofs.YtddlacjjanincaaDoor

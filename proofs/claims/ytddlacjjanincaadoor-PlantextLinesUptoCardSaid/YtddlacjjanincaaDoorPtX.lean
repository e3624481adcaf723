/- plantext: the fixed example, plain. -/
import Derived.Test.YtddlacjjanincaaDoorPtL
namespace Go.Proofs.YtddlacjjanincaaDoor
open Go.RowKit
namespace Pt
open Kit Chart Route Plan Name
abbrev fR : List ByteArray := [⟨#[85, 76, 49]⟩, ⟨#[67]⟩]
abbrev fT : ByteArray := ⟨#[66, 65, 49, 50, 32, 65, 51, 50, 48, 32, 65, 32, 68, 32, 49, 48, 48, 32, 49, 48, 48, 32, 49, 48, 48, 48, 32, 85, 76, 49, 32, 67]⟩
theorem fl_ok : PlOk ⟨#[66, 65, 49, 50]⟩ ⟨#[65, 51, 50, 48]⟩ ⟨#[65]⟩ ⟨#[68]⟩ 100 100 1000 fR := ⟨by decide, by decide, by decide, by decide, by decide, by decide⟩
theorem fl_text : ptext ⟨#[66, 65, 49, 50]⟩ ⟨#[65, 51, 50, 48]⟩ ⟨#[65]⟩ ⟨#[68]⟩ 100 100 1000 fR = fT := by
  refine ba_eq ?_
  first | kernel_rfl | rfl | (simp [ptext, fld, txt, fR, fT, Lib.itoa]; done)
end Pt
end Go.Proofs.YtddlacjjanincaaDoor

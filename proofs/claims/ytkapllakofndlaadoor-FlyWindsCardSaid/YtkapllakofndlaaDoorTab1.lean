/- The table of angle.Sin, part 1: by the kernel. -/
import Derived.Test.YtkapllakofndlaaDoorTab
namespace Go.Proofs.YtkapllakofndlaaDoor
namespace Ang
set_option maxRecDepth 1000000 in
theorem tab1 : chkN 512 512 = true := by decide +kernel
end Ang
end Go.Proofs.YtkapllakofndlaaDoor

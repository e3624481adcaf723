/- The table of angle.Sin, part 0: by the kernel. -/
import Derived.Test.YtkapllakofndlaaDoorTab
namespace Go.Proofs.YtkapllakofndlaaDoor
namespace Ang
set_option maxRecDepth 1000000 in
theorem tab0 : chkN 0 512 = true := by decide +kernel
end Ang
end Go.Proofs.YtkapllakofndlaaDoor

/- Tab5. -/
import Derived.Test.YtmkglhoahdlogaaGreatDoorTab
namespace Go.Proofs.YtmkglhoahdlogaaGreatDoor
namespace Ang
set_option maxRecDepth 1000000 in
theorem tab5 : chkN 2560 512 = true := by decide +kernel
end Ang
end Go.Proofs.YtmkglhoahdlogaaGreatDoor

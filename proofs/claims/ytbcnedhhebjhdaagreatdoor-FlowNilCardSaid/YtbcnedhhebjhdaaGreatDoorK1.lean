/-
  known, its first piece: run by the kernel. No condition.
-/
import Derived.Test.YtbcnedhhebjhdaaGreatDoorK0

/-
  The first piece of known, run by the kernel.
-/
namespace Go.Proofs.YtbcnedhhebjhdaaGreatDoor.Fa
set_option maxRecDepth 1000000
theorem piece1 : chkN (xSeqs E0 68 255 (cxOf (run E0 98) 9 68 255) (cutS 5 (bodyOf 9)).1 .nil (rowsSt rows0)) fl1 hl1 5060 = true := by kernel_rfl
end Go.Proofs.YtbcnedhhebjhdaaGreatDoor.Fa

/-
  known, its second piece: run by the kernel. No condition.
-/
import Derived.Test.YtbcnedhhebjhdaaGreatDoorK0

/-
  The second piece of known, run by the kernel.
-/
namespace Go.Proofs.YtbcnedhhebjhdaaGreatDoor.Fa
set_option maxRecDepth 1000000
theorem piece2 : chkN (xSeqs E0 68 255 (cxOf (run E0 98) 9 68 255) (cutS 4 (cutS 5 (bodyOf 9)).2).1 (ofL fl1) (stL hl1 5060)) fl2 hl2 11845 = true := by kernel_rfl
end Go.Proofs.YtbcnedhhebjhdaaGreatDoor.Fa

/-
  A piece of the run.
-/
import Derived.Test.YtglmnkoophfllaaGreatDoorDNS0
import Derived.Test.YtglmnkoophfllaaGreatDoorDNS1
import Derived.Test.YtglmnkoophfllaaGreatDoorProg
import Derived.KernelRfl
namespace Go.Proofs.YtglmnkoophfllaaGreatDoor.deskNil
open Go Go.AE
set_option maxRecDepth 100000 in
theorem piece3 (z : List UInt8) : iter Tryz.prog 12000 (S2 Tryz.prog z) = some (S3 Tryz.prog z) := by kernel_rfl
end Go.Proofs.YtglmnkoophfllaaGreatDoor.deskNil

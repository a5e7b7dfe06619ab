/-
  A piece of the run.
-/
import Derived.Test.YtglmnkoophfllaaGreatDoorDNS0
import Derived.Test.YtglmnkoophfllaaGreatDoorDNS1
import Derived.Test.YtglmnkoophfllaaGreatDoorProg
import Derived.KernelRfl
namespace Go.Proofs.YtglmnkoophfllaaGreatDoor.deskNil
open Go Go.AE
def good : Option (AV × AH) → Bool
  | some (.bool true, _) => true
  | _ => false
set_option maxRecDepth 100000 in
theorem piece5 (z : List UInt8) : good (arun Tryz.prog 3 20000 (S4 Tryz.prog z)) = true := by kernel_rfl
end Go.Proofs.YtglmnkoophfllaaGreatDoor.deskNil

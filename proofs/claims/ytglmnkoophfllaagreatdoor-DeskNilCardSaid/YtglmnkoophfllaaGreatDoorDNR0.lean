/-
  A piece of the run.
-/
import Derived.Test.YtglmnkoophfllaaGreatDoorDNS0
import Derived.Test.YtglmnkoophfllaaGreatDoorProg
import Derived.KernelRfl
namespace Go.Proofs.YtglmnkoophfllaaGreatDoor.deskNil
open Go Go.AE
/-- The abstract machine's memory at the start: the one variable that the road reads. -/
def H0 : AH := { t := T.set .leaf 1 (some (.cells [.int .u32 0, .int .u32 0] 146 false true 0)), next := 1000 }
def start (P : Program) (z : List UInt8) : Option AM := match aenter P 3 [.str z] .normal with
  | some fr => some ⟨fr, [], H0⟩
  | none => none
def first (P : Program) (z : List UInt8) : Option AM := match start P z with
  | some m => iter P 12000 m
  | none => none
set_option maxRecDepth 100000 in
theorem piece0 (z : List UInt8) : first Tryz.prog z = some (S0 Tryz.prog z) := by kernel_rfl
end Go.Proofs.YtglmnkoophfllaaGreatDoor.deskNil

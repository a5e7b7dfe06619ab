/-
  The tie's closed facts, one by one: the names.
-/
import Derived.Test.YtglmnkoophfllaaGreatDoorDNTie0
namespace Go.Proofs.YtglmnkoophfllaaGreatDoor.deskNil
open Go
theorem hn : varsNamedLaterB Tryz.prog (varsId Tryz.prog) laidL = true := by kernel_rfl
end Go.Proofs.YtglmnkoophfllaaGreatDoor.deskNil

/-
  The tie's closed facts, one by one: what the run lays.
-/
import Derived.Test.YtglmnkoophfllaaGreatDoorDNTie0
namespace Go.Proofs.YtglmnkoophfllaaGreatDoor.deskNil
open Go
theorem h1 : ∀ os tape, (DataW.laidRun Tryz.prog (varsWorld Tryz.prog 400 (varsId Tryz.prog) os tape).memory 8 (laidL.map (·.1))).map (·.1) = some laidL := fun _ _ => by kernel_rfl
end Go.Proofs.YtglmnkoophfllaaGreatDoor.deskNil

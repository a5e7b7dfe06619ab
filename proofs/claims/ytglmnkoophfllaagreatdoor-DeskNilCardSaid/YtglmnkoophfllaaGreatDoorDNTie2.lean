/-
  The tie's closed facts, one by one: the run ends.
-/
import Derived.Test.YtglmnkoophfllaaGreatDoorDNTie0
namespace Go.Proofs.YtglmnkoophfllaaGreatDoor.deskNil
open Go
theorem hd : ∀ os tape, varsDone Tryz.prog 400 (varsId Tryz.prog) os tape = true := fun _ _ => by kernel_rfl
end Go.Proofs.YtglmnkoophfllaaGreatDoor.deskNil

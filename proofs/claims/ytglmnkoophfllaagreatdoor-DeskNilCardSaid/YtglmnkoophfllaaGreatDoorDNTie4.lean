/-
  The tie's closed facts, one by one: the rows that the run lays.
-/
import Derived.Test.YtglmnkoophfllaaGreatDoorDNTie0
namespace Go.Proofs.YtglmnkoophfllaaGreatDoor.deskNil
open Go
theorem h2 : ∀ os tape, (DataW.laidRun Tryz.prog (varsWorld Tryz.prog 400 (varsId Tryz.prog) os tape).memory 8 (laidL.map (·.1))).map (fun x => decide x.2.Nodup && laidRowsB Tryz.prog (varsWorld Tryz.prog 400 (varsId Tryz.prog) os tape).memory x.2) = some true := fun _ _ => by kernel_rfl
end Go.Proofs.YtglmnkoophfllaaGreatDoor.deskNil

/-
  The row's closed facts, one by one (all in one declaration pass the limit of memory).
-/
import Derived.Test.YtglmnkoophfllaaGreatDoorRows
import Derived.JoinedOf
import Derived.KernelRfl
namespace Go.Proofs.YtglmnkoophfllaaGreatDoor.deskNil
open Go
set_option maxRecDepth 100000 in
theorem k12 : ((Rows.deskNilRow.named == Tryz.pinned.checked.prog.varsNamed 3)) = true := by kernel_rfl
end Go.Proofs.YtglmnkoophfllaaGreatDoor.deskNil

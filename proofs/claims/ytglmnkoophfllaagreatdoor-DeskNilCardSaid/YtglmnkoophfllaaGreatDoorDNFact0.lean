/-
  The row's closed facts, one by one (all in one declaration pass the limit of memory).
-/
import Derived.Test.YtglmnkoophfllaaGreatDoorRows
import Derived.JoinedOf
import Derived.KernelRfl
namespace Go.Proofs.YtglmnkoophfllaaGreatDoor.deskNil
open Go
set_option maxRecDepth 100000 in
theorem k0 : (Rows.deskNilRow.wf (OpenSpec.ofChange (OpenSpec.ofChange Rows.deskNilSpec).bare)) = true := by kernel_rfl
set_option maxRecDepth 100000 in
theorem k1 : (laidOutB Tryz.pinned.checked.prog) = true := by kernel_rfl
end Go.Proofs.YtglmnkoophfllaaGreatDoor.deskNil

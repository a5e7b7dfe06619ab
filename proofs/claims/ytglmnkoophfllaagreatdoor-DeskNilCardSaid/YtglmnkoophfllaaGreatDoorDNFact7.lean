/-
  The row's closed facts together.
-/
import Derived.Test.YtglmnkoophfllaaGreatDoorDNFact0
import Derived.Test.YtglmnkoophfllaaGreatDoorDNFact1
import Derived.Test.YtglmnkoophfllaaGreatDoorDNFact2
import Derived.Test.YtglmnkoophfllaaGreatDoorDNFact3
import Derived.Test.YtglmnkoophfllaaGreatDoorDNFact4
import Derived.Test.YtglmnkoophfllaaGreatDoorDNFact5
import Derived.Test.YtglmnkoophfllaaGreatDoorDNFact6
namespace Go.Proofs.YtglmnkoophfllaaGreatDoor.deskNil
open Go
set_option maxRecDepth 100000 in
theorem closed : joinedFacts Tryz.pinned.checked.prog 3 Tryz.f3 (OpenSpec.ofChange Rows.deskNilSpec).bare Rows.deskNilRow = true := by
  unfold joinedFacts
  simp only [k0, k1, k2, k3, k4, k5, k6, k7, k8, k9, k10, k11, k12, k13, k14, k15, k16, k17, k18, k19, k20, k21, k22, k23, k24, k25, k26, k27, k29, k30, k31, Bool.and_self]
  kernel_rfl
end Go.Proofs.YtglmnkoophfllaaGreatDoor.deskNil

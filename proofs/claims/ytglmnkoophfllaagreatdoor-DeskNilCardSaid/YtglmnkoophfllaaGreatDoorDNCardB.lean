/-
  DeskNil, the row: whatever the line, the law returns true and leaves the memory that was there as it was; the listed package-level variable reads as the row says.
-/
import Derived.Test.YtglmnkoophfllaaGreatDoorDNCardA
import Derived.Test.YtglmnkoophfllaaGreatDoorCards
import Derived.Test.YtglmnkoophfllaaGreatDoorDNFact7
import Derived.WalkKit
import Derived.ProofKit
import Derived.ChangeMaps5
import Derived.OpenShut
import Derived.Deep.DeepHandedRow
namespace Go.Proofs.YtglmnkoophfllaaGreatDoor.deskNil
open Go.ChangeShapes Go.WideShapes Go.ChangeAt Go.RowKit Go.AE


theorem sNamed : Tryz.pinned.checked.prog.funcNamed Rows.deskNilRow.func = some 3 := by kernel_rfl
theorem sInst : decide (Tryz.f3.isInstance Tryz.pinned.checked.prog Rows.deskNilRow.origin Rows.deskNilRow.targs) = true := by kernel_rfl
set_option maxRecDepth 100000 in
theorem sWrap : Tryz.f3.isWrapper Tryz.pinned.checked.prog Rows.deskNilRow.wrapper Rows.deskNilRow.mainSum := by
  unfold Func.isWrapper; first | (rw [if_pos (by decide +kernel)]; kernel_rfl) | (rw [if_neg (by decide +kernel)]; exact ⟨rfl, rfl⟩)
set_option maxRecDepth 100000 in
theorem said : Rows.DeskNilSaid :=
  OpenClaim.holds_of_cond 3 Tryz.f3 rfl rfl rfl rfl rfl rfl rfl ⟨rfl, rfl, rfl, rfl, rfl⟩ rfl rfl rfl rfl rfl sNamed Tryz.func3 closed
    (of_decide_eq_true sInst) sWrap
    (fun os started H enc _ F => by rw [OpenClaim.pre_eq_preRow]; exact lifted os started H enc F)
end Go.Proofs.YtglmnkoophfllaaGreatDoor.deskNil

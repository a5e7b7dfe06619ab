/-
  The abstract machine runs VMNil to its answer: whatever the number.
-/
import Derived.Test.YtbgjkiebnkaalaaGreatDoorAEDef
import Derived.Test.YtbgjkiebnkaalaaGreatDoorChecked
import Derived.KernelRfl
namespace Go.Proofs.YtbgjkiebnkaalaaGreatDoor.vMNil
open Go.AE

/-- The abstract machine's memory at the start: the one variable that the road reads. -/
def H0 : AH := { t := T.set .leaf 0 (some (.cells [.int .u32 0, .int .u32 0] 111 false true 0)), next := 1000 }
noncomputable def runs (n : Int) : Bool :=
  match aenter Tryz.prog 4 [.int .i64 n] .normal with
  | none => false
  | some fr => match arun Tryz.prog 4 10000 ⟨fr, [], H0⟩ with
    | some (.bool true, _) => true
    | _ => false
set_option maxRecDepth 100000 in
theorem ran (n : Int) : runs n = true := by kernel_rfl

end Go.Proofs.YtbgjkiebnkaalaaGreatDoor.vMNil

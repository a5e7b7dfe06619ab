/-
  DeskNil, the witness: whatever the line, the law returns true and leaves the memory that was there as it was; the listed package-level variable reads as the row says.
-/
import Derived.Test.YtglmnkoophfllaaGreatDoorDNWalk
import Derived.Test.YtglmnkoophfllaaGreatDoorCards
import Derived.Test.YtglmnkoophfllaaGreatDoorDNTie5
import Derived.WalkKit
import Derived.ProofKit
import Derived.ChangeMaps5
import Derived.OpenShut
import Derived.Deep.DeepHandedRow
namespace Go.Proofs.YtglmnkoophfllaaGreatDoor.deskNil
open Go.ChangeShapes Go.WideShapes Go.ChangeAt Go.RowKit Go.AE


def lay (cs : Array Value) : Obj → Obj
  | .cells _ t frozen => .cells cs t frozen
  | o => o
/-- A datum's cells. -/
def litV : Lit → Value
  | .int k n => .int k n
  | .string b => .string ⟨b.toArray⟩
  | .bool b => .bool b
  | _ => .nilIface
mutual
def cellsD : DataW Unit → List Value
  | .lit l => [litV l]
  | .agg ps => cellsDs ps
  | _ => []
def cellsDs : List (DataW Unit) → List Value
  | [] => []
  | d :: l => cellsD d ++ cellsDs l
end
def tab (d : DataW Unit) : Array Value := (cellsD d).toArray
/-- A world for the witness: the settled one, the variables holding what their initialisers lay. -/
noncomputable def laidWorld (os : Os) : World :=
  let w := World.holding Tryz.prog os ⟨#[], #[], []⟩
  let b := w.heap.size
  { w with heap := (((((((((w.heap.modify 1 (lay (tab Rows.laid_drowse_kern_none))).modify 3 (lay (tab Rows.laid_unicode_utf8_first))).modify 4 (lay (tab Rows.laid_unicode_utf8_acceptRanges))).modify 5 (lay (tab Rows.laid_internal_strconv_uint64pow10))).modify 8 (lay (tab Rows.laid_math_bits_deBruijn32tab))).modify 9 (lay (tab Rows.laid_math_bits_deBruijn64tab))).modify 6 (lay #[.iface 563 (.pointer (some ⟨b, 0, none⟩))])).modify 7 (lay #[.iface 563 (.pointer (some ⟨b + 1, 0, none⟩))])).push (.cells #[.string ⟨#[105, 110, 118, 97, 108, 105, 100, 32, 115, 121, 110, 116, 97, 120]⟩] 565 (0, 0))).push (.cells #[.string ⟨#[118, 97, 108, 117, 101, 32, 111, 117, 116, 32, 111, 102, 32, 114, 97, 110, 103, 101]⟩] 565 (0, 0)) }
theorem laid_met (os : Os) : laidMet Tryz.prog Rows.deskNilRow.laid ((laidWorld os).forCall (fun _ _ => 0) ⟨#[], #[.string ⟨#[]⟩], []⟩).memory :=
  laidMet_of_run' 8 (by kernel_rfl) (by kernel_rfl)
theorem reads (os : Os) {H : Type} (enc : TypeId × Value → H) : ∃ places, DataW.whole enc Tryz.prog ((laidWorld os).forCall (fun _ _ => 0) ⟨#[], #[.string ⟨#[]⟩], []⟩).memory Tryz.f3.params.toList Rows.deskNilSpec.vars false #[Value.string ⟨#[]⟩].toList 8 = some ([.lit (.string [])], [], places) :=
  ⟨[], by kernel_rfl⟩

theorem wNoInit : Tryz.checked.prog.inits.idxOf? 3 = none := by kernel_rfl
theorem wVars (os : Os) : ((laidWorld os).forCall (fun _ _ => 0) ⟨#[], #[.string ⟨#[]⟩], []⟩).variablesB Tryz.checked.prog = true := by kernel_rfl
theorem wRest (os : Os) : (((laidWorld os).forCall (fun _ _ => 0) ⟨#[], #[.string ⟨#[]⟩], []⟩).heap.toList.drop Tryz.checked.prog.globals.size).take ((begin Tryz.checked.prog (fun _ _ => 0) default).world.heap.size - Tryz.checked.prog.globals.size) =
      (begin Tryz.checked.prog (fun _ _ => 0) default).world.heap.toList.drop Tryz.checked.prog.globals.size := by kernel_rfl
theorem wOk (os : Os) : Input.okWideB Tryz.checked.prog ((laidWorld os).forCall (fun _ _ => 0) ⟨#[], #[.string ⟨#[]⟩], []⟩) 3 ⟨#[], #[.string ⟨#[]⟩], []⟩ = true := by kernel_rfl
set_option maxRecDepth 100000 in
theorem lifted (os : Os) (started : os.Started) (H : Type) (enc : TypeId × Value → H) (F : Stop.Interp) :
    ReturnsInHanded {} Tryz.checked os 3 .any ((OpenSpec.ofChange Rows.deskNilSpec).preRow enc Tryz.prog Tryz.f3 Rows.deskNilRow.domain false Rows.deskNilRow.laid) (((OpenSpec.ofChange Rows.deskNilSpec).at F).post enc Tryz.prog Tryz.f3 false true false false) := by
  obtain ⟨places, hx⟩ := reads os enc
  refine returnsInHanded_of_row (C := Tryz.checked) (s := OpenSpec.ofChange Rows.deskNilSpec) own started wNoInit Tryz.func3
    (witness_row_at (enc := enc) (C := Tryz.checked) false (laidWorld os) #[.string ⟨#[]⟩] rfl (wVars os) (wRest os) (wOk os)
      (OpenSpec.preRow_of_cond 8 hx (by kernel_rfl) (fun k hk => by cases hk) (by kernel_rfl) (laid_met os))) ?_
  intro W base args ds gs before hval hW _ _ _ hL hsh _
  exact contract H enc W base args ds gs before hval hW hL hsh

end Go.Proofs.YtglmnkoophfllaaGreatDoor.deskNil

/-
  DeskNil, the statement's card: whatever the line, the law returns true and leaves the memory that was there as it was; the listed package-level variable reads as the row says.
-/
import Derived.Test.YtglmnkoophfllaaGreatDoorDNCardB
import Derived.Test.YtglmnkoophfllaaGreatDoorCards
import Derived.Test.YtglmnkoophfllaaGreatDoorDNTie5
import Derived.WalkKit
import Derived.ProofKit
import Derived.ChangeMaps5
import Derived.OpenShut
import Derived.Deep.DeepHandedRow
namespace Go.Proofs.YtglmnkoophfllaaGreatDoor.deskNil
open Go.ChangeShapes Go.WideShapes Go.ChangeAt Go.RowKit Go.AE


theorem pNamed : Tryz.prog.funcNamed "drowse/drowselaw24.DeskNil" = some 3 := by kernel_rfl
theorem pLooks : true = Tryz.pinned.checked.prog.looks [] := by kernel_rfl
theorem pStand : Tryz.prog.wantsStandIn 9 = false := by kernel_rfl
theorem pWf : Rows.deskNilRow.wfByText (OpenSpec.ofChange Rows.deskNilSpec) = true := by kernel_rfl
theorem pMain : Tryz.pinned.checked.prog.mainIs = some (true, "5b5ff0f92a378461fd1b9ecba057ca1bfbe0cb358c7d1a6039cf8ab9baabde5a".toList) := by kernel_rfl
theorem pAll : Tryz.pinned.checked.prog.funcs.any Func.goes = false := by kernel_rfl
theorem goes_of {P : Program} {c : OpenClaim} {f : FuncId} (hst : c.start = .entering) (hn : P.funcNamed c.func = some f) (hall : P.funcs.any Func.goes = false) : false = c.goesBy P := by
  have h : ∀ g : Nat, (P.funcs[g]?).any Func.goes = false := fun g => by
    rw [Array.any_eq_false] at hall
    cases hg : P.funcs[g]? with
    | none => rfl
    | some fn =>
      obtain ⟨hlt, he⟩ := Array.getElem?_eq_some_iff.1 hg
      have := hall g hlt
      rw [he] at this
      simpa using this
  have hc : ((P.closure f).any fun g => (P.funcs[g]?).any Func.goes) = false := by
    rw [List.any_eq_false]
    intro g _
    simp [h g]
  unfold OpenClaim.goesBy Program.goesAt Program.goesFrom
  rw [hst, hn]
  simp [Program.goes, hc, hall]
theorem pGoes : false = Rows.deskNilRow.goesBy Tryz.pinned.checked.prog := goes_of rfl sNamed pAll

theorem plain (f : FuncId) (fn : Func) (hf : Tryz.pinned.checked.prog.funcNamed "drowse/drowselaw24.DeskNil" = some f) (hfn : Tryz.pinned.checked.prog.funcs[f]? = some fn) :
    true = Tryz.pinned.checked.prog.looks [] ∧ ∀ (j : Nat) t, fn.params[j]? = some t → Tryz.pinned.checked.prog.wantsStandIn t = false := by
  obtain rfl : f = 3 := Option.some.inj (pNamed.symm.trans hf) |>.symm
  obtain rfl : fn = Tryz.f3 := (Option.some.inj (Tryz.func3.symm.trans hfn)).symm
  refine ⟨pLooks, fun j t ht => ?_⟩
  rw [Tryz.params3] at ht
  obtain rfl : t = 9 := by simpa using Array.mem_of_getElem? ht
  exact pStand

end Go.Proofs.YtglmnkoophfllaaGreatDoor.deskNil
namespace Go.Proofs.YtglmnkoophfllaaGreatDoor
theorem deskNil_holds : Rows.DeskNilCardSaid :=
  Claim7.holds_tied_plain_at .later [] _ _ _ _ deskNil.said (fun _ h => by cases h) deskNil.pWf (fun _ h => by cases h) deskNil.rowTie rfl ⟨rfl, rfl⟩ deskNil.pMain rfl deskNil.plain deskNil.pGoes
#print axioms deskNil_holds
end Go.Proofs.YtglmnkoophfllaaGreatDoor

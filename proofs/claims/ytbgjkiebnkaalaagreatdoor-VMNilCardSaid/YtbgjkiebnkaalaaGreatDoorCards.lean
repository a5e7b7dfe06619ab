/-
  DERIVED. GIVEN WITH THE SEED: THE CARDS: each row of YtbgjkiebnkaalaaGreatDoorRows.lean that lists a variable, with what it lists TIED to the program's text (the seventh form; the later family's looks); each row that meets fmt, with fmt's text TOLD by the authors' own Lean function (tested against real Go, not proved from fmt's source: count such statements apart). THE CARD IS WHAT COUNTS. Prove the row's statement (the work); the ties are given (YtbgjkiebnkaalaaGreatDoorTie.lean); close each card by the builder's one call (the guide's Derived/Test/ToyasCard.lean, 'card_holds'). Laid BY PROGRAM, IN A SANDBOX (cutbox-door.mjs). By AI agents, Wed Nov 11 2026. No macro, syntax, notation, axiom, sorry.
-/
import Derived.Test.YtbgjkiebnkaalaaGreatDoorRows
import GoSem.ClaimSeven
namespace Go.Proofs.YtbgjkiebnkaalaaGreatDoor
namespace Rows

/-- THE TIED CARD OF 'drowselaw19.VMCounts'. -/
def vMCountsCard : Claim7 := { stood := { row := vMCountsRow, standIns := [], harness := (true, "dfe5f1aa4a34c94dcf7e73a97b8c4cc52e35469f2a082ace0f0be9a7fabcc43a"), looks := true }, kinds := [], alts := [], laidByText := true, laidKinds := [.data, .data, .data, .data], laidTests := true, laidLooks := .later }
def VMCountsCardSaid : Prop := Claim7.holds Tryz.pinned (.plain (OpenSpec.ofChange vMCountsSpec)) vMCountsCard

/-- THE TIED CARD OF 'drowselaw19.VMNil'. -/
def vMNilCard : Claim7 := { stood := { row := vMNilRow, standIns := [], harness := (true, "dfe5f1aa4a34c94dcf7e73a97b8c4cc52e35469f2a082ace0f0be9a7fabcc43a"), looks := true }, kinds := [], alts := [], laidByText := true, laidKinds := [.data, .data, .data, .data], laidTests := true, laidLooks := .later }
def VMNilCardSaid : Prop := Claim7.holds Tryz.pinned (.plain (OpenSpec.ofChange vMNilSpec)) vMNilCard

/-- THE SECOND FORM's CARD OF 'drowselaw19.VMCounts'. -/
def vMCountsUptoCard : Claim7 := { stood := { row := vMCountsUptoRow, standIns := [], harness := (true, "dfe5f1aa4a34c94dcf7e73a97b8c4cc52e35469f2a082ace0f0be9a7fabcc43a"), looks := true }, kinds := [], alts := [], laidByText := true, laidKinds := [.data, .data, .data, .data], laidTests := true, laidLooks := .later }
def VMCountsUptoCardSaid : Prop := Claim7.holds Tryz.pinned (.plain (OpenSpec.upto vMCountsSpec)) vMCountsUptoCard

/-- THE SECOND FORM's CARD OF 'drowselaw19.VMNil'. -/
def vMNilUptoCard : Claim7 := { stood := { row := vMNilUptoRow, standIns := [], harness := (true, "dfe5f1aa4a34c94dcf7e73a97b8c4cc52e35469f2a082ace0f0be9a7fabcc43a"), looks := true }, kinds := [], alts := [], laidByText := true, laidKinds := [.data, .data, .data, .data], laidTests := true, laidLooks := .later }
def VMNilUptoCardSaid : Prop := Claim7.holds Tryz.pinned (.plain (OpenSpec.upto vMNilSpec)) vMNilUptoCard
end Rows
end Go.Proofs.YtbgjkiebnkaalaaGreatDoor

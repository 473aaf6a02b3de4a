/-
  DERIVED. GIVEN WITH THE SEED: THE CARDS: each row of YtnbpkignkfabkaaGreatDoorRows.lean that lists a variable, with what it lists TIED to the program's text (the seventh form; the later family's looks); each row that meets fmt, with fmt's text TOLD by the authors' own Lean function (tested against real Go, not proved from fmt's source: count such statements apart). THE CARD IS WHAT COUNTS. Prove the row's statement (the work); the ties are given (YtnbpkignkfabkaaGreatDoorTie.lean); close each card by the builder's one call (the guide's Derived/Test/ToyasCard.lean, 'card_holds'). Laid BY PROGRAM, IN A SANDBOX (cutbox-door.mjs). By AI agents, Wed Nov 11 2026. No macro, syntax, notation, axiom, sorry.
-/
import Derived.Test.YtnbpkignkfabkaaGreatDoorRows
import GoSem.ClaimSeven
namespace Go.Proofs.YtnbpkignkfabkaaGreatDoor
namespace Rows

/-- THE TIED CARD OF 'posternlaw10.WalExact'. -/
def walExactCard : Claim7 := { stood := { row := walExactRow, standIns := [], harness := (true, "86ce6bd30a38aa21cff71b898ea3e5cd2c78b89a0313d524329f2dfe8022b7d5"), looks := false }, kinds := [], alts := [], laidByText := true, laidKinds := [.data, .data, .pinned], laidTests := true, laidLooks := .later }
def WalExactCardSaid : Prop := Claim7.holds Tryz.pinned (.plain (OpenSpec.ofChange walExactSpec)) walExactCard

/-- THE SECOND FORM's CARD OF 'posternlaw10.WalExact'. -/
def walExactUptoCard : Claim7 := { stood := { row := walExactUptoRow, standIns := [], harness := (true, "86ce6bd30a38aa21cff71b898ea3e5cd2c78b89a0313d524329f2dfe8022b7d5"), looks := false }, kinds := [], alts := [], laidByText := true, laidKinds := [.data, .data, .pinned], laidTests := true, laidLooks := .later }
def WalExactUptoCardSaid : Prop := Claim7.holds Tryz.pinned (.plain (OpenSpec.upto walExactSpec)) walExactUptoCard
end Rows
end Go.Proofs.YtnbpkignkfabkaaGreatDoor

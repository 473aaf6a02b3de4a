/-
  DERIVED. GIVEN WITH THE SEED: THE CARDS: each row of YtcmllfnhdodbdaaDoorRows.lean that lists a variable, with what it lists TIED to the program's text (the seventh form; the later family's looks); each row that meets fmt, with fmt's text TOLD by the authors' own Lean function (tested against real Go, not proved from fmt's source: count such statements apart). THE CARD IS WHAT COUNTS. Prove the row's statement (the work); the ties are given (YtcmllfnhdodbdaaDoorTie.lean); close each card by the builder's one call (the guide's Derived/Test/ToyasCard.lean, 'card_holds'). Laid BY PROGRAM, IN A SANDBOX (cutbox-door.mjs). By AI agents, Wed Nov 11 2026. No macro, syntax, notation, axiom, sorry.
-/
import Derived.Test.YtcmllfnhdodbdaaDoorRows
import GoSem.ClaimSeven
namespace Go.Proofs.YtcmllfnhdodbdaaDoor
namespace Rows

/-- THE TIED CARD OF 'posternlaw9.DiskGreat'. -/
def diskGreatCard : Claim7 := { stood := { row := diskGreatRow, standIns := [], harness := (true, "67fce2e4e385e02587fd1b8d50d2f8551d1ad00e4de29ba9889e43ddc242ca65"), looks := false }, kinds := [], alts := [], laidByText := true, laidKinds := [.data, .pinned], laidTests := true, laidLooks := .later }
def DiskGreatCardSaid : Prop := Claim7.holds Tryd.pinned (.plain (OpenSpec.ofChange diskGreatSpec)) diskGreatCard

/-- THE TIED CARD OF 'posternlaw9.DiskOrder'. -/
def diskOrderCard : Claim7 := { stood := { row := diskOrderRow, standIns := [], harness := (true, "67fce2e4e385e02587fd1b8d50d2f8551d1ad00e4de29ba9889e43ddc242ca65"), looks := false }, kinds := [], alts := [], laidByText := true, laidKinds := [.data, .pinned], laidTests := true, laidLooks := .later }
def DiskOrderCardSaid : Prop := Claim7.holds Tryd.pinned (.plain (OpenSpec.ofChange diskOrderSpec)) diskOrderCard

/-- THE TIED CARD OF 'posternlaw9.DiskMoves'. -/
def diskMovesCard : Claim7 := { stood := { row := diskMovesRow, standIns := [], harness := (true, "67fce2e4e385e02587fd1b8d50d2f8551d1ad00e4de29ba9889e43ddc242ca65"), looks := false }, kinds := [], alts := [], laidByText := true, laidKinds := [.data, .pinned], laidTests := true, laidLooks := .later }
def DiskMovesCardSaid : Prop := Claim7.holds Tryd.pinned (.plain (OpenSpec.ofChange diskMovesSpec)) diskMovesCard

/-- THE SECOND FORM's CARD OF 'posternlaw9.DiskGreat'. -/
def diskGreatUptoCard : Claim7 := { stood := { row := diskGreatUptoRow, standIns := [], harness := (true, "67fce2e4e385e02587fd1b8d50d2f8551d1ad00e4de29ba9889e43ddc242ca65"), looks := false }, kinds := [], alts := [], laidByText := true, laidKinds := [.data, .pinned], laidTests := true, laidLooks := .later }
def DiskGreatUptoCardSaid : Prop := Claim7.holds Tryd.pinned (.plain (OpenSpec.upto diskGreatSpec)) diskGreatUptoCard

/-- THE SECOND FORM's CARD OF 'posternlaw9.DiskOrder'. -/
def diskOrderUptoCard : Claim7 := { stood := { row := diskOrderUptoRow, standIns := [], harness := (true, "67fce2e4e385e02587fd1b8d50d2f8551d1ad00e4de29ba9889e43ddc242ca65"), looks := false }, kinds := [], alts := [], laidByText := true, laidKinds := [.data, .pinned], laidTests := true, laidLooks := .later }
def DiskOrderUptoCardSaid : Prop := Claim7.holds Tryd.pinned (.plain (OpenSpec.upto diskOrderSpec)) diskOrderUptoCard

/-- THE SECOND FORM's CARD OF 'posternlaw9.DiskMoves'. -/
def diskMovesUptoCard : Claim7 := { stood := { row := diskMovesUptoRow, standIns := [], harness := (true, "67fce2e4e385e02587fd1b8d50d2f8551d1ad00e4de29ba9889e43ddc242ca65"), looks := false }, kinds := [], alts := [], laidByText := true, laidKinds := [.data, .pinned], laidTests := true, laidLooks := .later }
def DiskMovesUptoCardSaid : Prop := Claim7.holds Tryd.pinned (.plain (OpenSpec.upto diskMovesSpec)) diskMovesUptoCard
end Rows
end Go.Proofs.YtcmllfnhdodbdaaDoor

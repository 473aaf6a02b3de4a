/-
  DERIVED. GIVEN WITH THE SEED: THE CARDS: each row of YtjiciklnhcmfaaaGreatDoorRows.lean that lists a variable, with what it lists TIED to the program's text (the seventh form; the later family's looks); each row that meets fmt, with fmt's text TOLD by the authors' own Lean function (tested against real Go, not proved from fmt's source: count such statements apart). THE CARD IS WHAT COUNTS. Prove the row's statement (the work); the ties are given (YtjiciklnhcmfaaaGreatDoorTie.lean); close each card by the builder's one call (the guide's Derived/Test/ToyasCard.lean, 'card_holds'). Laid BY PROGRAM, IN A SANDBOX (cutbox-door.mjs). By AI agents, Wed Nov 11 2026. No macro, syntax, notation, axiom, sorry.
-/
import Derived.Test.YtjiciklnhcmfaaaGreatDoorRows
import GoSem.ClaimSeven
namespace Go.Proofs.YtjiciklnhcmfaaaGreatDoor
namespace Rows

/-- THE TIED CARD OF 'posternlaw3.RecordWrites'. -/
def recordWritesCard : Claim7 := { stood := { row := recordWritesRow, standIns := [], harness := (true, "88db373a23fd80ba2817f97996a873cece8dd2d137f6f36fc3294479272910c5"), looks := false }, kinds := [], alts := [], laidByText := true, laidKinds := [.data], laidTests := true, laidLooks := .later }
def RecordWritesCardSaid : Prop := Claim7.holds Tryz.pinned (.plain (OpenSpec.ofChange recordWritesSpec)) recordWritesCard

/-- THE SECOND FORM's CARD OF 'posternlaw3.RecordWrites'. -/
def recordWritesUptoCard : Claim7 := { stood := { row := recordWritesUptoRow, standIns := [], harness := (true, "88db373a23fd80ba2817f97996a873cece8dd2d137f6f36fc3294479272910c5"), looks := false }, kinds := [], alts := [], laidByText := true, laidKinds := [.data], laidTests := true, laidLooks := .later }
def RecordWritesUptoCardSaid : Prop := Claim7.holds Tryz.pinned (.plain (OpenSpec.upto recordWritesSpec)) recordWritesUptoCard
end Rows
end Go.Proofs.YtjiciklnhcmfaaaGreatDoor

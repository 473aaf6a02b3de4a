/-
  DERIVED. GIVEN WITH THE SEED: THE CARDS: each row of YtnbpkignkfabkaaDoorRows.lean that lists a variable, with what it lists TIED to the program's text (the seventh form; the later family's looks); each row that meets fmt, with fmt's text TOLD by the authors' own Lean function (tested against real Go, not proved from fmt's source: count such statements apart). THE CARD IS WHAT COUNTS. Prove the row's statement (the work); the ties are given (YtnbpkignkfabkaaDoorTie.lean); close each card by the builder's one call (the guide's Derived/Test/ToyasCard.lean, 'card_holds'). Laid BY PROGRAM, IN A SANDBOX (cutbox-door.mjs). By AI agents, Wed Nov 11 2026. No macro, syntax, notation, axiom, sorry.
-/
import Derived.Test.YtnbpkignkfabkaaDoorRows
import GoSem.ClaimSeven
namespace Go.Proofs.YtnbpkignkfabkaaDoor
namespace Rows

/-- THE TIED CARD OF 'posternlaw10.WalApart'. -/
def walApartCard : Claim7 := { stood := { row := walApartRow, standIns := [], harness := (true, "1efa03985ecfe000ad89856ded7401f3b6401c983178e0b1dfe65a35601ff48f"), looks := false }, kinds := [], alts := [], laidByText := true, laidKinds := [.data, .data, .pinned], laidTests := true, laidLooks := .later }
def WalApartCardSaid : Prop := Claim7.holds Tryd.pinned (.plain (OpenSpec.ofChange walApartSpec)) walApartCard

/-- THE TIED CARD OF 'posternlaw10.WalBegins'. -/
def walBeginsCard : Claim7 := { stood := { row := walBeginsRow, standIns := [], harness := (true, "1efa03985ecfe000ad89856ded7401f3b6401c983178e0b1dfe65a35601ff48f"), looks := false }, kinds := [], alts := [], laidByText := true, laidKinds := [.data, .data, .pinned], laidTests := true, laidLooks := .later }
def WalBeginsCardSaid : Prop := Claim7.holds Tryd.pinned (.plain (OpenSpec.ofChange walBeginsSpec)) walBeginsCard

/-- THE TIED CARD OF 'posternlaw10.WalTorn'. -/
def walTornCard : Claim7 := { stood := { row := walTornRow, standIns := [], harness := (true, "1efa03985ecfe000ad89856ded7401f3b6401c983178e0b1dfe65a35601ff48f"), looks := false }, kinds := [], alts := [], laidByText := true, laidKinds := [.data, .data, .pinned], laidTests := true, laidLooks := .later }
def WalTornCardSaid : Prop := Claim7.holds Tryd.pinned (.plain (OpenSpec.ofChange walTornSpec)) walTornCard

/-- THE TIED CARD OF 'posternlaw10.WalHurt'. -/
def walHurtCard : Claim7 := { stood := { row := walHurtRow, standIns := [], harness := (true, "1efa03985ecfe000ad89856ded7401f3b6401c983178e0b1dfe65a35601ff48f"), looks := false }, kinds := [], alts := [], laidByText := true, laidKinds := [.data, .data, .pinned], laidTests := true, laidLooks := .later }
def WalHurtCardSaid : Prop := Claim7.holds Tryd.pinned (.plain (OpenSpec.ofChange walHurtSpec)) walHurtCard

/-- THE TIED CARD OF 'posternlaw10.WalLong'. -/
def walLongCard : Claim7 := { stood := { row := walLongRow, standIns := [], harness := (true, "1efa03985ecfe000ad89856ded7401f3b6401c983178e0b1dfe65a35601ff48f"), looks := false }, kinds := [], alts := [], laidByText := true, laidKinds := [.data, .data, .pinned], laidTests := true, laidLooks := .later }
def WalLongCardSaid : Prop := Claim7.holds Tryd.pinned (.plain (OpenSpec.ofChange walLongSpec)) walLongCard

/-- THE SECOND FORM's CARD OF 'posternlaw10.WalApart'. -/
def walApartUptoCard : Claim7 := { stood := { row := walApartUptoRow, standIns := [], harness := (true, "1efa03985ecfe000ad89856ded7401f3b6401c983178e0b1dfe65a35601ff48f"), looks := false }, kinds := [], alts := [], laidByText := true, laidKinds := [.data, .data, .pinned], laidTests := true, laidLooks := .later }
def WalApartUptoCardSaid : Prop := Claim7.holds Tryd.pinned (.plain (OpenSpec.upto walApartSpec)) walApartUptoCard

/-- THE SECOND FORM's CARD OF 'posternlaw10.WalBegins'. -/
def walBeginsUptoCard : Claim7 := { stood := { row := walBeginsUptoRow, standIns := [], harness := (true, "1efa03985ecfe000ad89856ded7401f3b6401c983178e0b1dfe65a35601ff48f"), looks := false }, kinds := [], alts := [], laidByText := true, laidKinds := [.data, .data, .pinned], laidTests := true, laidLooks := .later }
def WalBeginsUptoCardSaid : Prop := Claim7.holds Tryd.pinned (.plain (OpenSpec.upto walBeginsSpec)) walBeginsUptoCard

/-- THE SECOND FORM's CARD OF 'posternlaw10.WalTorn'. -/
def walTornUptoCard : Claim7 := { stood := { row := walTornUptoRow, standIns := [], harness := (true, "1efa03985ecfe000ad89856ded7401f3b6401c983178e0b1dfe65a35601ff48f"), looks := false }, kinds := [], alts := [], laidByText := true, laidKinds := [.data, .data, .pinned], laidTests := true, laidLooks := .later }
def WalTornUptoCardSaid : Prop := Claim7.holds Tryd.pinned (.plain (OpenSpec.upto walTornSpec)) walTornUptoCard

/-- THE SECOND FORM's CARD OF 'posternlaw10.WalHurt'. -/
def walHurtUptoCard : Claim7 := { stood := { row := walHurtUptoRow, standIns := [], harness := (true, "1efa03985ecfe000ad89856ded7401f3b6401c983178e0b1dfe65a35601ff48f"), looks := false }, kinds := [], alts := [], laidByText := true, laidKinds := [.data, .data, .pinned], laidTests := true, laidLooks := .later }
def WalHurtUptoCardSaid : Prop := Claim7.holds Tryd.pinned (.plain (OpenSpec.upto walHurtSpec)) walHurtUptoCard

/-- THE SECOND FORM's CARD OF 'posternlaw10.WalLong'. -/
def walLongUptoCard : Claim7 := { stood := { row := walLongUptoRow, standIns := [], harness := (true, "1efa03985ecfe000ad89856ded7401f3b6401c983178e0b1dfe65a35601ff48f"), looks := false }, kinds := [], alts := [], laidByText := true, laidKinds := [.data, .data, .pinned], laidTests := true, laidLooks := .later }
def WalLongUptoCardSaid : Prop := Claim7.holds Tryd.pinned (.plain (OpenSpec.upto walLongSpec)) walLongUptoCard
end Rows
end Go.Proofs.YtnbpkignkfabkaaDoor

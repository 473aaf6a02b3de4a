/-
  DERIVED. GIVEN WITH THE SEED: THE CARDS: each row of YtjiciklnhcmfaaaDoorRows.lean that lists a variable, with what it lists TIED to the program's text (the seventh form; the later family's looks); each row that meets fmt, with fmt's text TOLD by the authors' own Lean function (tested against real Go, not proved from fmt's source: count such statements apart). THE CARD IS WHAT COUNTS. Prove the row's statement (the work); the ties are given (YtjiciklnhcmfaaaDoorTie.lean); close each card by the builder's one call (the guide's Derived/Test/ToyasCard.lean, 'card_holds'). Laid BY PROGRAM, IN A SANDBOX (cutbox-door.mjs). By AI agents, Wed Nov 11 2026. No macro, syntax, notation, axiom, sorry.
-/
import Derived.Test.YtjiciklnhcmfaaaDoorRows
import GoSem.ClaimSeven
namespace Go.Proofs.YtjiciklnhcmfaaaDoor
namespace Rows

/-- THE TIED CARD OF 'posternlaw3.FrameExact'. -/
def frameExactCard : Claim7 := { stood := { row := frameExactRow, standIns := [], harness := (true, "b0589f33d6814f5340a70408eb26a533be307ff17b35c52bbcb1b7a43d72c8ef"), looks := false }, kinds := [], alts := [], laidByText := true, laidKinds := [.data], laidTests := true, laidLooks := .later }
def FrameExactCardSaid : Prop := Claim7.holds Tryd.pinned (.plain (OpenSpec.ofChange frameExactSpec)) frameExactCard

/-- THE TIED CARD OF 'posternlaw3.FrameBack'. -/
def frameBackCard : Claim7 := { stood := { row := frameBackRow, standIns := [], harness := (true, "b0589f33d6814f5340a70408eb26a533be307ff17b35c52bbcb1b7a43d72c8ef"), looks := false }, kinds := [], alts := [], laidByText := true, laidKinds := [.data], laidTests := true, laidLooks := .later }
def FrameBackCardSaid : Prop := Claim7.holds Tryd.pinned (.plain (OpenSpec.ofChange frameBackSpec)) frameBackCard

/-- THE TIED CARD OF 'posternlaw3.SumMixes'. -/
def sumMixesCard : Claim7 := { stood := { row := sumMixesRow, standIns := [], harness := (true, "b0589f33d6814f5340a70408eb26a533be307ff17b35c52bbcb1b7a43d72c8ef"), looks := false }, kinds := [], alts := [], laidByText := true, laidKinds := [.data], laidTests := true, laidLooks := .later }
def SumMixesCardSaid : Prop := Claim7.holds Tryd.pinned (.plain (OpenSpec.ofChange sumMixesSpec)) sumMixesCard

/-- THE TIED CARD OF 'posternlaw3.FrameRow'. -/
def frameRowCard : Claim7 := { stood := { row := frameRowRow, standIns := [], harness := (true, "b0589f33d6814f5340a70408eb26a533be307ff17b35c52bbcb1b7a43d72c8ef"), looks := false }, kinds := [], alts := [], laidByText := true, laidKinds := [.data], laidTests := true, laidLooks := .later }
def FrameRowCardSaid : Prop := Claim7.holds Tryd.pinned (.plain (OpenSpec.ofChange frameRowSpec)) frameRowCard

/-- THE TIED CARD OF 'posternlaw3.RecordLong'. -/
def recordLongCard : Claim7 := { stood := { row := recordLongRow, standIns := [], harness := (true, "b0589f33d6814f5340a70408eb26a533be307ff17b35c52bbcb1b7a43d72c8ef"), looks := false }, kinds := [], alts := [], laidByText := true, laidKinds := [.data], laidTests := true, laidLooks := .later }
def RecordLongCardSaid : Prop := Claim7.holds Tryd.pinned (.plain (OpenSpec.ofChange recordLongSpec)) recordLongCard

/-- THE TIED CARD OF 'posternlaw3.RecordBack'. -/
def recordBackCard : Claim7 := { stood := { row := recordBackRow, standIns := [], harness := (true, "b0589f33d6814f5340a70408eb26a533be307ff17b35c52bbcb1b7a43d72c8ef"), looks := false }, kinds := [], alts := [], laidByText := true, laidKinds := [.data], laidTests := true, laidLooks := .later }
def RecordBackCardSaid : Prop := Claim7.holds Tryd.pinned (.plain (OpenSpec.ofChange recordBackSpec)) recordBackCard

/-- THE TIED CARD OF 'posternlaw3.RecordStays'. -/
def recordStaysCard : Claim7 := { stood := { row := recordStaysRow, standIns := [], harness := (true, "b0589f33d6814f5340a70408eb26a533be307ff17b35c52bbcb1b7a43d72c8ef"), looks := false }, kinds := [], alts := [], laidByText := true, laidKinds := [.data], laidTests := true, laidLooks := .later }
def RecordStaysCardSaid : Prop := Claim7.holds Tryd.pinned (.plain (OpenSpec.ofChange recordStaysSpec)) recordStaysCard

/-- THE SECOND FORM's CARD OF 'posternlaw3.FrameExact'. -/
def frameExactUptoCard : Claim7 := { stood := { row := frameExactUptoRow, standIns := [], harness := (true, "b0589f33d6814f5340a70408eb26a533be307ff17b35c52bbcb1b7a43d72c8ef"), looks := false }, kinds := [], alts := [], laidByText := true, laidKinds := [.data], laidTests := true, laidLooks := .later }
def FrameExactUptoCardSaid : Prop := Claim7.holds Tryd.pinned (.plain (OpenSpec.upto frameExactSpec)) frameExactUptoCard

/-- THE SECOND FORM's CARD OF 'posternlaw3.FrameBack'. -/
def frameBackUptoCard : Claim7 := { stood := { row := frameBackUptoRow, standIns := [], harness := (true, "b0589f33d6814f5340a70408eb26a533be307ff17b35c52bbcb1b7a43d72c8ef"), looks := false }, kinds := [], alts := [], laidByText := true, laidKinds := [.data], laidTests := true, laidLooks := .later }
def FrameBackUptoCardSaid : Prop := Claim7.holds Tryd.pinned (.plain (OpenSpec.upto frameBackSpec)) frameBackUptoCard

/-- THE SECOND FORM's CARD OF 'posternlaw3.SumMixes'. -/
def sumMixesUptoCard : Claim7 := { stood := { row := sumMixesUptoRow, standIns := [], harness := (true, "b0589f33d6814f5340a70408eb26a533be307ff17b35c52bbcb1b7a43d72c8ef"), looks := false }, kinds := [], alts := [], laidByText := true, laidKinds := [.data], laidTests := true, laidLooks := .later }
def SumMixesUptoCardSaid : Prop := Claim7.holds Tryd.pinned (.plain (OpenSpec.upto sumMixesSpec)) sumMixesUptoCard

/-- THE SECOND FORM's CARD OF 'posternlaw3.FrameRow'. -/
def frameRowUptoCard : Claim7 := { stood := { row := frameRowUptoRow, standIns := [], harness := (true, "b0589f33d6814f5340a70408eb26a533be307ff17b35c52bbcb1b7a43d72c8ef"), looks := false }, kinds := [], alts := [], laidByText := true, laidKinds := [.data], laidTests := true, laidLooks := .later }
def FrameRowUptoCardSaid : Prop := Claim7.holds Tryd.pinned (.plain (OpenSpec.upto frameRowSpec)) frameRowUptoCard

/-- THE SECOND FORM's CARD OF 'posternlaw3.RecordLong'. -/
def recordLongUptoCard : Claim7 := { stood := { row := recordLongUptoRow, standIns := [], harness := (true, "b0589f33d6814f5340a70408eb26a533be307ff17b35c52bbcb1b7a43d72c8ef"), looks := false }, kinds := [], alts := [], laidByText := true, laidKinds := [.data], laidTests := true, laidLooks := .later }
def RecordLongUptoCardSaid : Prop := Claim7.holds Tryd.pinned (.plain (OpenSpec.upto recordLongSpec)) recordLongUptoCard

/-- THE SECOND FORM's CARD OF 'posternlaw3.RecordBack'. -/
def recordBackUptoCard : Claim7 := { stood := { row := recordBackUptoRow, standIns := [], harness := (true, "b0589f33d6814f5340a70408eb26a533be307ff17b35c52bbcb1b7a43d72c8ef"), looks := false }, kinds := [], alts := [], laidByText := true, laidKinds := [.data], laidTests := true, laidLooks := .later }
def RecordBackUptoCardSaid : Prop := Claim7.holds Tryd.pinned (.plain (OpenSpec.upto recordBackSpec)) recordBackUptoCard

/-- THE SECOND FORM's CARD OF 'posternlaw3.RecordStays'. -/
def recordStaysUptoCard : Claim7 := { stood := { row := recordStaysUptoRow, standIns := [], harness := (true, "b0589f33d6814f5340a70408eb26a533be307ff17b35c52bbcb1b7a43d72c8ef"), looks := false }, kinds := [], alts := [], laidByText := true, laidKinds := [.data], laidTests := true, laidLooks := .later }
def RecordStaysUptoCardSaid : Prop := Claim7.holds Tryd.pinned (.plain (OpenSpec.upto recordStaysSpec)) recordStaysUptoCard
end Rows
end Go.Proofs.YtjiciklnhcmfaaaDoor

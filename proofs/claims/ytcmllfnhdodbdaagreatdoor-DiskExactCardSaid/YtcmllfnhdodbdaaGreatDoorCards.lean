/-
  DERIVED. GIVEN WITH THE SEED: THE CARDS: each row of YtcmllfnhdodbdaaGreatDoorRows.lean that lists a variable, with what it lists TIED to the program's text (the seventh form; the later family's looks); each row that meets fmt, with fmt's text TOLD by the authors' own Lean function (tested against real Go, not proved from fmt's source: count such statements apart). THE CARD IS WHAT COUNTS. Prove the row's statement (the work); the ties are given (YtcmllfnhdodbdaaGreatDoorTie.lean); close each card by the builder's one call (the guide's Derived/Test/ToyasCard.lean, 'card_holds'). Laid BY PROGRAM, IN A SANDBOX (cutbox-door.mjs). By AI agents, Wed Nov 11 2026. No macro, syntax, notation, axiom, sorry.
-/
import Derived.Test.YtcmllfnhdodbdaaGreatDoorRows
import GoSem.ClaimSeven
namespace Go.Proofs.YtcmllfnhdodbdaaGreatDoor
namespace Rows

/-- THE TIED CARD OF 'posternlaw9.DiskTorn'. -/
def diskTornCard : Claim7 := { stood := { row := diskTornRow, standIns := [], harness := (true, "4d6e76f9a00a0d8f5a8e69c0b3bb3a971979ec7192299326725502e4e034dbea"), looks := false }, kinds := [], alts := [], laidByText := true, laidKinds := [.data, .pinned], laidTests := true, laidLooks := .later }
def DiskTornCardSaid : Prop := Claim7.holds Tryz.pinned (.plain (OpenSpec.ofChange diskTornSpec)) diskTornCard

/-- THE TIED CARD OF 'posternlaw9.DiskHolds'. -/
def diskHoldsCard : Claim7 := { stood := { row := diskHoldsRow, standIns := [], harness := (true, "4d6e76f9a00a0d8f5a8e69c0b3bb3a971979ec7192299326725502e4e034dbea"), looks := false }, kinds := [], alts := [], laidByText := true, laidKinds := [.data, .pinned], laidTests := true, laidLooks := .later }
def DiskHoldsCardSaid : Prop := Claim7.holds Tryz.pinned (.plain (OpenSpec.ofChange diskHoldsSpec)) diskHoldsCard

/-- THE TIED CARD OF 'posternlaw9.DiskExact'. -/
def diskExactCard : Claim7 := { stood := { row := diskExactRow, standIns := [], harness := (true, "4d6e76f9a00a0d8f5a8e69c0b3bb3a971979ec7192299326725502e4e034dbea"), looks := false }, kinds := [], alts := [], laidByText := true, laidKinds := [.data, .pinned], laidTests := true, laidLooks := .later }
def DiskExactCardSaid : Prop := Claim7.holds Tryz.pinned (.plain (OpenSpec.ofChange diskExactSpec)) diskExactCard

/-- THE TIED CARD OF 'posternlaw9.DiskFresh'. -/
def diskFreshCard : Claim7 := { stood := { row := diskFreshRow, standIns := [], harness := (true, "4d6e76f9a00a0d8f5a8e69c0b3bb3a971979ec7192299326725502e4e034dbea"), looks := false }, kinds := [], alts := [], laidByText := true, laidKinds := [.data, .pinned], laidTests := true, laidLooks := .later }
def DiskFreshCardSaid : Prop := Claim7.holds Tryz.pinned (.plain (OpenSpec.ofChange diskFreshSpec)) diskFreshCard

/-- THE SECOND FORM's CARD OF 'posternlaw9.DiskTorn'. -/
def diskTornUptoCard : Claim7 := { stood := { row := diskTornUptoRow, standIns := [], harness := (true, "4d6e76f9a00a0d8f5a8e69c0b3bb3a971979ec7192299326725502e4e034dbea"), looks := false }, kinds := [], alts := [], laidByText := true, laidKinds := [.data, .pinned], laidTests := true, laidLooks := .later }
def DiskTornUptoCardSaid : Prop := Claim7.holds Tryz.pinned (.plain (OpenSpec.upto diskTornSpec)) diskTornUptoCard

/-- THE SECOND FORM's CARD OF 'posternlaw9.DiskHolds'. -/
def diskHoldsUptoCard : Claim7 := { stood := { row := diskHoldsUptoRow, standIns := [], harness := (true, "4d6e76f9a00a0d8f5a8e69c0b3bb3a971979ec7192299326725502e4e034dbea"), looks := false }, kinds := [], alts := [], laidByText := true, laidKinds := [.data, .pinned], laidTests := true, laidLooks := .later }
def DiskHoldsUptoCardSaid : Prop := Claim7.holds Tryz.pinned (.plain (OpenSpec.upto diskHoldsSpec)) diskHoldsUptoCard

/-- THE SECOND FORM's CARD OF 'posternlaw9.DiskExact'. -/
def diskExactUptoCard : Claim7 := { stood := { row := diskExactUptoRow, standIns := [], harness := (true, "4d6e76f9a00a0d8f5a8e69c0b3bb3a971979ec7192299326725502e4e034dbea"), looks := false }, kinds := [], alts := [], laidByText := true, laidKinds := [.data, .pinned], laidTests := true, laidLooks := .later }
def DiskExactUptoCardSaid : Prop := Claim7.holds Tryz.pinned (.plain (OpenSpec.upto diskExactSpec)) diskExactUptoCard

/-- THE SECOND FORM's CARD OF 'posternlaw9.DiskFresh'. -/
def diskFreshUptoCard : Claim7 := { stood := { row := diskFreshUptoRow, standIns := [], harness := (true, "4d6e76f9a00a0d8f5a8e69c0b3bb3a971979ec7192299326725502e4e034dbea"), looks := false }, kinds := [], alts := [], laidByText := true, laidKinds := [.data, .pinned], laidTests := true, laidLooks := .later }
def DiskFreshUptoCardSaid : Prop := Claim7.holds Tryz.pinned (.plain (OpenSpec.upto diskFreshSpec)) diskFreshUptoCard
end Rows
end Go.Proofs.YtcmllfnhdodbdaaGreatDoor

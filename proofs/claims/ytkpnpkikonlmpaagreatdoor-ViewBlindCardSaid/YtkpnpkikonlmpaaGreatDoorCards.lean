/-
  DERIVED. GIVEN WITH THE SEED: THE CARDS: each row of YtkpnpkikonlmpaaGreatDoorRows.lean that lists a variable, with what it lists TIED to the program's text (the seventh form; the later family's looks); each row that meets fmt, with fmt's text TOLD by the authors' own Lean function (tested against real Go, not proved from fmt's source: count such statements apart). THE CARD IS WHAT COUNTS. Prove the row's statement (the work); the ties are given (YtkpnpkikonlmpaaGreatDoorTie.lean); close each card by the builder's one call (the guide's Derived/Test/ToyasCard.lean, 'card_holds'). Laid BY PROGRAM, IN A SANDBOX (cutbox-door.mjs). By AI agents, Wed Nov 11 2026. No macro, syntax, notation, axiom, sorry.
-/
import Derived.Test.YtkpnpkikonlmpaaGreatDoorRows
import GoSem.ClaimSeven
namespace Go.Proofs.YtkpnpkikonlmpaaGreatDoor
namespace Rows

/-- THE TIED CARD OF 'lanelaw1.SerialTells'. -/
def serialTellsCard : Claim7 := { stood := { row := serialTellsRow, standIns := [], harness := (true, "222af8bcd1b3461cc08be4d0a7a0638525c8e94bf70ab05365c7ee58a0fe02fa"), looks := true }, kinds := [], alts := [], laidByText := true, laidKinds := [.handle], laidTests := true, laidLooks := .later }
def SerialTellsCardSaid : Prop := Claim7.holds Tryz.pinned (.plain (OpenSpec.ofChange serialTellsSpec)) serialTellsCard

/-- THE TIED CARD OF 'lanelaw4.SerialAgain'. -/
def serialAgainCard : Claim7 := { stood := { row := serialAgainRow, standIns := [], harness := (true, "222af8bcd1b3461cc08be4d0a7a0638525c8e94bf70ab05365c7ee58a0fe02fa"), looks := true }, kinds := [], alts := [], laidByText := true, laidKinds := [.handle], laidTests := true, laidLooks := .later }
def SerialAgainCardSaid : Prop := Claim7.holds Tryz.pinned (.plain (OpenSpec.ofChange serialAgainSpec)) serialAgainCard

/-- THE TIED CARD OF 'lanelaw4.ViewBlind'. -/
def viewBlindCard : Claim7 := { stood := { row := viewBlindRow, standIns := [], harness := (true, "222af8bcd1b3461cc08be4d0a7a0638525c8e94bf70ab05365c7ee58a0fe02fa"), looks := true }, kinds := [], alts := [], laidByText := true, laidKinds := [.handle], laidTests := true, laidLooks := .later }
def ViewBlindCardSaid : Prop := Claim7.holds Tryz.pinned (.plain (OpenSpec.ofChange viewBlindSpec)) viewBlindCard

/-- THE SECOND FORM's CARD OF 'lanelaw1.SerialTells'. -/
def serialTellsUptoCard : Claim7 := { stood := { row := serialTellsUptoRow, standIns := [], harness := (true, "222af8bcd1b3461cc08be4d0a7a0638525c8e94bf70ab05365c7ee58a0fe02fa"), looks := true }, kinds := [], alts := [], laidByText := true, laidKinds := [.handle], laidTests := true, laidLooks := .later }
def SerialTellsUptoCardSaid : Prop := Claim7.holds Tryz.pinned (.plain (OpenSpec.upto serialTellsSpec)) serialTellsUptoCard

/-- THE SECOND FORM's CARD OF 'lanelaw4.SerialAgain'. -/
def serialAgainUptoCard : Claim7 := { stood := { row := serialAgainUptoRow, standIns := [], harness := (true, "222af8bcd1b3461cc08be4d0a7a0638525c8e94bf70ab05365c7ee58a0fe02fa"), looks := true }, kinds := [], alts := [], laidByText := true, laidKinds := [.handle], laidTests := true, laidLooks := .later }
def SerialAgainUptoCardSaid : Prop := Claim7.holds Tryz.pinned (.plain (OpenSpec.upto serialAgainSpec)) serialAgainUptoCard

/-- THE SECOND FORM's CARD OF 'lanelaw4.ViewBlind'. -/
def viewBlindUptoCard : Claim7 := { stood := { row := viewBlindUptoRow, standIns := [], harness := (true, "222af8bcd1b3461cc08be4d0a7a0638525c8e94bf70ab05365c7ee58a0fe02fa"), looks := true }, kinds := [], alts := [], laidByText := true, laidKinds := [.handle], laidTests := true, laidLooks := .later }
def ViewBlindUptoCardSaid : Prop := Claim7.holds Tryz.pinned (.plain (OpenSpec.upto viewBlindSpec)) viewBlindUptoCard
end Rows
end Go.Proofs.YtkpnpkikonlmpaaGreatDoor

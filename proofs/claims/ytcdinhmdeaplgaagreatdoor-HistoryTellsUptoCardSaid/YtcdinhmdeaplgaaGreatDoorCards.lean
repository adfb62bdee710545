/-
  DERIVED. GIVEN WITH THE SEED: THE CARDS: each row of YtcdinhmdeaplgaaGreatDoorRows.lean that lists a variable, with what it lists TIED to the program's text (the seventh form; the later family's looks); each row that meets fmt, with fmt's text TOLD by the authors' own Lean function (tested against real Go, not proved from fmt's source: count such statements apart). THE CARD IS WHAT COUNTS. Prove the row's statement (the work); the ties are given (YtcdinhmdeaplgaaGreatDoorTie.lean); close each card by the builder's one call (the guide's Derived/Test/ToyasCard.lean, 'card_holds'). Laid BY PROGRAM, IN A SANDBOX (cutbox-door.mjs). By AI agents, Wed Nov 11 2026. No macro, syntax, notation, axiom, sorry.
-/
import Derived.Test.YtcdinhmdeaplgaaGreatDoorRows
import GoSem.ClaimSeven
namespace Go.Proofs.YtcdinhmdeaplgaaGreatDoor
namespace Rows

/-- THE TIED CARD OF 'lanelaw1.HistoryTells'. -/
def historyTellsCard : Claim7 := { stood := { row := historyTellsRow, standIns := [], harness := (true, "47c7bb47cd52fb86e7d6ea26d8ccfb76f737154a145330cdd9faff601b45ec1a"), looks := true }, kinds := [], alts := [], laidByText := true, laidKinds := [.data, .handle, .pinned], laidTests := true, laidLooks := .later }
def HistoryTellsCardSaid : Prop := Claim7.holds Tryz.pinned (.plain (OpenSpec.ofChange historyTellsSpec)) historyTellsCard

/-- THE SECOND FORM's CARD OF 'lanelaw1.HistoryTells'. -/
def historyTellsUptoCard : Claim7 := { stood := { row := historyTellsUptoRow, standIns := [], harness := (true, "47c7bb47cd52fb86e7d6ea26d8ccfb76f737154a145330cdd9faff601b45ec1a"), looks := true }, kinds := [], alts := [], laidByText := true, laidKinds := [.data, .handle, .pinned], laidTests := true, laidLooks := .later }
def HistoryTellsUptoCardSaid : Prop := Claim7.holds Tryz.pinned (.plain (OpenSpec.upto historyTellsSpec)) historyTellsUptoCard
end Rows
end Go.Proofs.YtcdinhmdeaplgaaGreatDoor

/-
  DERIVED. GIVEN WITH THE SEED: THE CARDS: each row of YtahbaddclacakaaDoorRows.lean that lists a variable, with what it lists TIED to the program's text (the seventh form; the later family's looks); each row that meets fmt, with fmt's text TOLD by the authors' own Lean function (tested against real Go, not proved from fmt's source: count such statements apart). THE CARD IS WHAT COUNTS. Prove the row's statement (the work); the ties are given (YtahbaddclacakaaDoorTie.lean); close each card by the builder's one call (the guide's Derived/Test/ToyasCard.lean, 'card_holds'). Laid BY PROGRAM, IN A SANDBOX (cutbox-door.mjs). By AI agents, Wed Nov 11 2026. No macro, syntax, notation, axiom, sorry.
-/
import Derived.Test.YtahbaddclacakaaDoorRows
import GoSem.ClaimSeven
namespace Go.Proofs.YtahbaddclacakaaDoor
namespace Rows

/-- THE TIED CARD OF 'lanelaw4.LogRefuses'. -/
def logRefusesCard : Claim7 := { stood := { row := logRefusesRow, standIns := [], harness := (true, "aee4ecea073808385a21e9af7c8ddde9c6ec800a702ffb11ae40da0d1611af79"), looks := true }, kinds := [], alts := [], laidByText := true, laidKinds := [.handle], laidTests := true, laidLooks := .later }
def LogRefusesCardSaid : Prop := Claim7.holds Tryd.pinned (.plain (OpenSpec.ofChange logRefusesSpec)) logRefusesCard

/-- THE TIED CARD OF 'lanelaw3.LogStops'. -/
def logStopsCard : Claim7 := { stood := { row := logStopsRow, standIns := [], harness := (true, "aee4ecea073808385a21e9af7c8ddde9c6ec800a702ffb11ae40da0d1611af79"), looks := true }, kinds := [], alts := [], laidByText := true, laidKinds := [.data, .handle, .pinned], laidTests := true, laidLooks := .later }
def LogStopsCardSaid : Prop := Claim7.holds Tryd.pinned (.plain (OpenSpec.ofChange logStopsSpec)) logStopsCard

/-- THE TIED CARD OF 'lanelaw3.LogKeeps'. -/
def logKeepsCard : Claim7 := { stood := { row := logKeepsRow, standIns := [], harness := (true, "aee4ecea073808385a21e9af7c8ddde9c6ec800a702ffb11ae40da0d1611af79"), looks := true }, kinds := [], alts := [], laidByText := true, laidKinds := [.data, .handle, .pinned], laidTests := true, laidLooks := .later }
def LogKeepsCardSaid : Prop := Claim7.holds Tryd.pinned (.plain (OpenSpec.ofChange logKeepsSpec)) logKeepsCard

/-- THE TIED CARD OF 'lanelaw1.HistoryBack'. -/
def historyBackCard : Claim7 := { stood := { row := historyBackRow, standIns := [], harness := (true, "aee4ecea073808385a21e9af7c8ddde9c6ec800a702ffb11ae40da0d1611af79"), looks := true }, kinds := [], alts := [], laidByText := true, laidKinds := [.data, .pinned], laidTests := true, laidLooks := .later }
def HistoryBackCardSaid : Prop := Claim7.holds Tryd.pinned (.plain (OpenSpec.ofChange historyBackSpec)) historyBackCard

/-- THE SECOND FORM's CARD OF 'lanelaw4.LogRefuses'. -/
def logRefusesUptoCard : Claim7 := { stood := { row := logRefusesUptoRow, standIns := [], harness := (true, "aee4ecea073808385a21e9af7c8ddde9c6ec800a702ffb11ae40da0d1611af79"), looks := true }, kinds := [], alts := [], laidByText := true, laidKinds := [.handle], laidTests := true, laidLooks := .later }
def LogRefusesUptoCardSaid : Prop := Claim7.holds Tryd.pinned (.plain (OpenSpec.upto logRefusesSpec)) logRefusesUptoCard

/-- THE SECOND FORM's CARD OF 'lanelaw3.LogStops'. -/
def logStopsUptoCard : Claim7 := { stood := { row := logStopsUptoRow, standIns := [], harness := (true, "aee4ecea073808385a21e9af7c8ddde9c6ec800a702ffb11ae40da0d1611af79"), looks := true }, kinds := [], alts := [], laidByText := true, laidKinds := [.data, .handle, .pinned], laidTests := true, laidLooks := .later }
def LogStopsUptoCardSaid : Prop := Claim7.holds Tryd.pinned (.plain (OpenSpec.upto logStopsSpec)) logStopsUptoCard

/-- THE SECOND FORM's CARD OF 'lanelaw3.LogKeeps'. -/
def logKeepsUptoCard : Claim7 := { stood := { row := logKeepsUptoRow, standIns := [], harness := (true, "aee4ecea073808385a21e9af7c8ddde9c6ec800a702ffb11ae40da0d1611af79"), looks := true }, kinds := [], alts := [], laidByText := true, laidKinds := [.data, .handle, .pinned], laidTests := true, laidLooks := .later }
def LogKeepsUptoCardSaid : Prop := Claim7.holds Tryd.pinned (.plain (OpenSpec.upto logKeepsSpec)) logKeepsUptoCard

/-- THE SECOND FORM's CARD OF 'lanelaw1.HistoryBack'. -/
def historyBackUptoCard : Claim7 := { stood := { row := historyBackUptoRow, standIns := [], harness := (true, "aee4ecea073808385a21e9af7c8ddde9c6ec800a702ffb11ae40da0d1611af79"), looks := true }, kinds := [], alts := [], laidByText := true, laidKinds := [.data, .pinned], laidTests := true, laidLooks := .later }
def HistoryBackUptoCardSaid : Prop := Claim7.holds Tryd.pinned (.plain (OpenSpec.upto historyBackSpec)) historyBackUptoCard
end Rows
end Go.Proofs.YtahbaddclacakaaDoor

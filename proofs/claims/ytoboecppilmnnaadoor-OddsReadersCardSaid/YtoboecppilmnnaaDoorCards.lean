/-
  DERIVED. GIVEN WITH THE SEED: THE CARDS: each row of YtoboecppilmnnaaDoorRows.lean that lists a variable, with what it lists TIED to the program's text (the seventh form; the later family's looks); each row that meets fmt, with fmt's text TOLD by the authors' own Lean function (tested against real Go, not proved from fmt's source: count such statements apart). THE CARD IS WHAT COUNTS. Prove the row's statement (the work); the ties are given (YtoboecppilmnnaaDoorTie.lean); close each card by the builder's one call (the guide's Derived/Test/ToyasCard.lean, 'card_holds'). Laid BY PROGRAM, IN A SANDBOX (cutbox-door.mjs). By AI agents, Wed Nov 11 2026. No macro, syntax, notation, axiom, sorry.
-/
import Derived.Test.YtoboecppilmnnaaDoorRows
import GoSem.ClaimSeven
namespace Go.Proofs.YtoboecppilmnnaaDoor
namespace Rows

/-- THE TIED CARD OF 'lanelaw4.HistoryEnds'. -/
def historyEndsCard : Claim7 := { stood := { row := historyEndsRow, standIns := [], harness := (true, "be10a709784022b867382602dfb0c315e87d344e6a4f26046a4912f1c345ebe8"), looks := true }, kinds := [], alts := [], laidByText := true, laidKinds := [.handle], laidTests := true, laidLooks := .later }
def HistoryEndsCardSaid : Prop := Claim7.holds Tryd.pinned (.plain (OpenSpec.ofChange historyEndsSpec)) historyEndsCard

/-- THE TIED CARD OF 'lanelaw3.StockPlays'. -/
def stockPlaysCard : Claim7 := { stood := { row := stockPlaysRow, standIns := [], harness := (true, "be10a709784022b867382602dfb0c315e87d344e6a4f26046a4912f1c345ebe8"), looks := true }, kinds := [], alts := [], laidByText := true, laidKinds := [.handle], laidTests := true, laidLooks := .later }
def StockPlaysCardSaid : Prop := Claim7.holds Tryd.pinned (.plain (OpenSpec.ofChange stockPlaysSpec)) stockPlaysCard

/-- THE TIED CARD OF 'lanelaw2.StampTells'. -/
def stampTellsCard : Claim7 := { stood := { row := stampTellsRow, standIns := [], harness := (true, "be10a709784022b867382602dfb0c315e87d344e6a4f26046a4912f1c345ebe8"), looks := true }, kinds := [], alts := [], laidByText := true, laidKinds := [.handle], laidTests := true, laidLooks := .later }
def StampTellsCardSaid : Prop := Claim7.holds Tryd.pinned (.plain (OpenSpec.ofChange stampTellsSpec)) stampTellsCard

/-- THE TIED CARD OF 'lanelaw4.OddsReaders'. -/
def oddsReadersCard : Claim7 := { stood := { row := oddsReadersRow, standIns := [], harness := (true, "be10a709784022b867382602dfb0c315e87d344e6a4f26046a4912f1c345ebe8"), looks := true }, kinds := [], alts := [], laidByText := true, laidKinds := [.handle], laidTests := true, laidLooks := .later }
def OddsReadersCardSaid : Prop := Claim7.holds Tryd.pinned (.plain (OpenSpec.ofChange oddsReadersSpec)) oddsReadersCard

/-- THE TIED CARD OF 'lanelaw1.PlayTells'. -/
def playTellsCard : Claim7 := { stood := { row := playTellsRow, standIns := [], harness := (true, "be10a709784022b867382602dfb0c315e87d344e6a4f26046a4912f1c345ebe8"), looks := true }, kinds := [], alts := [], laidByText := true, laidKinds := [.handle], laidTests := true, laidLooks := .later }
def PlayTellsCardSaid : Prop := Claim7.holds Tryd.pinned (.plain (OpenSpec.ofChange playTellsSpec)) playTellsCard

/-- THE TIED CARD OF 'lanelaw3.IllsTell'. -/
def illsTellCard : Claim7 := { stood := { row := illsTellRow, standIns := [], harness := (true, "be10a709784022b867382602dfb0c315e87d344e6a4f26046a4912f1c345ebe8"), looks := true }, kinds := [], alts := [], laidByText := true, laidKinds := [.handle], laidTests := true, laidLooks := .later }
def IllsTellCardSaid : Prop := Claim7.holds Tryd.pinned (.plain (OpenSpec.ofChange illsTellSpec)) illsTellCard

/-- THE TIED CARD OF 'lanelaw1.FacesTell'. -/
def facesTellCard : Claim7 := { stood := { row := facesTellRow, standIns := [], harness := (true, "be10a709784022b867382602dfb0c315e87d344e6a4f26046a4912f1c345ebe8"), looks := true }, kinds := [], alts := [], laidByText := true, laidKinds := [.handle], laidTests := true, laidLooks := .later }
def FacesTellCardSaid : Prop := Claim7.holds Tryd.pinned (.plain (OpenSpec.ofChange facesTellSpec)) facesTellCard

/-- THE TIED CARD OF 'lanelaw4.IllsSerial'. -/
def illsSerialCard : Claim7 := { stood := { row := illsSerialRow, standIns := [], harness := (true, "be10a709784022b867382602dfb0c315e87d344e6a4f26046a4912f1c345ebe8"), looks := true }, kinds := [], alts := [], laidByText := true, laidKinds := [.handle], laidTests := true, laidLooks := .later }
def IllsSerialCardSaid : Prop := Claim7.holds Tryd.pinned (.plain (OpenSpec.ofChange illsSerialSpec)) illsSerialCard

/-- THE TIED CARD OF 'lanelaw3.IllsFaces'. -/
def illsFacesCard : Claim7 := { stood := { row := illsFacesRow, standIns := [], harness := (true, "be10a709784022b867382602dfb0c315e87d344e6a4f26046a4912f1c345ebe8"), looks := true }, kinds := [], alts := [], laidByText := true, laidKinds := [.handle], laidTests := true, laidLooks := .later }
def IllsFacesCardSaid : Prop := Claim7.holds Tryd.pinned (.plain (OpenSpec.ofChange illsFacesSpec)) illsFacesCard

/-- THE SECOND FORM's CARD OF 'lanelaw4.HistoryEnds'. -/
def historyEndsUptoCard : Claim7 := { stood := { row := historyEndsUptoRow, standIns := [], harness := (true, "be10a709784022b867382602dfb0c315e87d344e6a4f26046a4912f1c345ebe8"), looks := true }, kinds := [], alts := [], laidByText := true, laidKinds := [.handle], laidTests := true, laidLooks := .later }
def HistoryEndsUptoCardSaid : Prop := Claim7.holds Tryd.pinned (.plain (OpenSpec.upto historyEndsSpec)) historyEndsUptoCard

/-- THE SECOND FORM's CARD OF 'lanelaw3.StockPlays'. -/
def stockPlaysUptoCard : Claim7 := { stood := { row := stockPlaysUptoRow, standIns := [], harness := (true, "be10a709784022b867382602dfb0c315e87d344e6a4f26046a4912f1c345ebe8"), looks := true }, kinds := [], alts := [], laidByText := true, laidKinds := [.handle], laidTests := true, laidLooks := .later }
def StockPlaysUptoCardSaid : Prop := Claim7.holds Tryd.pinned (.plain (OpenSpec.upto stockPlaysSpec)) stockPlaysUptoCard

/-- THE SECOND FORM's CARD OF 'lanelaw2.StampTells'. -/
def stampTellsUptoCard : Claim7 := { stood := { row := stampTellsUptoRow, standIns := [], harness := (true, "be10a709784022b867382602dfb0c315e87d344e6a4f26046a4912f1c345ebe8"), looks := true }, kinds := [], alts := [], laidByText := true, laidKinds := [.handle], laidTests := true, laidLooks := .later }
def StampTellsUptoCardSaid : Prop := Claim7.holds Tryd.pinned (.plain (OpenSpec.upto stampTellsSpec)) stampTellsUptoCard

/-- THE SECOND FORM's CARD OF 'lanelaw4.OddsReaders'. -/
def oddsReadersUptoCard : Claim7 := { stood := { row := oddsReadersUptoRow, standIns := [], harness := (true, "be10a709784022b867382602dfb0c315e87d344e6a4f26046a4912f1c345ebe8"), looks := true }, kinds := [], alts := [], laidByText := true, laidKinds := [.handle], laidTests := true, laidLooks := .later }
def OddsReadersUptoCardSaid : Prop := Claim7.holds Tryd.pinned (.plain (OpenSpec.upto oddsReadersSpec)) oddsReadersUptoCard

/-- THE SECOND FORM's CARD OF 'lanelaw1.PlayTells'. -/
def playTellsUptoCard : Claim7 := { stood := { row := playTellsUptoRow, standIns := [], harness := (true, "be10a709784022b867382602dfb0c315e87d344e6a4f26046a4912f1c345ebe8"), looks := true }, kinds := [], alts := [], laidByText := true, laidKinds := [.handle], laidTests := true, laidLooks := .later }
def PlayTellsUptoCardSaid : Prop := Claim7.holds Tryd.pinned (.plain (OpenSpec.upto playTellsSpec)) playTellsUptoCard

/-- THE SECOND FORM's CARD OF 'lanelaw3.IllsTell'. -/
def illsTellUptoCard : Claim7 := { stood := { row := illsTellUptoRow, standIns := [], harness := (true, "be10a709784022b867382602dfb0c315e87d344e6a4f26046a4912f1c345ebe8"), looks := true }, kinds := [], alts := [], laidByText := true, laidKinds := [.handle], laidTests := true, laidLooks := .later }
def IllsTellUptoCardSaid : Prop := Claim7.holds Tryd.pinned (.plain (OpenSpec.upto illsTellSpec)) illsTellUptoCard

/-- THE SECOND FORM's CARD OF 'lanelaw1.FacesTell'. -/
def facesTellUptoCard : Claim7 := { stood := { row := facesTellUptoRow, standIns := [], harness := (true, "be10a709784022b867382602dfb0c315e87d344e6a4f26046a4912f1c345ebe8"), looks := true }, kinds := [], alts := [], laidByText := true, laidKinds := [.handle], laidTests := true, laidLooks := .later }
def FacesTellUptoCardSaid : Prop := Claim7.holds Tryd.pinned (.plain (OpenSpec.upto facesTellSpec)) facesTellUptoCard

/-- THE SECOND FORM's CARD OF 'lanelaw4.IllsSerial'. -/
def illsSerialUptoCard : Claim7 := { stood := { row := illsSerialUptoRow, standIns := [], harness := (true, "be10a709784022b867382602dfb0c315e87d344e6a4f26046a4912f1c345ebe8"), looks := true }, kinds := [], alts := [], laidByText := true, laidKinds := [.handle], laidTests := true, laidLooks := .later }
def IllsSerialUptoCardSaid : Prop := Claim7.holds Tryd.pinned (.plain (OpenSpec.upto illsSerialSpec)) illsSerialUptoCard

/-- THE SECOND FORM's CARD OF 'lanelaw3.IllsFaces'. -/
def illsFacesUptoCard : Claim7 := { stood := { row := illsFacesUptoRow, standIns := [], harness := (true, "be10a709784022b867382602dfb0c315e87d344e6a4f26046a4912f1c345ebe8"), looks := true }, kinds := [], alts := [], laidByText := true, laidKinds := [.handle], laidTests := true, laidLooks := .later }
def IllsFacesUptoCardSaid : Prop := Claim7.holds Tryd.pinned (.plain (OpenSpec.upto illsFacesSpec)) illsFacesUptoCard
end Rows
end Go.Proofs.YtoboecppilmnnaaDoor

/-
  DERIVED. GIVEN WITH THE SEED: THE CARDS: each row of YtppfhkmhciiaiaaDoorRows.lean that lists a variable, with what it lists TIED to the program's text (the seventh form; the later family's looks); each row that meets fmt, with fmt's text TOLD by the authors' own Lean function (tested against real Go, not proved from fmt's source: count such statements apart). THE CARD IS WHAT COUNTS. Prove the row's statement (the work); the ties are given (YtppfhkmhciiaiaaDoorTie.lean); close each card by the builder's one call (the guide's Derived/Test/ToyasCard.lean, 'card_holds'). Laid BY PROGRAM, IN A SANDBOX (cutbox-door.mjs). By AI agents, Wed Nov 11 2026. No macro, syntax, notation, axiom, sorry.
-/
import Derived.Test.YtppfhkmhciiaiaaDoorRows
import GoSem.ClaimSeven
namespace Go.Proofs.YtppfhkmhciiaiaaDoor
namespace Rows

/-- THE TIED CARD OF 'lanelaw3.StockPlays'. -/
def stockPlaysCard : Claim7 := { stood := { row := stockPlaysRow, standIns := [], harness := (true, "67c0719b54eeca10b140b8686873cf3c2c77ace865455e403e5c393aa010f756"), looks := true }, kinds := [], alts := [], laidByText := true, laidKinds := [.handle], laidTests := true, laidLooks := .later }
def StockPlaysCardSaid : Prop := Claim7.holds Tryd.pinned (.plain (OpenSpec.ofChange stockPlaysSpec)) stockPlaysCard

/-- THE SECOND FORM's CARD OF 'lanelaw3.StockPlays'. -/
def stockPlaysUptoCard : Claim7 := { stood := { row := stockPlaysUptoRow, standIns := [], harness := (true, "67c0719b54eeca10b140b8686873cf3c2c77ace865455e403e5c393aa010f756"), looks := true }, kinds := [], alts := [], laidByText := true, laidKinds := [.handle], laidTests := true, laidLooks := .later }
def StockPlaysUptoCardSaid : Prop := Claim7.holds Tryd.pinned (.plain (OpenSpec.upto stockPlaysSpec)) stockPlaysUptoCard
end Rows
end Go.Proofs.YtppfhkmhciiaiaaDoor

/-
  DERIVED. GIVEN WITH THE SEED: THE CARDS: each row of YtjbgjgmdgjnbfaaDoorRows.lean that lists a variable, with what it lists TIED to the program's text (the seventh form; the later family's looks); each row that meets fmt, with fmt's text TOLD by the authors' own Lean function (tested against real Go, not proved from fmt's source: count such statements apart). THE CARD IS WHAT COUNTS. Prove the row's statement (the work); the ties are given (YtjbgjgmdgjnbfaaDoorTie.lean); close each card by the builder's one call (the guide's Derived/Test/ToyasCard.lean, 'card_holds'). Laid BY PROGRAM, IN A SANDBOX (cutbox-door.mjs). By AI agents, Wed Nov 11 2026. No macro, syntax, notation, axiom, sorry.
-/
import Derived.Test.YtjbgjgmdgjnbfaaDoorRows
import GoSem.ClaimSeven
namespace Go.Proofs.YtjbgjgmdgjnbfaaDoor
namespace Rows

/-- THE TIED CARD OF 'lanelaw4.StrictSerial'. -/
def strictSerialCard : Claim7 := { stood := { row := strictSerialRow, standIns := [], harness := (true, "253fe24f837c8809154a87a84ebbd905d748a51b72ad66170506c5bf8a6b40fd"), looks := true }, kinds := [], alts := [], laidByText := true, laidKinds := [.handle], laidTests := true, laidLooks := .later }
def StrictSerialCardSaid : Prop := Claim7.holds Tryd.pinned (.plain (OpenSpec.ofChange strictSerialSpec)) strictSerialCard

/-- THE SECOND FORM's CARD OF 'lanelaw4.StrictSerial'. -/
def strictSerialUptoCard : Claim7 := { stood := { row := strictSerialUptoRow, standIns := [], harness := (true, "253fe24f837c8809154a87a84ebbd905d748a51b72ad66170506c5bf8a6b40fd"), looks := true }, kinds := [], alts := [], laidByText := true, laidKinds := [.handle], laidTests := true, laidLooks := .later }
def StrictSerialUptoCardSaid : Prop := Claim7.holds Tryd.pinned (.plain (OpenSpec.upto strictSerialSpec)) strictSerialUptoCard
end Rows
end Go.Proofs.YtjbgjgmdgjnbfaaDoor

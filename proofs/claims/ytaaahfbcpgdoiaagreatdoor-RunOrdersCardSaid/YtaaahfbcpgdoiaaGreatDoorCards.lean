/-
  DERIVED. GIVEN WITH THE SEED: THE CARDS: each row of YtaaahfbcpgdoiaaGreatDoorRows.lean that lists a variable, with what it lists TIED to the program's text (the seventh form; the later family's looks); each row that meets fmt, with fmt's text TOLD by the authors' own Lean function (tested against real Go, not proved from fmt's source: count such statements apart). THE CARD IS WHAT COUNTS. Prove the row's statement (the work); the ties are given (YtaaahfbcpgdoiaaGreatDoorTie.lean); close each card by the builder's one call (the guide's Derived/Test/ToyasCard.lean, 'card_holds'). Laid BY PROGRAM, IN A SANDBOX (cutbox-door.mjs). By AI agents, Wed Nov 11 2026. No macro, syntax, notation, axiom, sorry.
-/
import Derived.Test.YtaaahfbcpgdoiaaGreatDoorRows
import GoSem.ClaimSeven
namespace Go.Proofs.YtaaahfbcpgdoiaaGreatDoor
namespace Rows

/-- THE TIED CARD OF 'lanelaw3.RunBegins'. -/
def runBeginsCard : Claim7 := { stood := { row := runBeginsRow, standIns := [], harness := (true, "2e328e41931fda7eb68e42387aa9dcabe9c1d78b3180b34c17c688b6f9fe10bf"), looks := true }, kinds := [], alts := [], laidByText := true, laidKinds := [.data, .data, .data, .data, .handle, .wider, .pinned], laidTests := true, laidLooks := .later }
def RunBeginsCardSaid : Prop := Claim7.holds Tryz.pinned (.plain (OpenSpec.ofChange runBeginsSpec)) runBeginsCard

/-- THE TIED CARD OF 'lanelaw3.RunOrders'. -/
def runOrdersCard : Claim7 := { stood := { row := runOrdersRow, standIns := [], harness := (true, "2e328e41931fda7eb68e42387aa9dcabe9c1d78b3180b34c17c688b6f9fe10bf"), looks := true }, kinds := [], alts := [], laidByText := true, laidKinds := [.data, .data, .data, .data, .handle, .wider, .pinned], laidTests := true, laidLooks := .later }
def RunOrdersCardSaid : Prop := Claim7.holds Tryz.pinned (.plain (OpenSpec.ofChange runOrdersSpec)) runOrdersCard

/-- THE SECOND FORM's CARD OF 'lanelaw3.RunBegins'. -/
def runBeginsUptoCard : Claim7 := { stood := { row := runBeginsUptoRow, standIns := [], harness := (true, "2e328e41931fda7eb68e42387aa9dcabe9c1d78b3180b34c17c688b6f9fe10bf"), looks := true }, kinds := [], alts := [], laidByText := true, laidKinds := [.data, .data, .data, .data, .handle, .wider, .pinned], laidTests := true, laidLooks := .later }
def RunBeginsUptoCardSaid : Prop := Claim7.holds Tryz.pinned (.plain (OpenSpec.upto runBeginsSpec)) runBeginsUptoCard

/-- THE SECOND FORM's CARD OF 'lanelaw3.RunOrders'. -/
def runOrdersUptoCard : Claim7 := { stood := { row := runOrdersUptoRow, standIns := [], harness := (true, "2e328e41931fda7eb68e42387aa9dcabe9c1d78b3180b34c17c688b6f9fe10bf"), looks := true }, kinds := [], alts := [], laidByText := true, laidKinds := [.data, .data, .data, .data, .handle, .wider, .pinned], laidTests := true, laidLooks := .later }
def RunOrdersUptoCardSaid : Prop := Claim7.holds Tryz.pinned (.plain (OpenSpec.upto runOrdersSpec)) runOrdersUptoCard
end Rows
end Go.Proofs.YtaaahfbcpgdoiaaGreatDoor

/-
  DERIVED. GIVEN WITH THE SEED: THE CARDS: each row of YtbccnafdfeempaaGreatDoorRows.lean that lists a variable, with what it lists TIED to the program's text (the seventh form; the later family's looks); each row that meets fmt, with fmt's text TOLD by the authors' own Lean function (tested against real Go, not proved from fmt's source: count such statements apart). THE CARD IS WHAT COUNTS. Prove the row's statement (the work); the ties are given (YtbccnafdfeempaaGreatDoorTie.lean); close each card by the builder's one call (the guide's Derived/Test/ToyasCard.lean, 'card_holds'). Laid BY PROGRAM, IN A SANDBOX (cutbox-door.mjs). By AI agents, Wed Nov 11 2026. No macro, syntax, notation, axiom, sorry.
-/
import Derived.Test.YtbccnafdfeempaaGreatDoorRows
import GoSem.ClaimSeven
namespace Go.Proofs.YtbccnafdfeempaaGreatDoor
namespace Rows

/-- THE TIED CARD OF 'lanelaw2.StrictTells'. -/
def strictTellsCard : Claim7 := { stood := { row := strictTellsRow, standIns := [], harness := (true, "024b64c7e89dd2f0ef37658c2ba70356e184ad96951d2d6329af58469a158898"), looks := true }, kinds := [], alts := [], laidByText := true, laidKinds := [.handle], laidTests := true, laidLooks := .later }
def StrictTellsCardSaid : Prop := Claim7.holds Tryz.pinned (.plain (OpenSpec.ofChange strictTellsSpec)) strictTellsCard

/-- THE SECOND FORM's CARD OF 'lanelaw2.StrictTells'. -/
def strictTellsUptoCard : Claim7 := { stood := { row := strictTellsUptoRow, standIns := [], harness := (true, "024b64c7e89dd2f0ef37658c2ba70356e184ad96951d2d6329af58469a158898"), looks := true }, kinds := [], alts := [], laidByText := true, laidKinds := [.handle], laidTests := true, laidLooks := .later }
def StrictTellsUptoCardSaid : Prop := Claim7.holds Tryz.pinned (.plain (OpenSpec.upto strictTellsSpec)) strictTellsUptoCard
end Rows
end Go.Proofs.YtbccnafdfeempaaGreatDoor

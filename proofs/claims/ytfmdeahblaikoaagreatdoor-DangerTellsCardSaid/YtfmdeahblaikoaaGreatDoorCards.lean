/-
  DERIVED. GIVEN WITH THE SEED: THE CARDS: each row of YtfmdeahblaikoaaGreatDoorRows.lean that lists a variable, with what it lists TIED to the program's text (the seventh form; the later family's looks); each row that meets fmt, with fmt's text TOLD by the authors' own Lean function (tested against real Go, not proved from fmt's source: count such statements apart). THE CARD IS WHAT COUNTS. Prove the row's statement (the work); the ties are given (YtfmdeahblaikoaaGreatDoorTie.lean); close each card by the builder's one call (the guide's Derived/Test/ToyasCard.lean, 'card_holds'). Laid BY PROGRAM, IN A SANDBOX (cutbox-door.mjs). By AI agents, Wed Nov 11 2026. No macro, syntax, notation, axiom, sorry.
-/
import Derived.Test.YtfmdeahblaikoaaGreatDoorRows
import GoSem.ClaimSeven
namespace Go.Proofs.YtfmdeahblaikoaaGreatDoor
namespace Rows

/-- THE TIED CARD OF 'lanelaw2.DangerTells'. -/
def dangerTellsCard : Claim7 := { stood := { row := dangerTellsRow, standIns := [], harness := (true, "6e49aea62f479441c8efef260d77fbbb9c7a41dc86c183c17c54b1af00ae04ae"), looks := true }, kinds := [], alts := [], laidByText := true, laidKinds := [.handle], laidTests := true, laidLooks := .later }
def DangerTellsCardSaid : Prop := Claim7.holds Tryz.pinned (.plain (OpenSpec.ofChange dangerTellsSpec)) dangerTellsCard

/-- THE SECOND FORM's CARD OF 'lanelaw2.DangerTells'. -/
def dangerTellsUptoCard : Claim7 := { stood := { row := dangerTellsUptoRow, standIns := [], harness := (true, "6e49aea62f479441c8efef260d77fbbb9c7a41dc86c183c17c54b1af00ae04ae"), looks := true }, kinds := [], alts := [], laidByText := true, laidKinds := [.handle], laidTests := true, laidLooks := .later }
def DangerTellsUptoCardSaid : Prop := Claim7.holds Tryz.pinned (.plain (OpenSpec.upto dangerTellsSpec)) dangerTellsUptoCard
end Rows
end Go.Proofs.YtfmdeahblaikoaaGreatDoor

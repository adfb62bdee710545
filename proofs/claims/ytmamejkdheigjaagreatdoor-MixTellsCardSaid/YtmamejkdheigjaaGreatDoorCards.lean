/-
  DERIVED. GIVEN WITH THE SEED: THE CARDS: each row of YtmamejkdheigjaaGreatDoorRows.lean that lists a variable, with what it lists TIED to the program's text (the seventh form; the later family's looks); each row that meets fmt, with fmt's text TOLD by the authors' own Lean function (tested against real Go, not proved from fmt's source: count such statements apart). THE CARD IS WHAT COUNTS. Prove the row's statement (the work); the ties are given (YtmamejkdheigjaaGreatDoorTie.lean); close each card by the builder's one call (the guide's Derived/Test/ToyasCard.lean, 'card_holds'). Laid BY PROGRAM, IN A SANDBOX (cutbox-door.mjs). By AI agents, Wed Nov 11 2026. No macro, syntax, notation, axiom, sorry.
-/
import Derived.Test.YtmamejkdheigjaaGreatDoorRows
import GoSem.ClaimSeven
namespace Go.Proofs.YtmamejkdheigjaaGreatDoor
namespace Rows

/-- THE TIED CARD OF 'lanelaw3.MixTells'. -/
def mixTellsCard : Claim7 := { stood := { row := mixTellsRow, standIns := [], harness := (true, "81b54aa92c1d5ad8f7f6ff6b7fa5f8ba942b134727af6abc4566efcc785300fc"), looks := true }, kinds := [], alts := [], laidByText := true, laidKinds := [.handle], laidTests := true, laidLooks := .later }
def MixTellsCardSaid : Prop := Claim7.holds Tryz.pinned (.plain (OpenSpec.ofChange mixTellsSpec)) mixTellsCard

/-- THE SECOND FORM's CARD OF 'lanelaw3.MixTells'. -/
def mixTellsUptoCard : Claim7 := { stood := { row := mixTellsUptoRow, standIns := [], harness := (true, "81b54aa92c1d5ad8f7f6ff6b7fa5f8ba942b134727af6abc4566efcc785300fc"), looks := true }, kinds := [], alts := [], laidByText := true, laidKinds := [.handle], laidTests := true, laidLooks := .later }
def MixTellsUptoCardSaid : Prop := Claim7.holds Tryz.pinned (.plain (OpenSpec.upto mixTellsSpec)) mixTellsUptoCard
end Rows
end Go.Proofs.YtmamejkdheigjaaGreatDoor

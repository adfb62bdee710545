/-
  DERIVED. GIVEN WITH THE SEED: THE CARDS: each row of YtigmgeaimcglhaaDoorRows.lean that lists a variable, with what it lists TIED to the program's text (the seventh form; the later family's looks); each row that meets fmt, with fmt's text TOLD by the authors' own Lean function (tested against real Go, not proved from fmt's source: count such statements apart). THE CARD IS WHAT COUNTS. Prove the row's statement (the work); the ties are given (YtigmgeaimcglhaaDoorTie.lean); close each card by the builder's one call (the guide's Derived/Test/ToyasCard.lean, 'card_holds'). Laid BY PROGRAM, IN A SANDBOX (cutbox-door.mjs). By AI agents, Wed Nov 11 2026. No macro, syntax, notation, axiom, sorry.
-/
import Derived.Test.YtigmgeaimcglhaaDoorRows
import GoSem.ClaimSeven
namespace Go.Proofs.YtigmgeaimcglhaaDoor
namespace Rows

/-- THE TIED CARD OF 'lanelaw2.ValidTells'. -/
def validTellsCard : Claim7 := { stood := { row := validTellsRow, standIns := [], harness := (true, "41f26d4bea33203ef29c44f6cc5eed62881bb2e6b1e4c5c2f4f86d1738b5e318"), looks := true }, kinds := [], alts := [], laidByText := true, laidKinds := [.handle], laidTests := true, laidLooks := .later }
def ValidTellsCardSaid : Prop := Claim7.holds Tryd.pinned (.plain (OpenSpec.ofChange validTellsSpec)) validTellsCard

/-- THE TIED CARD OF 'lanelaw2.SnapTells'. -/
def snapTellsCard : Claim7 := { stood := { row := snapTellsRow, standIns := [], harness := (true, "41f26d4bea33203ef29c44f6cc5eed62881bb2e6b1e4c5c2f4f86d1738b5e318"), looks := true }, kinds := [], alts := [], laidByText := true, laidKinds := [.handle], laidTests := true, laidLooks := .later }
def SnapTellsCardSaid : Prop := Claim7.holds Tryd.pinned (.plain (OpenSpec.ofChange snapTellsSpec)) snapTellsCard

/-- THE TIED CARD OF 'lanelaw2.VersionsTell'. -/
def versionsTellCard : Claim7 := { stood := { row := versionsTellRow, standIns := [], harness := (true, "41f26d4bea33203ef29c44f6cc5eed62881bb2e6b1e4c5c2f4f86d1738b5e318"), looks := true }, kinds := [], alts := [], laidByText := true, laidKinds := [.handle], laidTests := true, laidLooks := .later }
def VersionsTellCardSaid : Prop := Claim7.holds Tryd.pinned (.plain (OpenSpec.ofChange versionsTellSpec)) versionsTellCard

/-- THE SECOND FORM's CARD OF 'lanelaw2.ValidTells'. -/
def validTellsUptoCard : Claim7 := { stood := { row := validTellsUptoRow, standIns := [], harness := (true, "41f26d4bea33203ef29c44f6cc5eed62881bb2e6b1e4c5c2f4f86d1738b5e318"), looks := true }, kinds := [], alts := [], laidByText := true, laidKinds := [.handle], laidTests := true, laidLooks := .later }
def ValidTellsUptoCardSaid : Prop := Claim7.holds Tryd.pinned (.plain (OpenSpec.upto validTellsSpec)) validTellsUptoCard

/-- THE SECOND FORM's CARD OF 'lanelaw2.SnapTells'. -/
def snapTellsUptoCard : Claim7 := { stood := { row := snapTellsUptoRow, standIns := [], harness := (true, "41f26d4bea33203ef29c44f6cc5eed62881bb2e6b1e4c5c2f4f86d1738b5e318"), looks := true }, kinds := [], alts := [], laidByText := true, laidKinds := [.handle], laidTests := true, laidLooks := .later }
def SnapTellsUptoCardSaid : Prop := Claim7.holds Tryd.pinned (.plain (OpenSpec.upto snapTellsSpec)) snapTellsUptoCard

/-- THE SECOND FORM's CARD OF 'lanelaw2.VersionsTell'. -/
def versionsTellUptoCard : Claim7 := { stood := { row := versionsTellUptoRow, standIns := [], harness := (true, "41f26d4bea33203ef29c44f6cc5eed62881bb2e6b1e4c5c2f4f86d1738b5e318"), looks := true }, kinds := [], alts := [], laidByText := true, laidKinds := [.handle], laidTests := true, laidLooks := .later }
def VersionsTellUptoCardSaid : Prop := Claim7.holds Tryd.pinned (.plain (OpenSpec.upto versionsTellSpec)) versionsTellUptoCard
end Rows
end Go.Proofs.YtigmgeaimcglhaaDoor

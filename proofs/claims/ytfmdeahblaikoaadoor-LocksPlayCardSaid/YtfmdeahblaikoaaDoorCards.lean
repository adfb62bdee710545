/-
  DERIVED. GIVEN WITH THE SEED: THE CARDS: each row of YtfmdeahblaikoaaDoorRows.lean that lists a variable, with what it lists TIED to the program's text (the seventh form; the later family's looks); each row that meets fmt, with fmt's text TOLD by the authors' own Lean function (tested against real Go, not proved from fmt's source: count such statements apart). THE CARD IS WHAT COUNTS. Prove the row's statement (the work); the ties are given (YtfmdeahblaikoaaDoorTie.lean); close each card by the builder's one call (the guide's Derived/Test/ToyasCard.lean, 'card_holds'). Laid BY PROGRAM, IN A SANDBOX (cutbox-door.mjs). By AI agents, Wed Nov 11 2026. No macro, syntax, notation, axiom, sorry.
-/
import Derived.Test.YtfmdeahblaikoaaDoorRows
import GoSem.ClaimSeven
namespace Go.Proofs.YtfmdeahblaikoaaDoor
namespace Rows

/-- THE TIED CARD OF 'lanelaw2.VersionsTell'. -/
def versionsTellCard : Claim7 := { stood := { row := versionsTellRow, standIns := [], harness := (true, "b26da9d4e5e451200277bf89c6eaef751ef07028d1afa714a1c81161b7a17cd2"), looks := true }, kinds := [], alts := [], laidByText := true, laidKinds := [.handle], laidTests := true, laidLooks := .later }
def VersionsTellCardSaid : Prop := Claim7.holds Tryd.pinned (.plain (OpenSpec.ofChange versionsTellSpec)) versionsTellCard

/-- THE TIED CARD OF 'lanelaw1.LocksPlay'. -/
def locksPlayCard : Claim7 := { stood := { row := locksPlayRow, standIns := [], harness := (true, "b26da9d4e5e451200277bf89c6eaef751ef07028d1afa714a1c81161b7a17cd2"), looks := true }, kinds := [], alts := [], laidByText := true, laidKinds := [.handle], laidTests := true, laidLooks := .later }
def LocksPlayCardSaid : Prop := Claim7.holds Tryd.pinned (.plain (OpenSpec.ofChange locksPlaySpec)) locksPlayCard

/-- THE TIED CARD OF 'lanelaw3.TreeTells'. -/
def treeTellsCard : Claim7 := { stood := { row := treeTellsRow, standIns := [], harness := (true, "b26da9d4e5e451200277bf89c6eaef751ef07028d1afa714a1c81161b7a17cd2"), looks := true }, kinds := [], alts := [], laidByText := true, laidKinds := [.handle], laidTests := true, laidLooks := .later }
def TreeTellsCardSaid : Prop := Claim7.holds Tryd.pinned (.plain (OpenSpec.ofChange treeTellsSpec)) treeTellsCard

/-- THE SECOND FORM's CARD OF 'lanelaw2.VersionsTell'. -/
def versionsTellUptoCard : Claim7 := { stood := { row := versionsTellUptoRow, standIns := [], harness := (true, "b26da9d4e5e451200277bf89c6eaef751ef07028d1afa714a1c81161b7a17cd2"), looks := true }, kinds := [], alts := [], laidByText := true, laidKinds := [.handle], laidTests := true, laidLooks := .later }
def VersionsTellUptoCardSaid : Prop := Claim7.holds Tryd.pinned (.plain (OpenSpec.upto versionsTellSpec)) versionsTellUptoCard

/-- THE SECOND FORM's CARD OF 'lanelaw1.LocksPlay'. -/
def locksPlayUptoCard : Claim7 := { stood := { row := locksPlayUptoRow, standIns := [], harness := (true, "b26da9d4e5e451200277bf89c6eaef751ef07028d1afa714a1c81161b7a17cd2"), looks := true }, kinds := [], alts := [], laidByText := true, laidKinds := [.handle], laidTests := true, laidLooks := .later }
def LocksPlayUptoCardSaid : Prop := Claim7.holds Tryd.pinned (.plain (OpenSpec.upto locksPlaySpec)) locksPlayUptoCard

/-- THE SECOND FORM's CARD OF 'lanelaw3.TreeTells'. -/
def treeTellsUptoCard : Claim7 := { stood := { row := treeTellsUptoRow, standIns := [], harness := (true, "b26da9d4e5e451200277bf89c6eaef751ef07028d1afa714a1c81161b7a17cd2"), looks := true }, kinds := [], alts := [], laidByText := true, laidKinds := [.handle], laidTests := true, laidLooks := .later }
def TreeTellsUptoCardSaid : Prop := Claim7.holds Tryd.pinned (.plain (OpenSpec.upto treeTellsSpec)) treeTellsUptoCard
end Rows
end Go.Proofs.YtfmdeahblaikoaaDoor

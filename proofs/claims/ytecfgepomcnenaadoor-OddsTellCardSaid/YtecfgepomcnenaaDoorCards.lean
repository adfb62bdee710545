/-
  DERIVED. GIVEN WITH THE SEED: THE CARDS: each row of YtecfgepomcnenaaDoorRows.lean that lists a variable, with what it lists TIED to the program's text (the seventh form; the later family's looks); each row that meets fmt, with fmt's text TOLD by the authors' own Lean function (tested against real Go, not proved from fmt's source: count such statements apart). THE CARD IS WHAT COUNTS. Prove the row's statement (the work); the ties are given (YtecfgepomcnenaaDoorTie.lean); close each card by the builder's one call (the guide's Derived/Test/ToyasCard.lean, 'card_holds'). Laid BY PROGRAM, IN A SANDBOX (cutbox-door.mjs). By AI agents, Wed Nov 11 2026. No macro, syntax, notation, axiom, sorry.
-/
import Derived.Test.YtecfgepomcnenaaDoorRows
import GoSem.ClaimSeven
namespace Go.Proofs.YtecfgepomcnenaaDoor
namespace Rows

/-- THE TIED CARD OF 'lanelaw1.OddsTell'. -/
def oddsTellCard : Claim7 := { stood := { row := oddsTellRow, standIns := [], harness := (true, "8386c4e13967b6adeca08523d27b78114c4c1ad7ba18c1943fd615534393944d"), looks := true }, kinds := [], alts := [], laidByText := true, laidKinds := [.handle], laidTests := true, laidLooks := .later }
def OddsTellCardSaid : Prop := Claim7.holds Tryd.pinned (.plain (OpenSpec.ofChange oddsTellSpec)) oddsTellCard

/-- THE TIED CARD OF 'lanelaw1.GraphTells'. -/
def graphTellsCard : Claim7 := { stood := { row := graphTellsRow, standIns := [], harness := (true, "8386c4e13967b6adeca08523d27b78114c4c1ad7ba18c1943fd615534393944d"), looks := true }, kinds := [], alts := [], laidByText := true, laidKinds := [.handle], laidTests := true, laidLooks := .later }
def GraphTellsCardSaid : Prop := Claim7.holds Tryd.pinned (.plain (OpenSpec.ofChange graphTellsSpec)) graphTellsCard

/-- THE TIED CARD OF 'lanelaw1.ViewTells'. -/
def viewTellsCard : Claim7 := { stood := { row := viewTellsRow, standIns := [], harness := (true, "8386c4e13967b6adeca08523d27b78114c4c1ad7ba18c1943fd615534393944d"), looks := true }, kinds := [], alts := [], laidByText := true, laidKinds := [.handle], laidTests := true, laidLooks := .later }
def ViewTellsCardSaid : Prop := Claim7.holds Tryd.pinned (.plain (OpenSpec.ofChange viewTellsSpec)) viewTellsCard

/-- THE SECOND FORM's CARD OF 'lanelaw1.OddsTell'. -/
def oddsTellUptoCard : Claim7 := { stood := { row := oddsTellUptoRow, standIns := [], harness := (true, "8386c4e13967b6adeca08523d27b78114c4c1ad7ba18c1943fd615534393944d"), looks := true }, kinds := [], alts := [], laidByText := true, laidKinds := [.handle], laidTests := true, laidLooks := .later }
def OddsTellUptoCardSaid : Prop := Claim7.holds Tryd.pinned (.plain (OpenSpec.upto oddsTellSpec)) oddsTellUptoCard

/-- THE SECOND FORM's CARD OF 'lanelaw1.GraphTells'. -/
def graphTellsUptoCard : Claim7 := { stood := { row := graphTellsUptoRow, standIns := [], harness := (true, "8386c4e13967b6adeca08523d27b78114c4c1ad7ba18c1943fd615534393944d"), looks := true }, kinds := [], alts := [], laidByText := true, laidKinds := [.handle], laidTests := true, laidLooks := .later }
def GraphTellsUptoCardSaid : Prop := Claim7.holds Tryd.pinned (.plain (OpenSpec.upto graphTellsSpec)) graphTellsUptoCard

/-- THE SECOND FORM's CARD OF 'lanelaw1.ViewTells'. -/
def viewTellsUptoCard : Claim7 := { stood := { row := viewTellsUptoRow, standIns := [], harness := (true, "8386c4e13967b6adeca08523d27b78114c4c1ad7ba18c1943fd615534393944d"), looks := true }, kinds := [], alts := [], laidByText := true, laidKinds := [.handle], laidTests := true, laidLooks := .later }
def ViewTellsUptoCardSaid : Prop := Claim7.holds Tryd.pinned (.plain (OpenSpec.upto viewTellsSpec)) viewTellsUptoCard
end Rows
end Go.Proofs.YtecfgepomcnenaaDoor

/-
  DERIVED. GIVEN WITH THE SEED: THE CARDS: each row of YtehodagoibgadaaDoorRows.lean that lists a variable, with what it lists TIED to the program's text (the seventh form; the later family's looks); each row that meets fmt, with fmt's text TOLD by the authors' own Lean function (tested against real Go, not proved from fmt's source: count such statements apart). THE CARD IS WHAT COUNTS. Prove the row's statement (the work); the ties are given (YtehodagoibgadaaDoorTie.lean); close each card by the builder's one call (the guide's Derived/Test/ToyasCard.lean, 'card_holds'). Laid BY PROGRAM, IN A SANDBOX (cutbox-door.mjs). By AI agents, Wed Nov 11 2026. No macro, syntax, notation, axiom, sorry.
-/
import Derived.Test.YtehodagoibgadaaDoorRows
import GoSem.ClaimSeven
namespace Go.Proofs.YtehodagoibgadaaDoor
namespace Rows

/-- THE TIED CARD OF 'lanelaw3.TreeTells'. -/
def treeTellsCard : Claim7 := { stood := { row := treeTellsRow, standIns := [], harness := (true, "802693b7088b5832c76f7bd5c81fa16da4eb5eeee0ab1884de5fb74106614863"), looks := true }, kinds := [], alts := [], laidByText := true, laidKinds := [.handle], laidTests := true, laidLooks := .later }
def TreeTellsCardSaid : Prop := Claim7.holds Tryd.pinned (.plain (OpenSpec.ofChange treeTellsSpec)) treeTellsCard

/-- THE TIED CARD OF 'lanelaw4.TreeDown'. -/
def treeDownCard : Claim7 := { stood := { row := treeDownRow, standIns := [], harness := (true, "802693b7088b5832c76f7bd5c81fa16da4eb5eeee0ab1884de5fb74106614863"), looks := true }, kinds := [], alts := [], laidByText := true, laidKinds := [.handle], laidTests := true, laidLooks := .later }
def TreeDownCardSaid : Prop := Claim7.holds Tryd.pinned (.plain (OpenSpec.ofChange treeDownSpec)) treeDownCard

/-- THE SECOND FORM's CARD OF 'lanelaw3.TreeTells'. -/
def treeTellsUptoCard : Claim7 := { stood := { row := treeTellsUptoRow, standIns := [], harness := (true, "802693b7088b5832c76f7bd5c81fa16da4eb5eeee0ab1884de5fb74106614863"), looks := true }, kinds := [], alts := [], laidByText := true, laidKinds := [.handle], laidTests := true, laidLooks := .later }
def TreeTellsUptoCardSaid : Prop := Claim7.holds Tryd.pinned (.plain (OpenSpec.upto treeTellsSpec)) treeTellsUptoCard

/-- THE SECOND FORM's CARD OF 'lanelaw4.TreeDown'. -/
def treeDownUptoCard : Claim7 := { stood := { row := treeDownUptoRow, standIns := [], harness := (true, "802693b7088b5832c76f7bd5c81fa16da4eb5eeee0ab1884de5fb74106614863"), looks := true }, kinds := [], alts := [], laidByText := true, laidKinds := [.handle], laidTests := true, laidLooks := .later }
def TreeDownUptoCardSaid : Prop := Claim7.holds Tryd.pinned (.plain (OpenSpec.upto treeDownSpec)) treeDownUptoCard
end Rows
end Go.Proofs.YtehodagoibgadaaDoor

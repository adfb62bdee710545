
/-
  CONTRACTS of laneref1.Tx, In, lanelaw4.pieces, lanesame.Ops.
-/
import Derived.Test.YtaaahfbcpgdoiaaGreatDoorQ7
import Derived.Test.YtaaahfbcpgdoiaaGreatDoorQ1
import Derived.Deep.RegionHeld3

namespace Go.Proofs.YtaaahfbcpgdoiaaGreatDoor
open Go.RowKit

/-- The deals along numbers: of numbers that are deals, each once; and their ops. -/
def orderGo (order : List Int) : List Int → List Int
  | [] => order
  | x :: r => if txB x = true ∧ x ∉ order then orderGo (order ++ [x]) r else orderGo order r
def orderF (l : List Int) : List Int := orderGo [] (l.take 12)
def piecesH (a b : Int) (order : List Int) : List HOp := order.flatMap fun t => [⟨t, 1, a⟩, ⟨t, 2, b⟩, ⟨t, 3, 0⟩]
theorem piecesH_snoc (a b : Int) (order : List Int) (x : Int) : piecesH a b (order ++ [x]) = piecesH a b order ++ [⟨x, 1, a⟩, ⟨x, 2, b⟩, ⟨x, 3, 0⟩] := by simp [piecesH]

end Go.Proofs.YtaaahfbcpgdoiaaGreatDoor

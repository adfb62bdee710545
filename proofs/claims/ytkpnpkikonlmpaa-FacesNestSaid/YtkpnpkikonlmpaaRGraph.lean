
/-
  CONTRACTS of the references' laneref1.Graph, Put.
-/
import Derived.Test.YtkpnpkikonlmpaaGraph
import Derived.Test.YtkpnpkikonlmpaaPieces

namespace Go.Proofs.Ytkpnpkikonlmpaa
open Go.RowKit

/-! ### Put. -/
theorem insS_step {x y : Int} {l t : List Int} (h : l = y :: t) : insS ltI x l = if y < x then y :: insS ltI x t else if y = x then y :: t else x :: y :: t := by
  rw [h, insS]
  by_cases h1 : y < x
  · rw [if_pos (by simp [ltI, h1]), if_pos h1]
  · rw [if_neg (by simp [ltI]; omega), if_neg h1]

end Go.Proofs.Ytkpnpkikonlmpaa


/-
  CONTRACTS of history.Own, slices.Equal at ops, odds.SameDeals.
-/
import Derived.Test.YtmamejkdheigjaaGreatDoorAlikeP
import Derived.Test.YtmamejkdheigjaaGreatDoorN0

namespace Go.Proofs.YtmamejkdheigjaaGreatDoor
open Go.RowKit

/-! ### slices.Equal at ops. -/
/-! ### odds.SameDeals -/
theorem ownL_len (h : List HOp) (t : Int) : (ownL h t).length ≤ h.length := List.length_filter_le _ _
def sameGo (h g : List HOp) : Nat → Int → Bool
  | 0, _ => true
  | r + 1, t => decide (ownL h t = ownL g t) && sameGo h g r (t + 1)
theorem sameGo_eq (h g : List HOp) : sameGo h g 6 1 = sameOwnB h g := by
  unfold sameOwnB
  simp only [sameGo, List.all_cons, List.all_nil]
  rfl
end Go.Proofs.YtmamejkdheigjaaGreatDoor

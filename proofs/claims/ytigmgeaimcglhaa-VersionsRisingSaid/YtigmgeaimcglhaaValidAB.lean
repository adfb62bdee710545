
/-
  PLAIN LAW: by rising numbers all are done (versions).
-/
import Derived.Test.YtigmgeaimcglhaaValidZ
import Derived.Test.YtigmgeaimcglhaaN1

namespace Go.Proofs.Ytigmgeaimcglhaa
open Go.RowKit

/-- Deals of rising numbers, one behind the other: each is done, and saw the one ahead. -/
def risV (n i : Int) : VSt := playV verR (piecesH i i ((List.range n.toNat).map fun k : Nat => (k : Int) + 1))
theorem ver_rising : ∀ n ∈ [1, 2, 3, 4, 5, 6], ∀ i ∈ [1, 2, 3, 4, 5, (6 : Int)], (risV n i).dn = (List.range n.toNat).map (fun k : Nat => (k : Int) + 1) ∧ (doneD (risV n i)).map (·.tx) = (List.range n.toNat).map (fun k : Nat => (k : Int) + 1) ∧ ((doneD (risV n i)).flatMap (·.seen)) = (List.range n.toNat).map (fun k : Nat => (⟨(k : Int) + 1, i, k⟩ : HOp)) ∧ (lastOf (doneD (risV n i))).getD (i.toNat - 1) 0 = n := by decide +kernel
end Go.Proofs.Ytigmgeaimcglhaa

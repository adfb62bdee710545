
/-
  CONTRACTS of view.look, Last.
-/
import Derived.Test.YtahbaddclacakaaDoorPlay

namespace Go.Proofs.YtahbaddclacakaaDoor
open Go.RowKit

def lookGo (i : Int) (last : List Int) (out : List (Int × Int)) : List HOp → List (Int × Int) × List Int
  | [] => (out, last)
  | o :: t =>
    if o.what = 1 then lookGo (i + 1) last (out ++ [(i, last.getD (o.item.toNat - 1) 0)]) t
    else if o.what = 2 then lookGo (i + 1) (last.set (o.item.toNat - 1) o.tx) out t
    else lookGo (i + 1) last out t
def lookF (h : List HOp) : List (Int × Int) × List Int := lookGo 0 (List.replicate 6 0) [] h

theorem dcells_append (a b : List (Int × Int)) : dcells (a ++ b) = dcells a ++ dcells b := by simp [dcells]
theorem oneD (l : List (Int × Int)) : ∀ u ∈ dcells l, u.oneCell' = true := by
  intro u hu
  simp only [dcells, List.mem_flatMap] at hu
  obtain ⟨o, _, ho⟩ := hu
  simp at ho
  rcases ho with rfl | rfl <;> rfl

end Go.Proofs.YtahbaddclacakaaDoor


/-
  PLAIN LAW: hand over hand down a branch (down_facts).
-/
import Derived.Test.YtehodagoibgadaaDoorTreeQ

namespace Go.Proofs.YtehodagoibgadaaDoor
open Go.RowKit

/-- Down a tree of one branch, hand over hand. -/
def downT (t : Int) (n : Nat) : List GOp := ((List.range n).flatMap fun i : Nat => ⟨t, (i : Int) + 1, true⟩ :: (if 0 < i then [⟨t, (i : Int), false⟩] else [])) ++ [⟨t, (n : Int), false⟩]
def downL (n : Nat) : List GOp := downT 1 n ++ downT 2 n
def branchL (n : Nat) : List Int := (List.range n).map fun i : Nat => (i : Int)
theorem down_dec : ∀ n : Fin 6, legalF (branchL (n.val + 1)) (downL (n.val + 1)) = (0, 0) ∧ rawG (downL (n.val + 1)) = List.replicate (n.val + 1) (1, 2) := by decide +kernel
theorem down_facts {n : Nat} (h1 : 1 ≤ n) (h6 : n ≤ 6) : legalF (branchL n) (downL n) = (0, 0) ∧ edgesG (downL n) = [(1, 2)] := by
  have h := down_dec ⟨n - 1, by omega⟩
  have e : n - 1 + 1 = n := by omega
  simp only [e] at h
  refine ⟨h.1, ?_⟩
  unfold edgesG
  rw [h.2]
  refine up_ext sloE (up_sortS sloE _) (by simp [Up]) fun x => ?_
  rw [mem_sortS, List.mem_replicate, List.mem_singleton]
  exact ⟨fun h => h.2, fun h => ⟨by omega, h⟩⟩
end Go.Proofs.YtehodagoibgadaaDoor

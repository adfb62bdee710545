
/-
  CONTRACT of snap.Run: what any ops come to, by what was when deals began.
-/
import Derived.Test.YtfmdeahblaikoaaDoorValidOut
import Derived.Test.YtfmdeahblaikoaaDoorSnap

namespace Go.Proofs.YtfmdeahblaikoaaDoor
open Go.RowKit

theorem own_capV {w : World} {base : Nat} {e : TypeId} {size : Nat} {A : Option Addr} {n c : Nat} {xs : List Value} (h : w.ownsRow base e size (.slice A n c) n xs) : n ≤ c := by
  obtain ⟨_, ⟨he, h0⟩ | ⟨g, cap, cur, he, _, _, h1, _⟩⟩ := h
  · omega
  · injection he with e1 e2 e3; omega
/-- An outcome: who is done, what was seen, who wrote last. -/
def OutC (w w' : World) (e : Ending) (dn : List Int) (seen : List HOp) (last : List Int) : Prop :=
  ∃ A1 c1 A2 c2 b n1 n2, e = .returned (.tuple #[.agg #[.slice A1 n1 c1, .slice A2 n2 c2, .slice (some ⟨b, 0, none⟩) 6 6], .nilIface]) ∧ Rd w' w'.heap.size 1 A1 n1 (cellsI dn) ∧ Rd w' w'.heap.size 3 A2 n2 (cellsH seen) ∧ Rd w' w'.heap.size 1 (some ⟨b, 0, none⟩) 6 (cellsI last) ∧ Below w.heap.size w w' ∧ n1 ≤ c1
end Go.Proofs.YtfmdeahblaikoaaDoor

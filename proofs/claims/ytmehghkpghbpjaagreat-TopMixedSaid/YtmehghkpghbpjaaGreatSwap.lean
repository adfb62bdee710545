
/-
  CONTRACT of odds.Swap: the history with two ops that changed places, or the fault.
-/
import Derived.Test.YtmehghkpghbpjaaGreatQ7
import Derived.Test.YtmehghkpghbpjaaGreatQ1
import Derived.StillTailTactics
import Derived.BigRegion
import Derived.RegionTactic
import Derived.Deep.RegionHeld3
import Derived.IntWalk

namespace Go.Proofs.YtmehghkpghbpjaaGreat
open Go.RowKit

def swapL (h : List HOp) (i : Nat) : List HOp := match h[i]?, h[i + 1]? with
  | some a, some b => (h.set i b).set (i + 1) a
  | _, _ => h

theorem own_frozen {w : World} {base : Nat} {e : TypeId} {size g n c : Nat} {xs : List Value} (h : w.ownsRow base e size (.slice (some ⟨g, 0, none⟩) n c) n xs) (j : Nat) : w.frozen? ⟨g, j, none⟩ = false := by
  obtain ⟨_, ⟨he, _⟩ | ⟨g', cap, cur, he, _, hg, _⟩⟩ := h
  · cases he
  · injection he with e1; injection e1 with e1; injection e1 with e1; subst e1; simp [World.frozen?, hg]
theorem own_addr {w : World} {base : Nat} {e : TypeId} {size n c : Nat} {A : Option Addr} {xs : List Value} (h : w.ownsRow base e size (.slice A n c) n xs) (hn : 0 < n) : ∃ g, A = some ⟨g, 0, none⟩ ∧ base ≤ g ∧ g < w.heap.size := by
  obtain ⟨_, ⟨he, h0⟩ | ⟨g', cap, cur, he, hb, hg, _⟩⟩ := h
  · omega
  · injection he with e1; exact ⟨g', e1, hb, (Array.getElem?_eq_some_iff.1 hg).1⟩

end Go.Proofs.YtmehghkpghbpjaaGreat

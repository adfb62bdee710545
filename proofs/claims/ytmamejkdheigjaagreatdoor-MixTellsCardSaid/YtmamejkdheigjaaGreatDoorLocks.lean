
/-
  CONTRACTS of locks.odds, right, free, of and their tests. A lock is held as an HOp: deal, item, mode (the fields in their places: tx, what, item).
-/
import Derived.Test.YtmamejkdheigjaaGreatDoorN0
import Derived.Test.YtmamejkdheigjaaGreatDoorSame
import Derived.BigQuiet
import Derived.Handy

namespace Go.Proofs.YtmamejkdheigjaaGreatDoor
open Go.RowKit

def lrightB (o : HOp) : Bool := txB o.tx && (txB o.what && decide (o.item = 1 ∨ o.item = 2))
def loddsB (a b : HOp) : Bool := decide (a.tx ≠ b.tx ∧ a.what = b.what ∧ (a.item = 2 ∨ b.item = 2))

theorem idxGo_any' {α : Type} (p : α → Bool) (h : List α) : decide (0 ≤ idxGo p 0 h) = h.any p := by
  rcases idxGo_spec p 0 h with ⟨h1, h2⟩ | ⟨i, o, h1, h2, h3, h4⟩
  · rw [h2]
    have : h.any p = false := by rw [List.any_eq_false]; intro x hx; simp [h1 x hx]
    rw [this]; rfl
  · rw [h4]
    have : h.any p = true := List.any_eq_true.2 ⟨o, List.mem_of_getElem? h1, h2⟩
    rw [this]; simp
/-! ### The tests that catch variables. -/
/-! ### free, of. -/
def freeB (l : List HOp) (x : HOp) : Bool := !l.any (loddsB x)
def ofP (tx item : Int) (y : HOp) : Bool := decide (y.tx = tx) && decide (y.what = item)

end Go.Proofs.YtmamejkdheigjaaGreatDoor

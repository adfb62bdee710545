
/-
  CONTRACTS of lanesame.Ints, Ops: whether two lists are the same.
-/
import Derived.Test.YtmamejkdheigjaaGreatDoorApp
import Derived.Deep.QuietTactic
import Derived.BigQuiet

namespace Go.Proofs.YtmamejkdheigjaaGreatDoor
open Go.RowKit

theorem below_drewN {B : Nat} {a w : World} (h : Below B a w) (n : Nat) : Below B a (w.drewN n) := ⟨h.os, h.tape, h.output, h.size, h.block⟩

theorem take_same {α : Type} {xs ys : List α} {k : Nat} {x y : α} (h : xs.take k = ys.take k) (hx : xs[k]? = some x) (hy : ys[k]? = some y) : (x = y → xs.take (k + 1) = ys.take (k + 1)) ∧ (x ≠ y → xs ≠ ys) := by
  refine ⟨fun e => ?_, fun e e2 => ?_⟩
  · rw [List.take_add_one, List.take_add_one, h, hx, hy, e]
  · subst e2; rw [hx] at hy; exact e (Option.some.inj hy)

end Go.Proofs.YtmamejkdheigjaaGreatDoor

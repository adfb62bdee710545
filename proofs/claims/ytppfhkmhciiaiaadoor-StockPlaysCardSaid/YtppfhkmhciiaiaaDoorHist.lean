
/-
  CONTRACTS of history.Tx, Item, Ends, right: each returns what the plain function of its name computes.
-/
import Derived.Test.YtppfhkmhciiaiaaDoorRows
import Derived.WalkKit
import Derived.WalkSpells
import Derived.WalkLawsBesides
import Derived.Lib.Hide
import Derived.Handy

namespace Go.Proofs.YtppfhkmhciiaiaaDoor
open Go.RowKit

/-- An op of a history. -/
structure HOp where
  tx : Int
  what : Int
  item : Int
  deriving DecidableEq, Repr, Inhabited

def HOp.val (o : HOp) : Value := .agg #[.int .i64 o.tx, .int .i64 o.what, .int .i64 o.item]
def txB (n : Int) : Bool := decide (1 ≤ n ∧ n ≤ 6)
def endsB (o : HOp) : Bool := decide (o.what = 3 ∨ o.what = 4)
def rightB (o : HOp) : Bool := txB o.tx && decide (1 ≤ o.what ∧ o.what ≤ 4) && (if endsB o then decide (o.item = 0) else txB o.item)

theorem bcell {W w1 : World} (hb : Below W.heap.size W w1) : (∀ b o, b < W.heap.size → w1.cell? ⟨b, o, none⟩ = W.cell? ⟨b, o, none⟩) ∧ (∀ b o, b < W.heap.size → w1.frozen? ⟨b, o, none⟩ = W.frozen? ⟨b, o, none⟩) :=
  ⟨fun b o h => hb.cell (p := ⟨b, o, none⟩) h, fun b o h => hb.frozen (p := ⟨b, o, none⟩) h⟩

theorem tx_any (n : Int) (w : World) : Calls Tryd.prog 12 #[.int .i64 n] w fun e w' => e = .returned (.bool (txB n)) ∧ w = w' := by
  by_cases h1 : 1 ≤ n <;> by_cases h2 : n ≤ 6
  all_goals
    go_enter Tryd.func12, Tryd.ntmps12
    go_wp2
    go_ret
    exact ⟨by simp [txB]; omega, rfl⟩

end Go.Proofs.YtppfhkmhciiaiaaDoor

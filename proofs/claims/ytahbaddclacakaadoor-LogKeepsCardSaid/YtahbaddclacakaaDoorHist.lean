
/-
  CONTRACTS of history.Tx, Item, Ends, right: each returns what the plain function of its name computes.
-/
import Derived.Test.YtahbaddclacakaaDoorRows
import Derived.WalkKit
import Derived.WalkSpells
import Derived.WalkLawsBesides
import Derived.Lib.Hide
import Derived.Handy

namespace Go.Proofs.YtahbaddclacakaaDoor
open Go.RowKit

/-- An op of a history. -/
structure HOp where
  tx : Int
  what : Int
  item : Int
  deriving DecidableEq, Repr, Inhabited

def HOp.val (o : HOp) : Value := .agg #[.int .i64 o.tx, .int .i64 o.what, .int .i64 o.item]
def txB (n : Int) : Bool := decide (1 ≤ n ∧ n ≤ 6)
def endsB (o : HOp) : Bool := decide (o.what = 3 ∨ o.what = 4)
def rightB (o : HOp) : Bool := txB o.tx && decide (1 ≤ o.what ∧ o.what ≤ 4) && (if endsB o then decide (o.item = 0) else txB o.item)

theorem bcell {W w1 : World} (hb : Below W.heap.size W w1) : (∀ b o, b < W.heap.size → w1.cell? ⟨b, o, none⟩ = W.cell? ⟨b, o, none⟩) ∧ (∀ b o, b < W.heap.size → w1.frozen? ⟨b, o, none⟩ = W.frozen? ⟨b, o, none⟩) :=
  ⟨fun b o h => hb.cell (p := ⟨b, o, none⟩) h, fun b o h => hb.frozen (p := ⟨b, o, none⟩) h⟩

theorem tx_any (n : Int) (w : World) : Calls Tryd.prog 42 #[.int .i64 n] w fun e w' => e = .returned (.bool (txB n)) ∧ w = w' := by
  by_cases h1 : 1 ≤ n <;> by_cases h2 : n ≤ 6
  all_goals
    go_enter Tryd.func42, Tryd.ntmps42
    go_wp2
    go_ret
    exact ⟨by simp [txB]; omega, rfl⟩

theorem item_any (n : Int) (w : World) : Calls Tryd.prog 62 #[.int .i64 n] w fun e w' => e = .returned (.bool (txB n)) ∧ w = w' := by
  by_cases h1 : 1 ≤ n <;> by_cases h2 : n ≤ 6
  all_goals
    go_enter Tryd.func62, Tryd.ntmps62
    go_wp2
    go_ret
    exact ⟨by simp [txB]; omega, rfl⟩

theorem ends_any (o : HOp) (w : World) : Calls Tryd.prog 45 #[o.val] w fun e w' => e = .returned (.bool (endsB o)) ∧ Below w.heap.size w w' := by
  obtain ⟨tx, what, item⟩ := o
  unfold HOp.val
  by_cases h1 : what = 3
  · subst h1
    go_enter Tryd.func45, Tryd.ntmps45
    go_wp2
    go_ret
    exact ⟨by simp [endsB], (Below.refl _ _).alloc (Nat.le_refl _) _⟩
  · by_cases h2 : what = 4
    all_goals
      go_enter Tryd.func45, Tryd.ntmps45
      go_wp2
      go_ret
      exact ⟨by simp [endsB, h1, h2], (Below.refl _ _).alloc (Nat.le_refl _) _⟩

set_option maxHeartbeats 400000 in
theorem right_any (o : HOp) (w : World) : Calls Tryd.prog 44 #[o.val] w fun e w' => e = .returned (.bool (rightB o)) ∧ Below w.heap.size w w' := by
  obtain ⟨tx, what, item⟩ := o
  have E := ends_any ⟨tx, what, item⟩
  unfold HOp.val at E ⊢
  cases hT : txB tx
  · have hr : rightB ⟨tx, what, item⟩ = false := by simp [rightB, hT]
    rw [hr]
    go_enter Tryd.func44, Tryd.ntmps44
    go_wp2_with (go_at_call 42; refine (tx_any _ _).mono ?_; rintro e w' ⟨rfl, rfl⟩; rw [hT])
    go_ret
    exact ⟨rfl, (Below.refl _ _).alloc (Nat.le_refl _) _⟩
  by_cases h1 : what < 1
  · have hr : rightB ⟨tx, what, item⟩ = false := by simp [rightB]; omega
    rw [hr]
    go_enter Tryd.func44, Tryd.ntmps44
    go_wp2_with (go_at_call 42; refine (tx_any _ _).mono ?_; rintro e w' ⟨rfl, rfl⟩; rw [hT])
    go_ret
    exact ⟨rfl, (Below.refl _ _).alloc (Nat.le_refl _) _⟩
  by_cases h2 : 4 < what
  · have hr : rightB ⟨tx, what, item⟩ = false := by simp [rightB]; omega
    rw [hr]
    go_enter Tryd.func44, Tryd.ntmps44
    go_wp2_with (go_at_call 42; refine (tx_any _ _).mono ?_; rintro e w' ⟨rfl, rfl⟩; rw [hT])
    go_ret
    exact ⟨rfl, (Below.refl _ _).alloc (Nat.le_refl _) _⟩
  cases hE : endsB ⟨tx, what, item⟩
  · have hr : rightB ⟨tx, what, item⟩ = txB item := by simp [rightB, hT, hE]; omega
    rw [hr]
    go_enter Tryd.func44, Tryd.ntmps44
    go_wp2_with (first
      | (go_at_call 42; refine (tx_any _ _).mono ?_; rintro e w' ⟨rfl, rfl⟩; rw [hT])
      | (go_at_call 45; refine (E _).mono ?_; rintro e w1 ⟨rfl, hb⟩; rw [hE]; obtain ⟨hc, hf⟩ := bcell hb)
      | (go_at_call 62; refine (item_any _ _).mono ?_; rintro e w' ⟨rfl, rfl⟩))
    go_ret
    exact ⟨rfl, ((Below.refl _ _).alloc (Nat.le_refl _) _).trans (hb.mono (by simp))⟩
  · have hr : rightB ⟨tx, what, item⟩ = decide (item = 0) := by simp [rightB, hT, hE]; omega
    rw [hr]
    go_enter Tryd.func44, Tryd.ntmps44
    go_wp2_with (first
      | (go_at_call 42; refine (tx_any _ _).mono ?_; rintro e w' ⟨rfl, rfl⟩; rw [hT])
      | (go_at_call 45; refine (E _).mono ?_; rintro e w1 ⟨rfl, hb⟩; rw [hE]; obtain ⟨hc, hf⟩ := bcell hb))
    go_ret
    exact ⟨by simp; rfl, ((Below.refl _ _).alloc (Nat.le_refl _) _).trans (hb.mono (by simp))⟩
end Go.Proofs.YtahbaddclacakaaDoor

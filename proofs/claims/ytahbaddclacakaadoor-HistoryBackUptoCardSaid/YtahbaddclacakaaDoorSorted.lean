
/-
  CONTRACTS of slices.Values at numbers (a range over a function), AppendSeq, Collect, Sorted over it.
-/
import Derived.Test.YtahbaddclacakaaDoorN6
import Derived.Test.YtahbaddclacakaaDoorSW

namespace Go.Proofs.YtahbaddclacakaaDoor
open Go.RowKit Go.Shelf

attribute [local go_sem] Oper.semAt_some

def iVals (x : Int) : Array Value := #[.int .i64 x]
theorem own_setb {w : World} {base : Nat} {e t : TypeId} {size : Nat} {v : Value} {n g : Nat} {xs cs : List Value} (h : w.ownsRow base e size v n xs) (hB : Blk w g t cs) (hne : t ≠ e) (i : Nat) (u : Value) : (w.setCell ⟨g, i, none⟩ u).ownsRow base e size v n xs := by
  refine h.kept (row := some g) ⟨rfl, rfl, rfl, by simp [World.setCell], fun k _ hk => Below.heap_setCell w _ u k (fun e => hk (by rw [e]))⟩ ?_
  rcases h.2 with ⟨rfl, _⟩ | ⟨g', cap, cur, rfl, _, hh, _⟩
  · exact .inl rfl
  · right
    intro he
    simp [Value.ownBlock] at he
    subst he
    unfold Blk at hB
    rw [hB] at hh
    injection hh with hh
    injection hh with _ ht
    exact hne ht
/-! ### AppendSeq. -/
def ApI (bx base : Nat) (s : List Int) (W : World) : Prop := ∃ v, Blk W bx 34 [v] ∧ W.ownsRow base 3 1 v s.length (cellsI s)
theorem apI_own (B bx base : Nat) : OwnFrom B (ApI bx base) := fun s X Y row hs hg hrow => by
  obtain ⟨v, h1, h2⟩ := hs
  refine ⟨v, (hg.block bx h1.lt (fun e => ?_)).trans h1, h2.kept hg ?_⟩
  · obtain ⟨_, o, ho, hc⟩ := hrow bx e.symm
    rw [show X.heap[bx]? = _ from h1] at ho; cases ho; cases hc
  · rcases h2.2 with ⟨rfl, _⟩ | ⟨g, cap, cur, rfl, _, hh, _⟩
    · exact .inl rfl
    · right
      intro e
      obtain ⟨_, o, ho, hc⟩ := hrow g (by simpa [Value.ownBlock] using e.symm)
      rw [hh] at ho; cases ho; cases hc
/-! ### Collect, Sorted. -/
end Go.Proofs.YtahbaddclacakaaDoor

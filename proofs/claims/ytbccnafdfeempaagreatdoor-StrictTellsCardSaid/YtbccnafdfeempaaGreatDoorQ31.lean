
/-
  CONTRACT of graph.Reach.
  CONTRACT of graph.Ring.
-/
import Derived.Test.YtbccnafdfeempaaGreatDoorQ25
import Derived.Test.YtbccnafdfeempaaGreatDoorQueue

namespace Go.Proofs.YtbccnafdfeempaaGreatDoor
open Go.RowKit

def bfsIn (d : Int) : List Bool → List Int → List (Int × Int) → List Bool × List Int
  | seen, row, [] => (seen, row)
  | seen, row, e :: t => if e.1 ≠ d ∨ seen.getD e.2.toNat false = true then bfsIn d seen row t else bfsIn d (seen.set e.2.toNat true) (row ++ [e.2]) t
def bfsGo (E : List (Int × Int)) : Nat → List Bool → List Int → List Bool
  | 0, seen, _ => seen
  | _ + 1, seen, [] => seen
  | f + 1, seen, d :: r => bfsGo E f (bfsIn d seen (d :: r) E).1 (bfsIn d seen (d :: r) E).2.tail
def reachF (E : List (Int × Int)) (a b : Int) : Bool := (bfsGo E 8 (List.replicate 7 false) [a]).getD b.toNat false
theorem bfsIn_step {d : Int} {seen : List Bool} {row : List Int} {e : Int × Int} {l t : List (Int × Int)} (h : l = e :: t) : bfsIn d seen row l = if e.1 ≠ d ∨ seen.getD e.2.toNat false = true then bfsIn d seen row t else bfsIn d (seen.set e.2.toNat true) (row ++ [e.2]) t := by rw [h, bfsIn]
def falses (l : List Bool) : Nat := l.countP fun b => !b
theorem falses_set : ∀ {l : List Bool} {i : Nat}, l[i]? = some false → falses (l.set i true) + 1 = falses l
  | [], i, h => by simp at h
  | b :: t, 0, h => by
    obtain rfl : b = false := by simpa using h
    simp [falses]
  | b :: t, i + 1, h => by
    have := falses_set (l := t) (i := i) (by simpa using h)
    unfold falses at this ⊢
    rw [List.set_cons_succ, List.countP_cons, List.countP_cons]; omega
def wfalse (w : World) (g : Nat) : Nat := match w.heap[g]? with
  | some (.cells cur _ _) => cur.toList.countP fun v => match v with | .bool false => true | _ => false
  | _ => 0
theorem wfalse_blk {w : World} {g : Nat} {t : TypeId} {l : List Bool} (h : Blk w g t (l.map .bool)) : wfalse w g = falses l := by
  unfold wfalse
  rw [show w.heap[g]? = _ from h]
  simp only [falses, List.countP_map]
  congr 1
  funext b
  cases b <;> rfl

end Go.Proofs.YtbccnafdfeempaaGreatDoor


namespace Go.Proofs.YtbccnafdfeempaaGreatDoor
open Go.RowKit

def ringOf (E : List (Int × Int)) (many : Int) : Option (List Int) := tryGo (fun d => roundGo E (many.toNat - 1) [d]) 6 1
def ringF (E : List (Int × Int)) : Option (List Int) := tryGo (ringOf E) 6 1
def RingPost (E : List (Int × Int)) (w : World) (e : Ending) (w' : World) : Prop :=
  Below w.heap.size w w' ∧ ((ringF E = none ∧ e = .returned (.tuple #[.slice none 0 0, errV 5])) ∨ ∃ L a n c, ringF E = some L ∧ e = .returned (.tuple #[.slice (some a) n c, .nilIface]) ∧ Rd w' w'.heap.size 1 (some a) n (cellsI L))

end Go.Proofs.YtbccnafdfeempaaGreatDoor


/-
  CONTRACT of the reference's laneref1.Sort: deals along edges, the least first; or it goes around.
-/
import Derived.Test.YtkpnpkikonlmpaaRGraph
import Derived.Test.YtkpnpkikonlmpaaGraphS

namespace Go.Proofs.Ytkpnpkikonlmpaa
open Go.RowKit

def stopE (deals out : List Int) (d : Int) (e : Int × Int) : Bool := decide (e.2 = d) && (decide (e.1 ∈ deals) && !decide (e.1 ∈ out))
def rokB (E : List (Int × Int)) (deals out : List Int) (d : Int) : Bool := !decide (d ∈ out) && !E.any (stopE deals out d)
def rbest (ok : Int → Bool) : Int → List Int → Int
  | b, [] => b
  | b, d :: t => rbest ok (if ok d = true ∧ (b = 0 ∨ d < b) then d else b) t
def rsortGo (E : List (Int × Int)) (deals : List Int) : Nat → List Int → Option (List Int)
  | 0, out => some out
  | f + 1, out => if rbest (rokB E deals out) 0 deals = 0 then none else rsortGo E deals f (out ++ [rbest (rokB E deals out) 0 deals])
def rsortF (E : List (Int × Int)) (deals : List Int) : Option (List Int) := rsortGo E deals deals.length []
def RSortPost (E : List (Int × Int)) (deals : List Int) (w : World) (e : Ending) (w' : World) : Prop :=
  ∃ v k r L, e = .returned (.tuple #[v, .bool r]) ∧ w'.ownsRow w.heap.size 3 1 v k (cellsI L) ∧ ((rsortF E deals = some L ∧ r = true) ∨ (rsortF E deals = none ∧ r = false ∧ L = [])) ∧ Below w.heap.size w w'
theorem rbest_step (ok : Int → Bool) {b d : Int} {l t : List Int} (h : l = d :: t) : rbest ok b l = rbest ok (if ok d = true ∧ (b = 0 ∨ d < b) then d else b) t := by rw [h, rbest]

end Go.Proofs.Ytkpnpkikonlmpaa

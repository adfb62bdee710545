
/-
  CONTRACTS of the references' laneref1.Graph, Put.
  CONTRACT of the reference's laneref1.Sort: deals along edges, the least first; or it goes around.
  A table of seven rows of seven Bools that tells which edges there are, and CONTRACT of the reference's laneref1.Ring.
-/
import Derived.Test.YtaaahfbcpgdoiaaGreatDoorQ11
import Derived.Test.YtaaahfbcpgdoiaaGreatDoorPieces
import Derived.Test.YtaaahfbcpgdoiaaGreatDoorQ13
import Derived.StillTailTactics
import Derived.Laws.CopyOwn

namespace Go.Proofs.YtaaahfbcpgdoiaaGreatDoor
open Go.RowKit

/-! ### Put. -/
theorem insS_step {x y : Int} {l t : List Int} (h : l = y :: t) : insS ltI x l = if y < x then y :: insS ltI x t else if y = x then y :: t else x :: y :: t := by
  rw [h, insS]
  by_cases h1 : y < x
  · rw [if_pos (by simp [ltI, h1]), if_pos h1]
  · rw [if_neg (by simp [ltI]; omega), if_neg h1]

end Go.Proofs.YtaaahfbcpgdoiaaGreatDoor


namespace Go.Proofs.YtaaahfbcpgdoiaaGreatDoor
open Go.RowKit

def stopE (deals out : List Int) (d : Int) (e : Int × Int) : Bool := decide (e.2 = d) && (decide (e.1 ∈ deals) && !decide (e.1 ∈ out))
def rokB (E : List (Int × Int)) (deals out : List Int) (d : Int) : Bool := !decide (d ∈ out) && !E.any (stopE deals out d)
def rbest (ok : Int → Bool) : Int → List Int → Int
  | b, [] => b
  | b, d :: t => rbest ok (if ok d = true ∧ (b = 0 ∨ d < b) then d else b) t
def rsortGo (E : List (Int × Int)) (deals : List Int) : Nat → List Int → Option (List Int)
  | 0, out => some out
  | f + 1, out => if rbest (rokB E deals out) 0 deals = 0 then none else rsortGo E deals f (out ++ [rbest (rokB E deals out) 0 deals])
def rsortF (E : List (Int × Int)) (deals : List Int) : Option (List Int) := rsortGo E deals deals.length []
def RSortPost (E : List (Int × Int)) (deals : List Int) (w : World) (e : Ending) (w' : World) : Prop :=
  ∃ v k r L, e = .returned (.tuple #[v, .bool r]) ∧ w'.ownsRow w.heap.size 3 1 v k (cellsI L) ∧ ((rsortF E deals = some L ∧ r = true) ∨ (rsortF E deals = none ∧ r = false ∧ L = [])) ∧ Below w.heap.size w w'
theorem rbest_step (ok : Int → Bool) {b d : Int} {l t : List Int} (h : l = d :: t) : rbest ok b l = rbest ok (if ok d = true ∧ (b = 0 ∨ d < b) then d else b) t := by rw [h, rbest]

end Go.Proofs.YtaaahfbcpgdoiaaGreatDoor


namespace Go.Proofs.YtaaahfbcpgdoiaaGreatDoor
open Go.RowKit

def matL (E : List (Int × Int)) : List Bool := (List.range 49).map fun i => decide ((((i / 7 : Nat) : Int), ((i % 7 : Nat) : Int)) ∈ E)
theorem mat_len (E : List (Int × Int)) : (matL E).length = 49 := by simp [matL]
theorem mat_at (E : List (Int × Int)) {a b : Nat} (_ha : a ≤ 6) (hb : b ≤ 6) : (matL E)[a * 7 + b]? = some (decide (((a : Int), (b : Int)) ∈ E)) := by
  unfold matL
  rw [List.getElem?_map, List.getElem?_range (by omega), Option.map_some, show (a * 7 + b) / 7 = a by omega, show (a * 7 + b) % 7 = b by omega]
theorem mat_nil : matL [] = List.replicate 49 false := by decide
theorem mat_set (E : List (Int × Int)) {a b : Nat} (_ha : a ≤ 6) (hb : b ≤ 6) : (matL E).set (a * 7 + b) true = matL (E ++ [((a : Int), (b : Int))]) := by
  apply List.ext_getElem?
  intro i
  by_cases hi : i < 49
  · rw [List.getElem?_set]
    unfold matL
    rw [List.getElem?_map, List.getElem?_map, List.getElem?_range hi, Option.map_some, Option.map_some]
    by_cases he : a * 7 + b = i
    · subst he
      rw [if_pos rfl, if_pos (by simp; omega), show (a * 7 + b) / 7 = a by omega, show (a * 7 + b) % 7 = b by omega]
      simp
    · rw [if_neg he]
      congr 1
      rw [decide_eq_decide, List.mem_append, List.mem_singleton, Prod.mk.injEq]
      constructor
      · exact .inl
      · rintro (h | ⟨h1, h2⟩)
        · exact h
        · omega
  · rw [List.getElem?_eq_none (by simp [matL]; omega), List.getElem?_eq_none (by simp [matL]; omega)]
/-- Edges of which each end is a deal's number. -/
def okE (E : List (Int × Int)) : Prop := ∀ e ∈ E, txB e.1 = true ∧ txB e.2 = true
theorem okE_nat {E : List (Int × Int)} (h : okE E) {k : Nat} {x y : Int} (he : E[k]? = some (x, y)) : ∃ a b : Nat, x = a ∧ y = b ∧ 1 ≤ a ∧ a ≤ 6 ∧ 1 ≤ b ∧ b ≤ 6 := by
  obtain ⟨h1, h2⟩ := h _ (List.mem_of_getElem? he)
  have h1' : 1 ≤ x ∧ x ≤ 6 := by simpa [txB] using h1
  have h2' : 1 ≤ y ∧ y ≤ 6 := by simpa [txB] using h2
  exact ⟨x.toNat, y.toNat, by omega, by omega, by omega, by omega, by omega, by omega⟩
theorem take_snoc {α : Type} {l : List α} {k : Nat} {x : α} (h : l[k]? = some x) : l.take (k + 1) = l.take k ++ [x] := by rw [List.take_add_one, h]; rfl

/-! ### Ways. -/
def rwStep (m i k : Nat) (T : List Bool) : List Bool := if (T.getD (i * 7 + m) false && T.getD (m * 7 + k) false) = true then T.set (i * 7 + k) true else T
def rwK (m i : Nat) : Nat → Nat → List Bool → List Bool
  | 0, _, T => T
  | r + 1, k, T => rwK m i r (k + 1) (rwStep m i k T)
def rwI (m : Nat) : Nat → Nat → List Bool → List Bool
  | 0, _, T => T
  | r + 1, i, T => rwI m r (i + 1) (rwK m i 6 1 T)
def rwM : Nat → Nat → List Bool → List Bool
  | 0, _, T => T
  | r + 1, m, T => rwM r (m + 1) (rwI m 6 1 T)
def waysF (E : List (Int × Int)) : List Bool := rwM 6 1 (matL E)
theorem rwStep_eq (m i k : Nat) (T : List Bool) : rwStep m i k T = if (T.getD (i * 7 + m) false && T.getD (m * 7 + k) false) = true then T.set (i * 7 + k) true else T := rfl
theorem rwK_s (m i r k : Nat) (T : List Bool) : rwK m i (r + 1) k T = rwK m i r (k + 1) (rwStep m i k T) := rfl
theorem rwI_s (m r i : Nat) (T : List Bool) : rwI m (r + 1) i T = rwI m r (i + 1) (rwK m i 6 1 T) := rfl
theorem rwM_s (r m : Nat) (T : List Bool) : rwM (r + 1) m T = rwM r (m + 1) (rwI m 6 1 T) := rfl
theorem rwK_0 (m i k : Nat) (T : List Bool) : rwK m i 0 k T = T := rfl
theorem rwI_0 (m i : Nat) (T : List Bool) : rwI m 0 i T = T := rfl
theorem rwM_0 (m : Nat) (T : List Bool) : rwM 0 m T = T := rfl
theorem waysF_eq (E : List (Int × Int)) : waysF E = rwM 6 1 (matL E) := rfl
theorem rwStep_len (m i k : Nat) (T : List Bool) : (rwStep m i k T).length = T.length := by unfold rwStep; split <;> simp

attribute [local irreducible] rwStep rwK rwI rwM waysF
end Go.Proofs.YtaaahfbcpgdoiaaGreatDoor

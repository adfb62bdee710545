
/-
  PLAIN LAWS for GraphEither, part 2: the table of places.
-/
import Derived.Test.YtecfgepomcnenaaEitherP
namespace Go.Proofs.Ytecfgepomcnenaa
open Go.RowKit

def posI (p : List Int) (x : Int) : Int := if x ∈ p then (p.idxOf x : Int) + 1 else 0
def atL (p : List Int) : List Int := (List.range 7).map fun x : Nat => posI p (x : Int)
theorem atL_len (p : List Int) : (atL p).length = 7 := by simp [atL]
theorem atL_nil : atL [] = List.replicate 7 0 := by decide
theorem atL_get (p : List Int) {a : Nat} (ha : a ≤ 6) : (atL p)[a]? = some (posI p (a : Int)) := by
  unfold atL
  rw [List.getElem?_map, List.getElem?_range (by omega), Option.map_some]
theorem posI_not {p : List Int} {x : Int} (h : x ∉ p) : posI p x = 0 := by unfold posI; rw [if_neg h]
theorem posI_snoc {p : List Int} {d x : Int} (hd : d ∉ p) : posI (p ++ [d]) x = if x = d then (p.length : Int) + 1 else posI p x := by
  unfold posI
  by_cases hx : x = d
  · subst hx
    rw [if_pos rfl, if_pos (by simp), List.idxOf_append, if_neg hd]
    simp
  · rw [if_neg hx]
    by_cases hm : x ∈ p
    · rw [if_pos (List.mem_append_left _ hm), if_pos hm, List.idxOf_append, if_pos hm]
    · rw [if_neg (by simp [hm, hx]), if_neg hm]
theorem atL_set {p : List Int} {a : Nat} (_ha : a ≤ 6) (hd : (a : Int) ∉ p) : (atL p).set a ((p.length : Int) + 1) = atL (p ++ [(a : Int)]) := by
  apply List.ext_getElem?
  intro i
  by_cases hi : i < 7
  · rw [List.getElem?_set, atL_get (p ++ [(a : Int)]) (a := i) (by omega), posI_snoc hd]
    by_cases he : a = i
    · subst he
      rw [if_pos rfl, if_pos (by simp [atL]; omega), if_pos rfl]
    · rw [if_neg he, if_neg (by omega), atL_get _ (by omega)]
  · rw [List.getElem?_eq_none (by simp [atL]; omega), List.getElem?_eq_none (by simp [atL]; omega)]
theorem posI_at {p : List Int} (hn : p.Nodup) {i : Nat} {x : Int} (h : p[i]? = some x) : posI p x = (i : Int) + 1 := by
  have hm : x ∈ p := List.mem_of_getElem? h
  have hl : p.idxOf x < p.length := List.idxOf_lt_length_iff.2 hm
  have h2 : p[p.idxOf x]? = some x := by rw [List.getElem?_eq_getElem hl, List.getElem_idxOf]
  unfold posI
  rw [if_pos hm, idx_inj hn h2 h]
theorem posI_before {p : List Int} (hn : p.Nodup) {x y : Int} (h : beforeL p x y) : posI p x ≠ 0 ∧ posI p x < posI p y := by
  obtain ⟨i, j, hij, hi, hj⟩ := h
  rw [posI_at hn hi, posI_at hn hj]
  omega
end Go.Proofs.Ytecfgepomcnenaa

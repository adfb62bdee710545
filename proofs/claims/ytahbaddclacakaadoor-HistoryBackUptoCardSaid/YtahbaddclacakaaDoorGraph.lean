
/-
  CONTRACTS of graph.Check, named, Sort, Order; slices.IndexFunc, ContainsFunc at edges, IndexFunc at numbers, Contains at numbers.
-/
import Derived.Test.YtahbaddclacakaaDoorSW
import Derived.Test.YtahbaddclacakaaDoorN0
import Derived.Test.YtahbaddclacakaaDoorFaces
import Derived.Test.YtahbaddclacakaaDoorM7

namespace Go.Proofs.YtahbaddclacakaaDoor
open Go.RowKit Go.Shelf

def eVal (e : Int × Int) : Value := .agg #[.int .i64 e.1, .int .i64 e.2]
theorem icontains_rd (A : Option Addr) (n c : Nat) (l : List Int) (x : Int) (w : World) (B : Nat) (hr : Rd w B 1 A n (cellsI l)) (hm : n ≤ 9223372036854775807) :
    Calls Tryd.prog 59 #[.slice A n c, .int .i64 x] w fun e w' => e = .returned (.bool (decide (x ∈ l))) ∧ w = w' := by
  have hl := hr.ilen
  rcases Nat.eq_zero_or_pos n with h0 | h0
  · subst h0
    have : l = [] := List.eq_nil_of_length_eq_zero hl
    subst this
    exact (Any.slices_Contains_int_empty Tryd.lContI A c x w).mono fun e w' ⟨he, hw⟩ => ⟨by rw [he]; simp, hw.symm⟩
  · obtain ⟨b, off, rfl, hb, hc⟩ := hr.2 h0
    refine (Any.slices_Contains_int Tryd.lContI b off n c l x w (by omega) hm (fun j hj => hc j _ (by rw [cellsI, List.getElem?_map, List.getElem?_eq_getElem hj]; simp [List.getD_eq_getElem?_getD, hj]))).mono fun e w' ⟨he, hw⟩ => ⟨?_, hw.symm⟩
    rw [he, List.take_of_length_le (by omega)]
    congr 2
    rw [Bool.eq_iff_iff, List.contains_iff_mem, decide_eq_true_iff]

/-! ### Check. -/
def badE (e : Int × Int) : Bool := !txB e.1 || !txB e.2
def checkG (E : List (Int × Int)) : Int := if 60 < E.length then 4 else if E.any badE then 1 else 0
/-! ### named. -/
def ends2 (E : List (Int × Int)) : List Int := E.flatMap fun e => [e.1, e.2]
def namedF (E : List (Int × Int)) : List Int := compL (sortI (ends2 E))
theorem ends2_snoc {E : List (Int × Int)} {k : Nat} {e : Int × Int} (h : E[k]? = some e) : ends2 (E.take (k + 1)) = ends2 (E.take k) ++ [e.1, e.2] := by
  rw [List.take_add_one, h]; simp [ends2]
theorem slt_ints : SlT Tryd.prog 34 3 1 8 := slt_int
end Go.Proofs.YtahbaddclacakaaDoor


/-
  PLAIN LAWS for GraphTells: the reference's ring is the program's.
-/
import Derived.Test.YtecfgepomcnenaaDoorGraphP
import Derived.Test.YtecfgepomcnenaaDoorGraphQ
import Derived.Test.YtecfgepomcnenaaDoorRRing
import Derived.Test.YtecfgepomcnenaaDoorRing
namespace Go.Proofs.YtecfgepomcnenaaDoor
open Go.RowKit

theorem rnext_next {E : List (Int × Int)} {way : List Int} {d : Int} (h : way ≠ []) : rnextB E way d = nextB E way d := by
  unfold rnextB nextB
  have : way.isEmpty = false := by
    cases way with
    | nil => exact absurd rfl h
    | cons a t => rfl
  rw [this, Bool.false_or, Bool.and_comm]
theorem rring_round (E : List (Int × Int)) : ∀ (f : Nat) (way : List Int), way ≠ [] → rringGo E f way = roundGo E f way
  | 0, way, h => by rw [rringGo_0, roundGo]
  | f + 1, way, h => by
    rw [rringGo_s, roundGo]
    congr 1
    funext d
    rw [rnext_next h, rring_round E f (way ++ [d]) (by simp)]
theorem rring_of (E : List (Int × Int)) {m : Nat} (hm : 1 ≤ m) : rringGo E m [] = ringOf E m := by
  obtain ⟨f, rfl⟩ : ∃ f, m = f + 1 := ⟨m - 1, by omega⟩
  rw [rringGo_s]
  unfold ringOf
  rw [show ((f + 1 : Nat) : Int).toNat - 1 = f by omega]
  congr 1
  funext d
  rw [show rnextB E [] d = true by unfold rnextB; rfl, if_pos rfl, rring_round E f _ (by simp)]
  rfl
theorem okE_of' {E : List (Int × Int)} (h : checkG E = 0) : okE E := by
  intro e he
  unfold checkG at h
  split at h
  · cases h
  · split at h
    · cases h
    · rename_i hn
      have h1 : E.any badE = false := by simpa using hn
      have h2 := List.any_eq_false.1 h1 e he
      unfold badE at h2
      simpa using h2
theorem checkG_len {E : List (Int × Int)} (h : checkG E = 0) : E.length ≤ 60 := by
  unfold checkG at h
  split at h
  · cases h
  · omega
end Go.Proofs.YtecfgepomcnenaaDoor

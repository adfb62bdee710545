
/-
  CONTRACTS of slices.Clone at []api.Op and []int.
  CONTRACTS of slices.IndexFunc, ContainsFunc, DeleteFunc over slices of three-number structs, for whatever test a function value makes.
-/
import Derived.Test.YtjbgjgmdgjnbfaaDoorApp
import Derived.Lib.SliceRun

namespace Go.Proofs.YtjbgjgmdgjnbfaaDoor
open Go.RowKit
theorem slt_op : SlT Tryd.prog 23 44 3 24 := slt_of (z := .agg #[.int .i64 0, .int .i64 0, .int .i64 0]) Tryd.underlying23 (by kernel_rfl) (by kernel_rfl) (by decide) (by decide)

theorem slt_int : SlT Tryd.prog 22 3 1 8 := slt_of (z := .int .i64 0) Tryd.underlying22 (by kernel_rfl) (by kernel_rfl) (by decide) (by decide)

end Go.Proofs.YtjbgjgmdgjnbfaaDoor


namespace Go.Proofs.YtjbgjgmdgjnbfaaDoor
open Go.RowKit
def idxGo {α : Type} (p : α → Bool) (k : Int) : List α → Int
  | [] => -1
  | o :: t => if p o then k else idxGo p (k + 1) t
theorem idxGo_spec {α : Type} (p : α → Bool) (k : Int) (l : List α) :
    ((∀ o ∈ l, p o = false) ∧ idxGo p k l = -1) ∨ ∃ (i : Nat) (o : α), l[i]? = some o ∧ p o = true ∧ (∀ x ∈ l.take i, p x = false) ∧ idxGo p k l = k + i := by
  induction l generalizing k with
  | nil => exact .inl ⟨by simp, rfl⟩
  | cons a t ih =>
    cases hp : p a
    · rcases ih (k + 1) with ⟨h1, h2⟩ | ⟨i, o, h1, h2, h3, h4⟩
      · exact .inl ⟨by simpa [hp] using h1, by simp [idxGo, hp, h2]⟩
      · exact .inr ⟨i + 1, o, by simpa using h1, h2, by simpa [hp] using h3, by simp [idxGo, hp, h4]; omega⟩
    · exact .inr ⟨0, a, by simp, hp, by simp, by simp [idxGo, hp]⟩
end Go.Proofs.YtjbgjgmdgjnbfaaDoor

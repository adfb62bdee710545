
/-
  CONTRACTS of slices.Clone at []api.Op and []int.
  CONTRACTS of slices.IndexFunc, ContainsFunc, DeleteFunc over slices of three-number structs, for whatever test a function value makes.
-/
import Derived.Test.YtfmdeahblaikoaaDoorApp
import Derived.Lib.SliceRun

namespace Go.Proofs.YtfmdeahblaikoaaDoor
open Go.RowKit
theorem slt_op : SlT Tryd.prog 22 129 3 24 := slt_of (z := .agg #[.int .i64 0, .int .i64 0, .int .i64 0]) Tryd.underlying22 (by kernel_rfl) (by kernel_rfl) (by decide) (by decide)

theorem slt_int : SlT Tryd.prog 23 3 1 8 := slt_of (z := .int .i64 0) Tryd.underlying23 (by kernel_rfl) (by kernel_rfl) (by decide) (by decide)

set_option maxHeartbeats 400000 in
theorem clone_int (A : Option Addr) (n cap : Nat) (xs : List Value) (w : World) (hr : Rd w w.heap.size 1 A n xs) (h1 : ∀ u ∈ xs, u.oneCell' = true) (hm : n * 8 ≤ 140737488355328) :
    Calls Tryd.prog 65 #[.slice A n cap] w fun e w' => ∃ v, e = .returned v ∧ w'.ownsRow w.heap.size 3 1 v n xs ∧ Below w.heap.size w w' := by
  have hnil := fun (w : World) => Lib.run_eql_slice_nil (P := Tryd.prog) w 23 3 A n cap 0 0 Tryd.underlying23
  rcases A with _ | ad
  · have h0 : n = 0 := by
      rcases Nat.eq_zero_or_pos n with h | h
      · exact h
      · obtain ⟨_, _, h, _⟩ := hr.2 h
        cases h
    subst h0
    have hx : xs = [] := List.eq_nil_of_length_eq_zero (by simpa using hr.1)
    subst hx
    clear h1 hr
    go_enter Tryd.func65, Tryd.ntmps65
    go_wp2
    go_ret
    exact ⟨_, rfl, World.ownsRow_nil _ _ _ _, Below.refl _ _⟩
  · have H1 := Lib.hid h1
    clear h1
    go_enter Tryd.func65, Tryd.ntmps65
    go_wp2_with (at_builtin; refine wpList_app rfl _ _ _ rfl w.heap.size slt_int rfl (World.ownsRow_made w #[] 0 (Nat.le_refl _) (by decide) rfl) rfl (hr.alloc (Nat.le_refl _) _) H1.out (by omega) (by simp) ?_; intro v1 w1 hown1 hg1 hb1 hat1 hne1)
    go_ret
    exact ⟨_, rfl, by simpa using hown1, ((Below.refl _ _).alloc (Nat.le_refl _) _).trans hb1⟩
end Go.Proofs.YtfmdeahblaikoaaDoor


namespace Go.Proofs.YtfmdeahblaikoaaDoor
open Go.RowKit
def idxGo {α : Type} (p : α → Bool) (k : Int) : List α → Int
  | [] => -1
  | o :: t => if p o then k else idxGo p (k + 1) t
theorem idxGo_spec {α : Type} (p : α → Bool) (k : Int) (l : List α) :
    ((∀ o ∈ l, p o = false) ∧ idxGo p k l = -1) ∨ ∃ (i : Nat) (o : α), l[i]? = some o ∧ p o = true ∧ (∀ x ∈ l.take i, p x = false) ∧ idxGo p k l = k + i := by
  induction l generalizing k with
  | nil => exact .inl ⟨by simp, rfl⟩
  | cons a t ih =>
    cases hp : p a
    · rcases ih (k + 1) with ⟨h1, h2⟩ | ⟨i, o, h1, h2, h3, h4⟩
      · exact .inl ⟨by simpa [hp] using h1, by simp [idxGo, hp, h2]⟩
      · exact .inr ⟨i + 1, o, by simpa using h1, h2, by simpa [hp] using h3, by simp [idxGo, hp, h4]; omega⟩
    · exact .inr ⟨0, a, by simp, hp, by simp, by simp [idxGo, hp]⟩
end Go.Proofs.YtfmdeahblaikoaaDoor

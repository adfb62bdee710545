
/-
  CONTRACTS of slices.Clone at []api.Op and []int.
-/
import Derived.Test.YtkpnpkikonlmpaaApp
import Derived.Lib.SliceRun
namespace Go.Proofs.Ytkpnpkikonlmpaa
open Go.RowKit
theorem slt_op : SlT Try.prog 22 24 3 24 := slt_of (z := .agg #[.int .i64 0, .int .i64 0, .int .i64 0]) Try.underlying22 (by kernel_rfl) (by kernel_rfl) (by decide) (by decide)

set_option maxHeartbeats 400000 in
theorem clone_op (A : Option Addr) (n cap : Nat) (xs : List Value) (w : World) (hr : Rd w w.heap.size 3 A n xs) (h1 : ∀ u ∈ xs, u.oneCell' = true) (hm : n * 24 ≤ 140737488355328) :
    Calls Try.prog 55 #[.slice A n cap] w fun e w' => ∃ v, e = .returned v ∧ w'.ownsRow w.heap.size 24 3 v n xs ∧ Below w.heap.size w w' := by
  have hnil := fun (w : World) => Lib.run_eql_slice_nil (P := Try.prog) w 22 24 A n cap 0 0 Try.underlying22
  rcases A with _ | ad
  · have h0 : n = 0 := by
      rcases Nat.eq_zero_or_pos n with h | h
      · exact h
      · obtain ⟨_, _, h, _⟩ := hr.2 h
        cases h
    subst h0
    have hx : xs = [] := List.eq_nil_of_length_eq_zero (by simpa using hr.1)
    subst hx
    clear h1 hr
    go_enter Try.func55, Try.ntmps55
    go_wp2
    go_ret
    exact ⟨_, rfl, World.ownsRow_nil _ _ _ _, Below.refl _ _⟩
  · have H1 := Lib.hid h1
    clear h1
    go_enter Try.func55, Try.ntmps55
    go_wp2_with (at_builtin; refine wpList_app rfl _ _ _ rfl w.heap.size slt_op rfl (World.ownsRow_made w #[] 0 (Nat.le_refl _) (by decide) rfl) rfl (hr.alloc (Nat.le_refl _) _) H1.out (by omega) (by simp) ?_; intro v1 w1 hown1 hg1 hb1 hat1 hne1)
    go_ret
    exact ⟨_, rfl, by simpa using hown1, ((Below.refl _ _).alloc (Nat.le_refl _) _).trans hb1⟩
theorem slt_int : SlT Try.prog 31 3 1 8 := slt_of (z := .int .i64 0) Try.underlying31 (by kernel_rfl) (by kernel_rfl) (by decide) (by decide)

set_option maxHeartbeats 400000 in
theorem clone_int (A : Option Addr) (n cap : Nat) (xs : List Value) (w : World) (hr : Rd w w.heap.size 1 A n xs) (h1 : ∀ u ∈ xs, u.oneCell' = true) (hm : n * 8 ≤ 140737488355328) :
    Calls Try.prog 75 #[.slice A n cap] w fun e w' => ∃ v, e = .returned v ∧ w'.ownsRow w.heap.size 3 1 v n xs ∧ Below w.heap.size w w' := by
  have hnil := fun (w : World) => Lib.run_eql_slice_nil (P := Try.prog) w 31 3 A n cap 0 0 Try.underlying31
  rcases A with _ | ad
  · have h0 : n = 0 := by
      rcases Nat.eq_zero_or_pos n with h | h
      · exact h
      · obtain ⟨_, _, h, _⟩ := hr.2 h
        cases h
    subst h0
    have hx : xs = [] := List.eq_nil_of_length_eq_zero (by simpa using hr.1)
    subst hx
    clear h1 hr
    go_enter Try.func75, Try.ntmps75
    go_wp2
    go_ret
    exact ⟨_, rfl, World.ownsRow_nil _ _ _ _, Below.refl _ _⟩
  · have H1 := Lib.hid h1
    clear h1
    go_enter Try.func75, Try.ntmps75
    go_wp2_with (at_builtin; refine wpList_app rfl _ _ _ rfl w.heap.size slt_int rfl (World.ownsRow_made w #[] 0 (Nat.le_refl _) (by decide) rfl) rfl (hr.alloc (Nat.le_refl _) _) H1.out (by omega) (by simp) ?_; intro v1 w1 hown1 hg1 hb1 hat1 hne1)
    go_ret
    exact ⟨_, rfl, by simpa using hown1, ((Below.refl _ _).alloc (Nat.le_refl _) _).trans hb1⟩
end Go.Proofs.Ytkpnpkikonlmpaa


/-
  CONTRACT of odds.At.
-/
import Derived.Test.YtkpnpkikonlmpaaView
import Derived.Test.YtkpnpkikonlmpaaSrc
namespace Go.Proofs.Ytkpnpkikonlmpaa
open Go.RowKit

def oddB (a b : HOp) : Bool := decide (a.tx ≠ b.tx ∧ a.item = b.item ∧ a.item ≠ 0 ∧ (a.what = 2 ∨ b.what = 2))

set_option maxHeartbeats 4000000 in
theorem at_any (a b : HOp) (w : World) : Calls Try.prog 54 #[a.val, b.val] w fun e w' => e = .returned (.bool (oddB a b)) ∧ Below w.heap.size w w' := by
  obtain ⟨a1, a2, a3⟩ := a
  obtain ⟨b1, b2, b3⟩ := b
  unfold HOp.val
  have hB : ∀ W : World, True := fun _ => trivial
  clear hB
  by_cases h1 : a1 = b1
  · have HF : Hid (oddB ⟨a1, a2, a3⟩ ⟨b1, b2, b3⟩ = false) := Lib.hid (by simp [oddB, h1])
    have h1b : (a1 != b1) = false := by simpa using h1
    go_enter Try.func54, Try.ntmps54
    go_wp2
    go_ret
    exact ⟨ret_bool HF.out.symm, ((Below.refl _ _).alloc (Nat.le_refl _) _).alloc (by simp) _⟩
  have h1b : (a1 != b1) = true := by simpa using h1
  by_cases h2 : a3 = b3
  · subst h2
    by_cases h3 : a3 = 0
    · have HF : Hid (oddB ⟨a1, a2, a3⟩ ⟨b1, b2, a3⟩ = false) := Lib.hid (by simp [oddB, h3])
      have h3b : (a3 != 0) = false := by simpa using h3
      go_enter Try.func54, Try.ntmps54
      go_wp2
      go_ret
      exact ⟨ret_bool HF.out.symm, ((Below.refl _ _).alloc (Nat.le_refl _) _).alloc (by simp) _⟩
    have h3b : (a3 != 0) = true := by simpa using h3
    by_cases h4 : a2 = 2
    · have HF : Hid (oddB ⟨a1, a2, a3⟩ ⟨b1, b2, a3⟩ = true) := Lib.hid (by simp [oddB, h1, h3, h4])
      have h4b : (a2 == 2) = true := by simpa using h4
      go_enter Try.func54, Try.ntmps54
      go_wp2
      go_ret
      exact ⟨ret_bool HF.out.symm, ((Below.refl _ _).alloc (Nat.le_refl _) _).alloc (by simp) _⟩
    · have HF : Hid (oddB ⟨a1, a2, a3⟩ ⟨b1, b2, a3⟩ = (b2 == 2)) := Lib.hid (by by_cases h5 : b2 = 2 <;> simp [oddB, h1, h3, h4, h5])
      have h4b : (a2 == 2) = false := by simpa using h4
      go_enter Try.func54, Try.ntmps54
      go_wp2
      go_ret
      exact ⟨ret_bool HF.out.symm, ((Below.refl _ _).alloc (Nat.le_refl _) _).alloc (by simp) _⟩
  · have HF : Hid (oddB ⟨a1, a2, a3⟩ ⟨b1, b2, b3⟩ = false) := Lib.hid (by simp [oddB, h2])
    have h2b : (a3 == b3) = false := by simpa using h2
    go_enter Try.func54, Try.ntmps54
    go_wp2
    go_ret
    exact ⟨ret_bool HF.out.symm, ((Below.refl _ _).alloc (Nat.le_refl _) _).alloc (by simp) _⟩
theorem ocellsP {w : World} {g : Nat} {t : TypeId} {a b c : Int} (h : Blk w g t [.int .i64 a, .int .i64 b, .int .i64 c]) :
    w.cell? ⟨g, 0, none⟩ = some (.int .i64 a) ∧ w.cell? ⟨g, 1, none⟩ = some (.int .i64 b) ∧ w.cell? ⟨g, 2, none⟩ = some (.int .i64 c) := ⟨h.cellS rfl, h.cellS rfl, h.cellS rfl⟩
end Go.Proofs.Ytkpnpkikonlmpaa

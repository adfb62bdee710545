
/-
  CONTRACTS of odds.Alike, odds.Same.
-/
import Derived.Test.YtecfgepomcnenaaDoorOwn
import Derived.Test.YtecfgepomcnenaaDoorNames
import Derived.Test.YtecfgepomcnenaaDoorKeyed
import Derived.Test.YtecfgepomcnenaaDoorOpen
import Derived.StillTailTactics
namespace Go.Proofs.YtecfgepomcnenaaDoor
open Go.RowKit

/-! ### The keys: two names. -/
abbrev Nm2 := (Int × Int) × (Int × Int)
def nmV (p : Nm2) : Value := .agg #[.int .i64 p.1.1, .int .i64 p.1.2, .int .i64 p.2.1, .int .i64 p.2.2]
def nmOk (p : Nm2) : Prop := (0 ≤ p.1.1 ∧ p.1.1 ≤ 100) ∧ (0 ≤ p.1.2 ∧ p.1.2 ≤ 100) ∧ (0 ≤ p.2.1 ∧ p.2.1 ≤ 100) ∧ (0 ≤ p.2.2 ∧ p.2.2 ≤ 100)
theorem wf_small {a : Int} (h : 0 ≤ a ∧ a ≤ 100) : (Lit.int .i64 a).wf = true := by
  rw [show (Lit.int .i64 a).wf = (decide (-9223372036854775808 ≤ a) && decide (a ≤ 9223372036854775807)) from rfl]
  simp only [Bool.and_eq_true, decide_eq_true_eq]
  omega
theorem keyLits_int {P : Program} {d : Nat} {t : TypeId} {x : Int} (h : P.underlying t = some (.int .i64)) (hx : (Lit.int .i64 x).wf = true) : P.keyLits (d + 1) t [.int .i64 x] = some [.int .i64 x] := by
  conv => lhs; unfold Program.keyLits
  simp only [h]
  simp [hx]
theorem keyLits_struct {P : Program} {d : Nat} {t : TypeId} {fs : Array Field} {cs : List Value} (h : P.underlying t = some (.struct fs)) : P.keyLits (d + 1) t cs = if cs.length = P.cellsOf t ∧ fs.all (·.name != "_") = true then (fs.toList.mapM fun f => P.keyLits d f.type ((cs.drop f.offset).take (P.cellsOf f.type))).map List.flatten else none := by
  conv => lhs; unfold Program.keyLits
  simp only [h]
theorem nmKey (p : Nm2) (h : nmOk p) : ∃ l, keyOf Tryd.prog 101 (nmV p) = some l := by
  obtain ⟨⟨a, b⟩, c, d⟩ := p
  obtain ⟨h1, h2, h3, h4⟩ := h
  have w1 := wf_small h1
  have w2 := wf_small h2
  have w3 := wf_small h3
  have w4 := wf_small h4
  obtain ⟨m, hm⟩ : ∃ m, Tryd.prog.types.size + 1 = m + 3 := ⟨Tryd.prog.types.size - 2, by have : 2 ≤ Tryd.prog.types.size := of_decide_eq_true (by kernel_rfl); omega⟩
  have hk : Tryd.prog.keyType 101 = true := by kernel_rfl
  have u1 := Tryd.underlying101
  have u2 := Tryd.underlying99
  have u3 := Tryd.underlying3
  have z1 : Tryd.prog.cellsOf 101 = 4 := by kernel_rfl
  have z2 : Tryd.prog.cellsOf 99 = 2 := by kernel_rfl
  have z3 : Tryd.prog.cellsOf 3 = 1 := by kernel_rfl
  have hf : (nmV ((a, b), c, d)).formed Tryd.prog 101 = true := by simp [nmV, Value.formed, u1, z1]
  have hn : ∀ x y, (Lit.int .i64 x).wf = true → (Lit.int .i64 y).wf = true → Tryd.prog.keyLits (m + 2) 99 [.int .i64 x, .int .i64 y] = some [.int .i64 x, .int .i64 y] := by
    intro x y hx hy
    have hi : ∀ x, (Lit.int .i64 x).wf = true → Tryd.prog.keyLits (m + 1) 3 [.int .i64 x] = some [.int .i64 x] := by
      intro x hx
      exact keyLits_int u3 hx
    rw [keyLits_struct u2, if_pos ⟨by rw [z2]; rfl, by kernel_rfl⟩]
    simp [z3, hi x hx, hi y hy]
  unfold keyOf
  rw [u1]
  simp only [hk, hf, Bool.and_self, if_true, hm]
  rw [keyLits_struct u1, if_pos ⟨by rw [z1]; rfl, by kernel_rfl⟩]
  simp [nmV, Value.cells, z2, hn _ _ w1 w2, hn _ _ w3 w4]
theorem nmSet : KSet Tryd.prog 101 nmV nmOk where
  law := deep_law_laid laidOut (m := 3) (by omega) (of_decide_eq_true (by kernel_rfl)) (by kernel_rfl) (by rw [Tryd.underlying101])
  key := nmKey
  inj := by
    rintro ⟨⟨a, b⟩, c, d⟩ ⟨⟨a', b'⟩, c', d'⟩ h
    unfold nmV at h
    injection h with h
    simp only [Array.mk.injEq, List.cons.injEq, Value.int.injEq, true_and, and_true] at h
    obtain ⟨rfl, rfl, rfl, rfl⟩ := h
    rfl
end Go.Proofs.YtecfgepomcnenaaDoor

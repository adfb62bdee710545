
/-
  CONTRACTS of odds.Alike, odds.Same.
  CONTRACTS of odds.Alike, odds.Same.
  CONTRACT of odds.Same.
-/
import Derived.Test.YtaaahfbcpgdoiaaGreatDoorQ11
import Derived.Test.YtaaahfbcpgdoiaaGreatDoorQ20
import Derived.Test.YtaaahfbcpgdoiaaGreatDoorQ21
import Derived.StillTailTactics

namespace Go.Proofs.YtaaahfbcpgdoiaaGreatDoor
open Go.RowKit

/-! ### The keys: two names. -/
abbrev Nm2 := (Int × Int) × (Int × Int)
def nmV (p : Nm2) : Value := .agg #[.int .i64 p.1.1, .int .i64 p.1.2, .int .i64 p.2.1, .int .i64 p.2.2]
def nmOk (p : Nm2) : Prop := (0 ≤ p.1.1 ∧ p.1.1 ≤ 100) ∧ (0 ≤ p.1.2 ∧ p.1.2 ≤ 100) ∧ (0 ≤ p.2.1 ∧ p.2.1 ≤ 100) ∧ (0 ≤ p.2.2 ∧ p.2.2 ≤ 100)
theorem wf_small {a : Int} (h : 0 ≤ a ∧ a ≤ 100) : (Lit.int .i64 a).wf = true := by
  rw [show (Lit.int .i64 a).wf = (decide (-9223372036854775808 ≤ a) && decide (a ≤ 9223372036854775807)) from rfl]
  simp only [Bool.and_eq_true, decide_eq_true_eq]
  omega
theorem keyLits_int {P : Program} {d : Nat} {t : TypeId} {x : Int} (h : P.underlying t = some (.int .i64)) (hx : (Lit.int .i64 x).wf = true) : P.keyLits (d + 1) t [.int .i64 x] = some [.int .i64 x] := by
  conv => lhs; unfold Program.keyLits
  simp only [h]
  simp [hx]
theorem keyLits_struct {P : Program} {d : Nat} {t : TypeId} {fs : Array Field} {cs : List Value} (h : P.underlying t = some (.struct fs)) : P.keyLits (d + 1) t cs = if cs.length = P.cellsOf t ∧ fs.all (·.name != "_") = true then (fs.toList.mapM fun f => P.keyLits d f.type ((cs.drop f.offset).take (P.cellsOf f.type))).map List.flatten else none := by
  conv => lhs; unfold Program.keyLits
  simp only [h]
end Go.Proofs.YtaaahfbcpgdoiaaGreatDoor


namespace Go.Proofs.YtaaahfbcpgdoiaaGreatDoor
open Go.RowKit

theorem nm_ok {h : List HOp} (hl : h.length ≤ 40) (ht : ∀ o ∈ h, 1 ≤ o.tx ∧ o.tx ≤ 6) (i : Nat) : (0 ≤ (nameAt h i).1 ∧ (nameAt h i).1 ≤ 100) ∧ (0 ≤ (nameAt h i).2 ∧ (nameAt h i).2 ≤ 100) := by
  cases hi : h[i]? with
  | none => unfold nameAt; rw [hi]; simp
  | some o =>
    rw [nameAt_some hi]
    have h1 := ht o (List.mem_of_getElem? hi)
    have h2 : cntT (h.take i) o.tx ≤ (h.take i).length := List.countP_le_length
    rw [List.length_take] at h2
    exact ⟨⟨by simp only; omega, by simp only; omega⟩, by simp only; omega, by simp only; omega⟩
theorem nmOk_pair {h : List HOp} (hl : h.length ≤ 40) (ht : ∀ o ∈ h, 1 ≤ o.tx ∧ o.tx ≤ 6) (p : Int × Int) : nmOk (pairN h p) :=
  ⟨(nm_ok hl ht _).1, (nm_ok hl ht _).2, (nm_ok hl ht _).1, (nm_ok hl ht _).2⟩
theorem dcell2 {l : List (Int × Int)} {i : Nat} {a b : Int} (h : l[i]? = some (a, b)) : (dcells l)[i * 2]? = some (.int .i64 a) ∧ (dcells l)[i * 2 + 1]? = some (.int .i64 b) := dcells_at h
/-- The cells of a name, of a row of names that reads. -/
theorem rdb_name {w : World} {lo hi n : Nat} {A : Option Addr} {h : List HOp} (hr : RdB w lo hi 2 A n (dcells (namesF h))) (hl : h.length = n) {j : Nat} (hj : j < n) : ∃ b off, A = some ⟨b, off, none⟩ ∧ b < hi ∧ w.cell? ⟨b, off + j * 2, none⟩ = some (.int .i64 (nameAt h j).1) ∧ w.cell? ⟨b, off + j * 2 + 1, none⟩ = some (.int .i64 (nameAt h j).2) := by
  obtain ⟨b, off, hA, _, hb, hc⟩ := hr.2 (by omega)
  obtain ⟨h1, h2⟩ := dcells_at (namesF_at (h := h) (i := j) (by omega))
  exact ⟨b, off, hA, hb, hc _ _ h1, hc _ _ h2⟩
def hasGo (h : List HOp) (S : List Nm2) (l : List (Int × Int)) : Bool := l.all fun p => decide (pairN h p ∈ S)
theorem hasGo_step {h : List HOp} {S : List Nm2} {p : Int × Int} {l t : List (Int × Int)} (e : l = p :: t) : hasGo h S l = (decide (pairN h p ∈ S) && hasGo h S t) := by rw [e, hasGo, List.all_cons]; rfl
theorem alikeB_has {h g : List HOp} {S : List Nm2} (hs : sameOwnB h g = true) (hS : ∀ x, x ∈ S ↔ x ∈ (pairsL g).map (pairN g)) : alikeB h g = hasGo h S (pairsL h) := by
  unfold alikeB hasGo
  rw [hs, Bool.true_and]
  congr 1
  funext p
  rw [decide_eq_decide]
  exact (hS _).symm

end Go.Proofs.YtaaahfbcpgdoiaaGreatDoor


namespace Go.Proofs.YtaaahfbcpgdoiaaGreatDoor
open Go.RowKit

def sameE (h g : List HOp) : Int := if (checkF h).2 ≠ 0 then (checkF h).2 else (checkF g).2
def sameV (h g : List HOp) : Bool := decide ((checkF h).2 = 0 ∧ (checkF g).2 = 0) && alikeB h g
end Go.Proofs.YtaaahfbcpgdoiaaGreatDoor


/-
  CONTRACTS of faces.ended, Open and its test.
  CONTRACTS of graph.Check, named, Sort, Order; slices.IndexFunc, ContainsFunc at edges, IndexFunc at numbers, Contains at numbers.
-/
import Derived.Test.YtbccnafdfeempaaGreatDoorQ3
import Derived.Test.YtbccnafdfeempaaGreatDoorQ1
import Derived.BigQuiet
import Derived.Handy
import Derived.Test.YtbccnafdfeempaaGreatDoorQ8
import Derived.Test.YtbccnafdfeempaaGreatDoorQ7

namespace Go.Proofs.YtbccnafdfeempaaGreatDoor
open Go.RowKit

def endedGo (es : List Int) : List HOp → List Int
  | [] => es
  | o :: t => endedGo (if endsB o then es.set o.tx.toNat o.what else es) t
def endedF (h : List HOp) : List Int := endedGo (List.replicate 7 0) h
theorem endedGo_length (es : List Int) (h : List HOp) : (endedGo es h).length = es.length := by
  induction h generalizing es with
  | nil => rfl
  | cons o t ih => rw [endedGo, ih]; split <;> simp
theorem endedF_length (h : List HOp) : (endedF h).length = 7 := by simp [endedF, endedGo_length]
theorem list7 {α : Type} {l : List α} (h : l.length = 7) : ∃ a b c d e f g, l = [a, b, c, d, e, f, g] := by
  match l, h with
  | [a, b, c, d, e, f, g], _ => exact ⟨a, b, c, d, e, f, g, rfl⟩

def arr7 (l : List Int) : Value := .agg #[.int .i64 (l.getD 0 0), .int .i64 (l.getD 1 0), .int .i64 (l.getD 2 0), .int .i64 (l.getD 3 0), .int .i64 (l.getD 4 0), .int .i64 (l.getD 5 0), .int .i64 (l.getD 6 0)]

/-! ### Open. -/
def openT (es : List Int) (x : HOp) (what : Int) (o : HOp) : Bool := decide (o.what = what ∧ o.item = x.item ∧ o.tx ≠ x.tx ∧ es.getD o.tx.toNat 0 = 0)
def openB (pre : List HOp) (x : HOp) (what : Int) : Bool := pre.any (openT (endedF pre) x what)

/-- The four places that the test has caught. -/
structure OpenAt (w : World) (gw gh gi ge : Nat) (A : Option Addr) (n cap : Nat) (h : List HOp) (i : Nat) (what : Int) (es : List Int) : Prop where
  what : w.cell? ⟨gw, 0, none⟩ = some (.int .i64 what)
  hist : w.cell? ⟨gh, 0, none⟩ = some (.slice A n cap)
  idx : w.cell? ⟨gi, 0, none⟩ = some (.int .i64 i)
  ends : ∀ k, k < 7 → w.cell? ⟨ge, k, none⟩ = some (.int .i64 (es.getD k 0))
theorem OpenAt.below {w w' : World} {gw gh gi ge : Nat} {A : Option Addr} {n cap : Nat} {h : List HOp} {i : Nat} {what : Int} {es : List Int} {B : Nat} (H : OpenAt w gw gh gi ge A n cap h i what es) (hb : Below B w w') (h1 : gw < B) (h2 : gh < B) (h3 : gi < B) (h4 : ge < B) : OpenAt w' gw gh gi ge A n cap h i what es :=
  ⟨(hb.cell (p := ⟨gw, 0, none⟩) h1).trans H.what, (hb.cell (p := ⟨gh, 0, none⟩) h2).trans H.hist, (hb.cell (p := ⟨gi, 0, none⟩) h3).trans H.idx, fun k hk => (hb.cell (p := ⟨ge, k, none⟩) h4).trans (H.ends k hk)⟩

theorem Rd.take {w : World} {B n i : Nat} {A : Option Addr} {h : List HOp} (hr : Rd w B 3 A n (cellsH h)) (hi : i ≤ n) : Rd w B 3 A i (cellsH (h.take i)) := by
  have hl := hr.hlen
  refine ⟨by rw [cellsH_length, List.length_take]; omega, fun hp => ?_⟩
  obtain ⟨b, off, e, hb, hc⟩ := hr.2 (by omega)
  refine ⟨b, off, e, hb, fun j u hu => hc j u ?_⟩
  rw [← cellsH_take, List.getElem?_take] at hu
  split at hu
  · exact hu
  · cases hu
theorem idxGo_any {α : Type} (p : α → Bool) (h : List α) : decide (0 ≤ idxGo p 0 h) = h.any p := by
  rcases idxGo_spec p 0 h with ⟨h1, h2⟩ | ⟨i, o, h1, h2, h3, h4⟩
  · rw [h2]
    have : h.any p = false := by rw [List.any_eq_false]; intro x hx; simp [h1 x hx]
    rw [this]; rfl
  · rw [h4]
    have : h.any p = true := List.any_eq_true.2 ⟨o, List.mem_of_getElem? h1, h2⟩
    rw [this]; simp
end Go.Proofs.YtbccnafdfeempaaGreatDoor


namespace Go.Proofs.YtbccnafdfeempaaGreatDoor
open Go.RowKit Go.Shelf

def eVal (e : Int × Int) : Value := .agg #[.int .i64 e.1, .int .i64 e.2]
/-! ### Check. -/
def badE (e : Int × Int) : Bool := !txB e.1 || !txB e.2
def checkG (E : List (Int × Int)) : Int := if 60 < E.length then 4 else if E.any badE then 1 else 0
/-! ### named. -/
def ends2 (E : List (Int × Int)) : List Int := E.flatMap fun e => [e.1, e.2]
def namedF (E : List (Int × Int)) : List Int := compL (sortI (ends2 E))
theorem ends2_snoc {E : List (Int × Int)} {k : Nat} {e : Int × Int} (h : E[k]? = some e) : ends2 (E.take (k + 1)) = ends2 (E.take k) ++ [e.1, e.2] := by
  rw [List.take_add_one, h]; simp [ends2]
theorem slt_ints : SlT Tryz.prog 24 3 1 8 := slt_int
end Go.Proofs.YtbccnafdfeempaaGreatDoor

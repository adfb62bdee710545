
/-
  CONTRACT of lanesame.Sources: whether two lists of sources are the same. A list of pairs read.
  CONTRACT of odds.At.
  A slice of edges that the call owns.
  CONTRACTS of odds.pairs, odds.Pairs.
-/
import Derived.Test.YtahbaddclacakaaDoorSame
import Derived.Test.YtahbaddclacakaaDoorView
import Derived.StillTailTactics

namespace Go.Proofs.YtahbaddclacakaaDoor
open Go.RowKit

theorem dcells_length (l : List (Int × Int)) : (dcells l).length = l.length * 2 := by
  induction l with
  | nil => rfl
  | cons d t ih =>
    have e : dcells (d :: t) = [.int .i64 d.1, .int .i64 d.2] ++ dcells t := rfl
    rw [e, List.length_append, ih]; simp; omega
theorem Rd.dlen {w : World} {B n : Nat} {A : Option Addr} {l : List (Int × Int)} (h : Rd w B 2 A n (dcells l)) : l.length = n := by
  have hl := h.1
  rw [dcells_length] at hl
  omega
theorem Rd.pr {w : World} {B n : Nat} {A : Option Addr} {l : List (Int × Int)} (h : Rd w B 2 A n (dcells l)) {k : Nat} (hk : k < n) :
    ∃ b off d, A = some ⟨b, off, none⟩ ∧ b < B ∧ l[k]? = some d ∧ w.cell? ⟨b, off + k * 2, none⟩ = some (.int .i64 d.1) ∧ w.cell? ⟨b, off + k * 2 + 1, none⟩ = some (.int .i64 d.2) := by
  obtain ⟨b, off, e, hb, hc⟩ := h.2 (by omega)
  have hl := h.dlen
  have ho : l[k]? = some (l[k]'(by omega)) := List.getElem?_eq_getElem (by omega)
  obtain ⟨h0, h1⟩ := dcells_at ho
  exact ⟨b, off, _, e, hb, ho, hc _ _ h0, hc _ _ h1⟩

end Go.Proofs.YtahbaddclacakaaDoor


namespace Go.Proofs.YtahbaddclacakaaDoor
open Go.RowKit

def oddB (a b : HOp) : Bool := decide (a.tx ≠ b.tx ∧ a.item = b.item ∧ a.item ≠ 0 ∧ (a.what = 2 ∨ b.what = 2))

theorem ocellsP {w : World} {g : Nat} {t : TypeId} {a b c : Int} (h : Blk w g t [.int .i64 a, .int .i64 b, .int .i64 c]) :
    w.cell? ⟨g, 0, none⟩ = some (.int .i64 a) ∧ w.cell? ⟨g, 1, none⟩ = some (.int .i64 b) ∧ w.cell? ⟨g, 2, none⟩ = some (.int .i64 c) := ⟨h.cellS rfl, h.cellS rfl, h.cellS rfl⟩
end Go.Proofs.YtahbaddclacakaaDoor


namespace Go.Proofs.YtahbaddclacakaaDoor
open Go.RowKit
end Go.Proofs.YtahbaddclacakaaDoor


namespace Go.Proofs.YtahbaddclacakaaDoor
open Go.RowKit

def pairsAt (a : HOp) (i k : Nat) : List HOp → List (Int × Int)
  | [] => []
  | b :: t => (if oddB a b then [((i : Int), (k : Int))] else []) ++ pairsAt a i (k + 1) t
def pairsGo (i : Nat) : List HOp → List (Int × Int)
  | [] => []
  | a :: t => pairsAt a i (i + 1) t ++ pairsGo (i + 1) t
def pairsL (h : List HOp) : List (Int × Int) := pairsGo 0 h
theorem pairsAt_step {a b : HOp} {i k : Nat} {l t : List HOp} (e : l = b :: t) : pairsAt a i k l = (if oddB a b then [((i : Int), (k : Int))] else []) ++ pairsAt a i (k + 1) t := by rw [e, pairsAt]
theorem pairsGo_step {a : HOp} {i : Nat} {l t : List HOp} (e : l = a :: t) : pairsGo i l = pairsAt a i (i + 1) t ++ pairsGo (i + 1) t := by rw [e, pairsGo]

end Go.Proofs.YtahbaddclacakaaDoor

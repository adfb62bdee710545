
/-
  CONTRACT of lanesame.Sources: whether two lists of sources are the same. A list of pairs read.
  CONTRACT of odds.At.
  A slice of edges that the call owns.
  CONTRACTS of odds.pairs, odds.Pairs.
-/
import Derived.Test.YtkpnpkikonlmpaaDoorSame
import Derived.Test.YtkpnpkikonlmpaaDoorView
import Derived.StillTailTactics

namespace Go.Proofs.YtkpnpkikonlmpaaDoor
open Go.RowKit

theorem dcells_length (l : List (Int × Int)) : (dcells l).length = l.length * 2 := by
  induction l with
  | nil => rfl
  | cons d t ih =>
    have e : dcells (d :: t) = [.int .i64 d.1, .int .i64 d.2] ++ dcells t := rfl
    rw [e, List.length_append, ih]; simp; omega
theorem Rd.dlen {w : World} {B n : Nat} {A : Option Addr} {l : List (Int × Int)} (h : Rd w B 2 A n (dcells l)) : l.length = n := by
  have hl := h.1
  rw [dcells_length] at hl
  omega
theorem Rd.pr {w : World} {B n : Nat} {A : Option Addr} {l : List (Int × Int)} (h : Rd w B 2 A n (dcells l)) {k : Nat} (hk : k < n) :
    ∃ b off d, A = some ⟨b, off, none⟩ ∧ b < B ∧ l[k]? = some d ∧ w.cell? ⟨b, off + k * 2, none⟩ = some (.int .i64 d.1) ∧ w.cell? ⟨b, off + k * 2 + 1, none⟩ = some (.int .i64 d.2) := by
  obtain ⟨b, off, e, hb, hc⟩ := h.2 (by omega)
  have hl := h.dlen
  have ho : l[k]? = some (l[k]'(by omega)) := List.getElem?_eq_getElem (by omega)
  obtain ⟨h0, h1⟩ := dcells_at ho
  exact ⟨b, off, _, e, hb, ho, hc _ _ h0, hc _ _ h1⟩

set_option maxHeartbeats 400000 in
theorem sources_any (A B : Option Addr) (n m c d : Nat) (xs ys : List (Int × Int)) (w : World) (ha : Rd w w.heap.size 2 A n (dcells xs)) (hb : Rd w w.heap.size 2 B m (dcells ys)) (hm : n ≤ 1000000000000) :
    Calls Tryd.prog 10 #[.slice A n c, .slice B m d] w fun e w' => e = .returned (.bool (decide (xs = ys))) ∧ Below w.heap.size w w' := by
  have hl1 := ha.dlen
  have hl2 := hb.dlen
  by_cases hnm : n = m
  · have hnm2 : ((n : Int) != (m : Int)) = false := by simp [hnm]
    have HN := Lib.hid hnm
    have HL := Lib.hid (And.intro hl1 hl2)
    have hle : n ≤ m := by omega
    clear hnm hl1 hl2
    go_enter Tryd.func10, Tryd.ntmps10
    go_wp2
    clear hnm2
    go_loopw [5] (fun i wr => ∃ k : Nat, k ≤ n ∧ i = .int .i64 k ∧ Hid (xs.take k = ys.take k) ∧ Below w.heap.size w wr) (fun i _ => n - (intOf i).toNat)
    case atStart => exact ⟨0, Nat.zero_le _, rfl, rfl, Below.refl _ _⟩
    case round =>
      obtain ⟨k, hk, rfl, HE, hbw⟩ := hrel
      by_cases hlt : k < n
      · obtain ⟨b1, o1, x, he, _, hx, c1, c2⟩ := (ha.below hbw).pr (k := k) (by omega)
        cases he
        obtain ⟨b2, o2, y, he, _, hy, d1, d2⟩ := (hb.below hbw).pr (k := k) (by omega)
        cases he
        have HT := Lib.hid (take_same HE.out hx hy)
        clear hx hy
        have hlm : k < m := by omega
        by_cases hxy : x = y
        · have HE2 := Lib.hid (HT.out.1 hxy)
          subst hxy
          go_wp2
          go_quiet (fail)
          go_wp2
          go_roundw
          case rel => exact ⟨k + 1, by omega, by go_num, HE2, below_drewN hbw _⟩
          case measure => simp [intOf]; omega
        · have HE2 : Hid (decide (xs = ys) = false) := Lib.hid (decide_eq_false (HT.out.2 hxy))
          obtain ⟨x1, x2⟩ := x
          obtain ⟨y1, y2⟩ := y
          have hxy2 : ¬ (x1 = y1 ∧ x2 = y2) := fun h => hxy (by rw [h.1, h.2])
          clear hxy
          by_cases g1 : x1 = y1 <;> by_cases g2 : x2 = y2
          · exact absurd ⟨g1, g2⟩ hxy2
          all_goals
            try subst g1
            try subst g2
            clear hxy2
            go_wp2
            go_quiet (fail)
            go_wp2
            go_ret
            exact ⟨ret_bool HE2.out.symm, below_drewN hbw _⟩
      · have HE2 : Hid (decide (xs = ys) = true) := Lib.hid (decide_eq_true (by
          have := HE.out
          rwa [List.take_of_length_le (by rw [HL.out.1]; omega), List.take_of_length_le (by rw [HL.out.2, ← HN.out]; omega)] at this))
        go_wp2
        go_ret
        exact ⟨ret_bool HE2.out.symm, hbw⟩
  · have HE2 : Hid (decide (xs = ys) = false) := Lib.hid (decide_eq_false (by rintro rfl; omega))
    have hnm2 : ((n : Int) != (m : Int)) = true := by simp; omega
    go_enter Tryd.func10, Tryd.ntmps10
    go_wp2
    go_ret
    exact ⟨ret_bool HE2.out.symm, Below.refl _ _⟩
end Go.Proofs.YtkpnpkikonlmpaaDoor


namespace Go.Proofs.YtkpnpkikonlmpaaDoor
open Go.RowKit

def oddB (a b : HOp) : Bool := decide (a.tx ≠ b.tx ∧ a.item = b.item ∧ a.item ≠ 0 ∧ (a.what = 2 ∨ b.what = 2))

theorem ocellsP {w : World} {g : Nat} {t : TypeId} {a b c : Int} (h : Blk w g t [.int .i64 a, .int .i64 b, .int .i64 c]) :
    w.cell? ⟨g, 0, none⟩ = some (.int .i64 a) ∧ w.cell? ⟨g, 1, none⟩ = some (.int .i64 b) ∧ w.cell? ⟨g, 2, none⟩ = some (.int .i64 c) := ⟨h.cellS rfl, h.cellS rfl, h.cellS rfl⟩
end Go.Proofs.YtkpnpkikonlmpaaDoor


namespace Go.Proofs.YtkpnpkikonlmpaaDoor
open Go.RowKit
end Go.Proofs.YtkpnpkikonlmpaaDoor


namespace Go.Proofs.YtkpnpkikonlmpaaDoor
open Go.RowKit

def pairsAt (a : HOp) (i k : Nat) : List HOp → List (Int × Int)
  | [] => []
  | b :: t => (if oddB a b then [((i : Int), (k : Int))] else []) ++ pairsAt a i (k + 1) t
def pairsGo (i : Nat) : List HOp → List (Int × Int)
  | [] => []
  | a :: t => pairsAt a i (i + 1) t ++ pairsGo (i + 1) t
def pairsL (h : List HOp) : List (Int × Int) := pairsGo 0 h
theorem pairsAt_step {a b : HOp} {i k : Nat} {l t : List HOp} (e : l = b :: t) : pairsAt a i k l = (if oddB a b then [((i : Int), (k : Int))] else []) ++ pairsAt a i (k + 1) t := by rw [e, pairsAt]
theorem pairsGo_step {a : HOp} {i : Nat} {l t : List HOp} (e : l = a :: t) : pairsGo i l = pairsAt a i (i + 1) t ++ pairsGo (i + 1) t := by rw [e, pairsGo]

end Go.Proofs.YtkpnpkikonlmpaaDoor


/-
  CONTRACTS of laneref1.Tx, In, lanelaw4.pieces, lanesame.Ops.
-/
import Derived.Test.YtbccnafdfeempaaGreatDoorQ1
import Derived.Deep.RegionHeld3

namespace Go.Proofs.YtbccnafdfeempaaGreatDoor
open Go.RowKit

theorem rtx_any (n : Int) (w : World) : Calls Tryz.prog 16 #[.int .i64 n] w fun e w' => e = .returned (.bool (txB n)) ∧ w = w' := by
  by_cases h1 : 1 ≤ n <;> by_cases h2 : n ≤ 6
  all_goals
    go_enter Tryz.func16, Tryz.ntmps16
    go_wp2
    go_ret
    exact ⟨by simp [txB]; omega, rfl⟩

set_option maxHeartbeats 400000 in
theorem ops_any (A B : Option Addr) (n m c d : Nat) (xs ys : List HOp) (w : World) (ha : Rd w w.heap.size 3 A n (cellsH xs)) (hb : Rd w w.heap.size 3 B m (cellsH ys)) (hm : n ≤ 1000000000000) :
    Calls Tryz.prog 8 #[.slice A n c, .slice B m d] w fun e w' => e = .returned (.bool (decide (xs = ys))) ∧ Below w.heap.size w w' := by
  have hl1 := ha.hlen
  have hl2 := hb.hlen
  by_cases hnm : n = m
  · have hnm2 : ((n : Int) != (m : Int)) = false := by simp [hnm]
    have HN := Lib.hid hnm
    have HL := Lib.hid (And.intro hl1 hl2)
    have hle : n ≤ m := by omega
    clear hnm hl1 hl2
    go_enter Tryz.func8, Tryz.ntmps8
    go_wp2
    clear hnm2
    go_loopw [5] (fun i wr => ∃ k : Nat, k ≤ n ∧ i = .int .i64 k ∧ Hid (xs.take k = ys.take k) ∧ Below w.heap.size w wr) (fun i _ => n - (intOf i).toNat)
    case atStart => exact ⟨0, Nat.zero_le _, rfl, rfl, Below.refl _ _⟩
    case round =>
      obtain ⟨k, hk, rfl, HE, hbw⟩ := hrel
      by_cases hlt : k < n
      · obtain ⟨b1, o1, x, he, _, hx, c1, c2, c3⟩ := (ha.below hbw).op (k := k) (by omega)
        cases he
        obtain ⟨b2, o2, y, he, _, hy, d1, d2, d3⟩ := (hb.below hbw).op (k := k) (by omega)
        cases he
        have HT := Lib.hid (take_same HE.out hx hy)
        clear hx hy
        have hlm : k < m := by omega
        by_cases hxy : x = y
        · have HE2 := Lib.hid (HT.out.1 hxy)
          subst hxy
          go_wp2
          go_quiet (fail)
          go_wp2
          go_roundw
          case rel => exact ⟨k + 1, by omega, by go_num, HE2, below_drewN hbw _⟩
          case measure => simp [intOf]; omega
        · have HE2 : Hid (decide (xs = ys) = false) := Lib.hid (decide_eq_false (HT.out.2 hxy))
          obtain ⟨x1, x2, x3⟩ := x
          obtain ⟨y1, y2, y3⟩ := y
          have hxy2 : ¬ (x1 = y1 ∧ x2 = y2 ∧ x3 = y3) := fun h => hxy (by rw [h.1, h.2.1, h.2.2])
          clear hxy
          by_cases g1 : x1 = y1 <;> by_cases g2 : x2 = y2 <;> by_cases g3 : x3 = y3
          · exact absurd ⟨g1, g2, g3⟩ hxy2
          all_goals
            try subst g1
            try subst g2
            try subst g3
            clear hxy2
            go_wp2
            go_quiet (fail)
            go_wp2
            go_ret
            exact ⟨ret_bool HE2.out.symm, below_drewN hbw _⟩
      · have HE2 : Hid (decide (xs = ys) = true) := Lib.hid (decide_eq_true (by
          have := HE.out
          rwa [List.take_of_length_le (by rw [HL.out.1]; omega), List.take_of_length_le (by rw [HL.out.2, ← HN.out]; omega)] at this))
        go_wp2
        go_ret
        exact ⟨ret_bool HE2.out.symm, hbw⟩
  · have HE2 : Hid (decide (xs = ys) = false) := Lib.hid (decide_eq_false (by rintro rfl; omega))
    have hnm2 : ((n : Int) != (m : Int)) = true := by simp; omega
    go_enter Tryz.func8, Tryz.ntmps8
    go_wp2
    go_ret
    exact ⟨ret_bool HE2.out.symm, Below.refl _ _⟩

/-- The deals along numbers: of numbers that are deals, each once; and their ops. -/
def orderGo (order : List Int) : List Int → List Int
  | [] => order
  | x :: r => if txB x = true ∧ x ∉ order then orderGo (order ++ [x]) r else orderGo order r
def orderF (l : List Int) : List Int := orderGo [] (l.take 12)
def piecesH (a b : Int) (order : List Int) : List HOp := order.flatMap fun t => [⟨t, 1, a⟩, ⟨t, 2, b⟩, ⟨t, 3, 0⟩]
theorem piecesH_snoc (a b : Int) (order : List Int) (x : Int) : piecesH a b (order ++ [x]) = piecesH a b order ++ [⟨x, 1, a⟩, ⟨x, 2, b⟩, ⟨x, 3, 0⟩] := by simp [piecesH]

end Go.Proofs.YtbccnafdfeempaaGreatDoor


/-
  CONTRACTS of laneref1.Tx, In, lanelaw4.pieces, lanesame.Ops.
-/
import Derived.Test.YtfmdeahblaikoaaDoorSame
import Derived.Test.YtfmdeahblaikoaaDoorN0
import Derived.Deep.RegionHeld3

namespace Go.Proofs.YtfmdeahblaikoaaDoor
open Go.RowKit

theorem rtx_any (n : Int) (w : World) : Calls Tryd.prog 9 #[.int .i64 n] w fun e w' => e = .returned (.bool (txB n)) ∧ w = w' := by
  by_cases h1 : 1 ≤ n <;> by_cases h2 : n ≤ 6
  all_goals
    go_enter Tryd.func9, Tryd.ntmps9
    go_wp2
    go_ret
    exact ⟨by simp [txB]; omega, rfl⟩

theorem rin_any (A : Option Addr) (n c : Nat) (l : List Int) (x : Int) (w : World) (B : Nat) (hr : Rd w B 1 A n (cellsI l)) (hm : n ≤ 1000000000000) :
    Calls Tryd.prog 73 #[.slice A n c, .int .i64 x] w fun e w' => e = .returned (.bool (decide (x ∈ l))) ∧ w = w' := by
  have HL := Lib.hid hr.ilen
  go_enter Tryd.func73, Tryd.ntmps73
  go_wp2
  go_loop [5] (fun i => ∃ k : Nat, k ≤ n ∧ i = .int .i64 k ∧ Hid (x ∈ l ↔ x ∈ l.drop k)) (fun i => n - (intOf i).toNat)
  case atStart => exact ⟨0, Nat.zero_le _, rfl, Iff.rfl⟩
  case round =>
    obtain ⟨k, hk, rfl, HE⟩ := hrel
    by_cases hlt : k < n
    · obtain ⟨b, off, y, he, hb, hy, c0⟩ := hr.int (k := k) (by omega)
      cases he
      have HO := Lib.hid (drop_at hy)
      clear hy
      by_cases h1 : y = x
      · have HF : Hid (decide (x ∈ l) = true) := Lib.hid (decide_eq_true (by rw [HE.out, HO.out]; simp [h1]))
        have h2 : (y == x) = true := by simp [h1]
        go_wp2
        go_ret
        exact ⟨ret_bool HF.out.symm, rfl⟩
      · have HF : Hid (x ∈ l ↔ x ∈ l.drop (k + 1)) := Lib.hid (by rw [HE.out, HO.out, List.mem_cons]; exact ⟨fun h => h.resolve_left fun e => h1 e.symm, .inr⟩)
        have h2 : (y == x) = false := by simp [h1]
        go_wp2
        go_round
        case rel => exact ⟨k + 1, by omega, by go_num, HF⟩
        case measure => simp [intOf]; omega
    · have HF : Hid (decide (x ∈ l) = false) := Lib.hid (decide_eq_false (by rw [HE.out, drop_end (by rw [HL.out]; omega)]; simp))
      go_wp2
      go_ret
      exact ⟨ret_bool HF.out.symm, rfl⟩

/-- The deals along numbers: of numbers that are deals, each once; and their ops. -/
def orderGo (order : List Int) : List Int → List Int
  | [] => order
  | x :: r => if txB x = true ∧ x ∉ order then orderGo (order ++ [x]) r else orderGo order r
def orderF (l : List Int) : List Int := orderGo [] (l.take 12)
def piecesH (a b : Int) (order : List Int) : List HOp := order.flatMap fun t => [⟨t, 1, a⟩, ⟨t, 2, b⟩, ⟨t, 3, 0⟩]
theorem piecesH_snoc (a b : Int) (order : List Int) (x : Int) : piecesH a b (order ++ [x]) = piecesH a b order ++ [⟨x, 1, a⟩, ⟨x, 2, b⟩, ⟨x, 3, 0⟩] := by simp [piecesH]

end Go.Proofs.YtfmdeahblaikoaaDoor

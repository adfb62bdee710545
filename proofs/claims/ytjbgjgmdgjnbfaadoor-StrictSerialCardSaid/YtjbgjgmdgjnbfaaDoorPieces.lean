
/-
  CONTRACTS of laneref1.Tx, In, lanelaw4.pieces, lanesame.Ops.
-/
import Derived.Test.YtjbgjgmdgjnbfaaDoorSame
import Derived.Test.YtjbgjgmdgjnbfaaDoorN0
import Derived.Deep.RegionHeld3

namespace Go.Proofs.YtjbgjgmdgjnbfaaDoor
open Go.RowKit

theorem rtx_any (n : Int) (w : World) : Calls Tryd.prog 12 #[.int .i64 n] w fun e w' => e = .returned (.bool (txB n)) ∧ w = w' := by
  by_cases h1 : 1 ≤ n <;> by_cases h2 : n ≤ 6
  all_goals
    go_enter Tryd.func12, Tryd.ntmps12
    go_wp2
    go_ret
    exact ⟨by simp [txB]; omega, rfl⟩

theorem rin_any (A : Option Addr) (n c : Nat) (l : List Int) (x : Int) (w : World) (B : Nat) (hr : Rd w B 1 A n (cellsI l)) (hm : n ≤ 1000000000000) :
    Calls Tryd.prog 13 #[.slice A n c, .int .i64 x] w fun e w' => e = .returned (.bool (decide (x ∈ l))) ∧ w = w' := by
  have HL := Lib.hid hr.ilen
  go_enter Tryd.func13, Tryd.ntmps13
  go_wp2
  go_loop [5] (fun i => ∃ k : Nat, k ≤ n ∧ i = .int .i64 k ∧ Hid (x ∈ l ↔ x ∈ l.drop k)) (fun i => n - (intOf i).toNat)
  case atStart => exact ⟨0, Nat.zero_le _, rfl, Iff.rfl⟩
  case round =>
    obtain ⟨k, hk, rfl, HE⟩ := hrel
    by_cases hlt : k < n
    · obtain ⟨b, off, y, he, hb, hy, c0⟩ := hr.int (k := k) (by omega)
      cases he
      have HO := Lib.hid (drop_at hy)
      clear hy
      by_cases h1 : y = x
      · have HF : Hid (decide (x ∈ l) = true) := Lib.hid (decide_eq_true (by rw [HE.out, HO.out]; simp [h1]))
        have h2 : (y == x) = true := by simp [h1]
        go_wp2
        go_ret
        exact ⟨ret_bool HF.out.symm, rfl⟩
      · have HF : Hid (x ∈ l ↔ x ∈ l.drop (k + 1)) := Lib.hid (by rw [HE.out, HO.out, List.mem_cons]; exact ⟨fun h => h.resolve_left fun e => h1 e.symm, .inr⟩)
        have h2 : (y == x) = false := by simp [h1]
        go_wp2
        go_round
        case rel => exact ⟨k + 1, by omega, by go_num, HF⟩
        case measure => simp [intOf]; omega
    · have HF : Hid (decide (x ∈ l) = false) := Lib.hid (decide_eq_false (by rw [HE.out, drop_end (by rw [HL.out]; omega)]; simp))
      go_wp2
      go_ret
      exact ⟨ret_bool HF.out.symm, rfl⟩

set_option maxHeartbeats 400000 in
theorem ops_any (A B : Option Addr) (n m c d : Nat) (xs ys : List HOp) (w : World) (ha : Rd w w.heap.size 3 A n (cellsH xs)) (hb : Rd w w.heap.size 3 B m (cellsH ys)) (hm : n ≤ 1000000000000) :
    Calls Tryd.prog 7 #[.slice A n c, .slice B m d] w fun e w' => e = .returned (.bool (decide (xs = ys))) ∧ Below w.heap.size w w' := by
  have hl1 := ha.hlen
  have hl2 := hb.hlen
  by_cases hnm : n = m
  · have hnm2 : ((n : Int) != (m : Int)) = false := by simp [hnm]
    have HN := Lib.hid hnm
    have HL := Lib.hid (And.intro hl1 hl2)
    have hle : n ≤ m := by omega
    clear hnm hl1 hl2
    go_enter Tryd.func7, Tryd.ntmps7
    go_wp2
    clear hnm2
    go_loopw [5] (fun i wr => ∃ k : Nat, k ≤ n ∧ i = .int .i64 k ∧ Hid (xs.take k = ys.take k) ∧ Below w.heap.size w wr) (fun i _ => n - (intOf i).toNat)
    case atStart => exact ⟨0, Nat.zero_le _, rfl, rfl, Below.refl _ _⟩
    case round =>
      obtain ⟨k, hk, rfl, HE, hbw⟩ := hrel
      by_cases hlt : k < n
      · obtain ⟨b1, o1, x, he, _, hx, c1, c2, c3⟩ := (ha.below hbw).op (k := k) (by omega)
        cases he
        obtain ⟨b2, o2, y, he, _, hy, d1, d2, d3⟩ := (hb.below hbw).op (k := k) (by omega)
        cases he
        have HT := Lib.hid (take_same HE.out hx hy)
        clear hx hy
        have hlm : k < m := by omega
        by_cases hxy : x = y
        · have HE2 := Lib.hid (HT.out.1 hxy)
          subst hxy
          go_wp2
          go_quiet (fail)
          go_wp2
          go_roundw
          case rel => exact ⟨k + 1, by omega, by go_num, HE2, below_drewN hbw _⟩
          case measure => simp [intOf]; omega
        · have HE2 : Hid (decide (xs = ys) = false) := Lib.hid (decide_eq_false (HT.out.2 hxy))
          obtain ⟨x1, x2, x3⟩ := x
          obtain ⟨y1, y2, y3⟩ := y
          have hxy2 : ¬ (x1 = y1 ∧ x2 = y2 ∧ x3 = y3) := fun h => hxy (by rw [h.1, h.2.1, h.2.2])
          clear hxy
          by_cases g1 : x1 = y1 <;> by_cases g2 : x2 = y2 <;> by_cases g3 : x3 = y3
          · exact absurd ⟨g1, g2, g3⟩ hxy2
          all_goals
            try subst g1
            try subst g2
            try subst g3
            clear hxy2
            go_wp2
            go_quiet (fail)
            go_wp2
            go_ret
            exact ⟨ret_bool HE2.out.symm, below_drewN hbw _⟩
      · have HE2 : Hid (decide (xs = ys) = true) := Lib.hid (decide_eq_true (by
          have := HE.out
          rwa [List.take_of_length_le (by rw [HL.out.1]; omega), List.take_of_length_le (by rw [HL.out.2, ← HN.out]; omega)] at this))
        go_wp2
        go_ret
        exact ⟨ret_bool HE2.out.symm, hbw⟩
  · have HE2 : Hid (decide (xs = ys) = false) := Lib.hid (decide_eq_false (by rintro rfl; omega))
    have hnm2 : ((n : Int) != (m : Int)) = true := by simp; omega
    go_enter Tryd.func7, Tryd.ntmps7
    go_wp2
    go_ret
    exact ⟨ret_bool HE2.out.symm, Below.refl _ _⟩

/-- The deals along numbers: of numbers that are deals, each once; and their ops. -/
def orderGo (order : List Int) : List Int → List Int
  | [] => order
  | x :: r => if txB x = true ∧ x ∉ order then orderGo (order ++ [x]) r else orderGo order r
def orderF (l : List Int) : List Int := orderGo [] (l.take 12)
def piecesH (a b : Int) (order : List Int) : List HOp := order.flatMap fun t => [⟨t, 1, a⟩, ⟨t, 2, b⟩, ⟨t, 3, 0⟩]
theorem piecesH_snoc (a b : Int) (order : List Int) (x : Int) : piecesH a b (order ++ [x]) = piecesH a b order ++ [⟨x, 1, a⟩, ⟨x, 2, b⟩, ⟨x, 3, 0⟩] := by simp [piecesH]

set_option maxRecDepth 100000 in
set_option maxHeartbeats 1000000 in
theorem pieces_any (A : Option Addr) (n c : Nat) (l : List Int) (a b : Int) (w : World) (hr : Rd w w.heap.size 1 A n (cellsI l)) (hm : n ≤ 100000000000000) :
    Calls Tryd.prog 6 #[.slice A n c, .int .i64 a, .int .i64 b] w fun e w' => ∃ v1 v2, e = .returned (.tuple #[v1, v2]) ∧ w'.ownsRow w.heap.size 44 3 v1 ((orderF l).length * 3) (cellsH (piecesH a b (orderF l))) ∧ w'.ownsRow w.heap.size 3 1 v2 (orderF l).length (cellsI (orderF l)) ∧ Below w.heap.size w w' := by
  have HL := Lib.hid hr.ilen
  go_enter Tryd.func6, Tryd.ntmps6
  go_wp2
  go_loopw [8, 9, 10] (fun s8 s9 i wr => ∃ (k : Nat) (order : List Int), k ≤ n ∧ k ≤ 12 ∧ order.length ≤ k ∧ i = .int .i64 k ∧ Hid (orderF l = orderGo order ((l.take 12).drop k)) ∧ wr.ownsRow w.heap.size 44 3 s8 (order.length * 3) (cellsH (piecesH a b order)) ∧
      wr.ownsRow w.heap.size 3 1 s9 order.length (cellsI order) ∧ Below w.heap.size w wr) (fun _ _ i _ => 12 - (intOf i).toNat)
  case atStart => exact ⟨0, [], Nat.zero_le _, Nat.zero_le _, Nat.le_refl _, rfl, rfl, World.ownsRow_nil _ _ _ _, World.ownsRow_nil _ _ _ _, Below.refl _ _⟩
  case round =>
    obtain ⟨k, order, hk, hk2, hol, rfl, HE, ho1, ho2, hbw⟩ := hrel
    obtain ⟨A1, c1, rfl⟩ := own_slice ho1
    obtain ⟨A2, c2, rfl⟩ := own_slice ho2
    have hsz := hbw.size
    by_cases hlt : k < n
    · by_cases hlt2 : k < 12
      · obtain ⟨bb, off, x, he, hb, hx, c0⟩ := (hr.below hbw).int (k := k) (by omega)
        cases he
        have HO : Hid ((l.take 12).drop k = x :: (l.take 12).drop (k + 1)) := drop_at (by rw [List.getElem?_take, if_pos hlt2]; exact hx)
        clear hx
        have hin := rin_any A2 order.length c2 order x wr wr.heap.size (rd_own ho2) (by omega)
        cases hT : txB x
        · have HE2 : Hid (orderF l = orderGo order ((l.take 12).drop (k + 1))) := Lib.hid (by rw [HE.out, HO.out]; simp [orderGo, hT])
          have HIN := hide hin
          clear hin
          go_wp2_with (first
            | (go_at_call 12; refine (rtx_any _ _).mono ?_; rintro e w' ⟨rfl, rfl⟩; rw [hT])
            | (go_at_call 13; refine (unhide HIN).mono ?_; rintro e w' ⟨rfl, rfl⟩))
          go_roundw
          case rel => exact ⟨k + 1, order, by omega, by omega, by omega, by go_num, HE2, ho1, ho2, hbw⟩
          case measure => simp [intOf]; omega
        · by_cases hI : x ∈ order
          · have HE2 : Hid (orderF l = orderGo order ((l.take 12).drop (k + 1))) := Lib.hid (by rw [HE.out, HO.out]; simp [orderGo, hI])
            rw [decide_eq_true hI] at hin
            have HIN := hide hin
            clear hin hI
            go_wp2_with (first
              | (go_at_call 12; refine (rtx_any _ _).mono ?_; rintro e w' ⟨rfl, rfl⟩; rw [hT])
              | (go_at_call 13; refine (unhide HIN).mono ?_; rintro e w' ⟨rfl, rfl⟩))
            go_roundw
            case rel => exact ⟨k + 1, order, by omega, by omega, by omega, by go_num, HE2, ho1, ho2, hbw⟩
            case measure => simp [intOf]; omega
          · have HE2 : Hid (orderF l = orderGo (order ++ [x]) ((l.take 12).drop (k + 1))) := Lib.hid (by rw [HE.out, HO.out]; simp [orderGo, hT, hI])
            rw [decide_eq_false hI] at hin
            have HIN := hide hin
            clear hin hI
            go_wp2_with (first
              | (go_at_call 12; refine (rtx_any _ _).mono ?_; rintro e w' ⟨rfl, rfl⟩; rw [hT])
              | (go_at_call 13; refine (unhide HIN).mono ?_; rintro e w' ⟨rfl, rfl⟩)
              | (at_builtin; (refine wpList_app rfl (.tmp 39) (.tmp 44) _ rfl w.heap.size slt_int (n := order.length) (xs := cellsI order) (m := 1) (news := [.int .i64 x]) rfl (own_alloc ho2 _) rfl (rd_new' _ _ [.int .i64 x] (by simp) rfl) (one1 (x := .int .i64 x) rfl) (by omega) (by simp; omega) ?_; intro v5 w5 hown5 hg5 hb5 hat5 hne5)))
            have ho1' := own_other (own_alloc ho1 (.cells #[.int .i64 x] 3)) (own_alloc ho2 _) (by decide) hg5
            have hbw5 : Below w.heap.size w w5 := (hbw.alloc hsz _).trans hb5
            have c5' : w5.cell? ⟨bb, off + k, none⟩ = some (.int .i64 x) := by
              have := hb5.cell (p := ⟨bb, off + k, none⟩) hb
              rw [this, World.cell?_alloc_lt _ _ _ (show bb < wr.heap.size from by omega)]; exact c0
            clear c0
            have hsz5 := hbw5.size
            have hc9 : ∀ u ∈ cellsH [⟨x, 1, a⟩, ⟨x, 2, b⟩, ⟨x, 3, 0⟩], u.oneCell' = true := oneH _
            go_region_held3 (fun w' => w'.cell? ⟨bb, off + k, none⟩ = some (.int .i64 x)) (first | exact hcell6 | exact c5' | exact (World.cell?_alloc_lt w5 _ _ (show bb < w5.heap.size from by omega)).trans c5' | go_keep)
              (first
                | ((refine step_app rfl (.tmp 46) (.tmp 64) _ rfl w.heap.size slt_op (n := order.length * 3) (xs := cellsH (piecesH a b order)) (m := 3) (news := cellsH [⟨x, 1, a⟩, ⟨x, 2, b⟩, ⟨x, 3, 0⟩]) rfl (own_alloc ho1'.drew _) rfl (rd_new' _ _ (cellsH [⟨x, 1, a⟩, ⟨x, 2, b⟩, ⟨x, 3, 0⟩]) (by simp) rfl) hc9 (by omega) (by simp; omega) ?_; intro v6 w6 hown6 hg6 hb6; have hcell6 : w6.cell? ⟨bb, off + k, none⟩ = some (.int .i64 x) := ((hb6.cell (p := ⟨bb, off + k, none⟩) hb).trans ((World.cell?_alloc_lt w5 _ _ (show bb < w5.heap.size from by omega)).trans c5')))))
            have hp1 : w6.ownsRow w.heap.size 44 3 v6 ((order ++ [x]).length * 3) (cellsH (piecesH a b (order ++ [x]))) := by
              rw [piecesH_snoc, cellsH_append, List.length_append, Nat.add_mul]; exact hown6
            have hp2 : w6.ownsRow w.heap.size 3 1 v5 (order ++ [x]).length (cellsI (order ++ [x])) := by
              rw [show cellsI (order ++ [x]) = cellsI order ++ [.int .i64 x] from by simp [cellsI], List.length_append]
              exact own_other (own_alloc hown5.drew (.cells (cellsH [⟨x, 1, a⟩, ⟨x, 2, b⟩, ⟨x, 3, 0⟩]).toArray 44)) (own_alloc ho1'.drew _) (by decide) hg6
            have hbw6 : Below w.heap.size w w6 := (hbw5.drew.alloc (by simp; omega) _).trans hb6
            clear hown6 hown5 hg6 hg5 hb5 hat5 hne5 ho1' ho1 ho2
            go_wp2
            go_roundw
            case rel => exact ⟨k + 1, order ++ [x], by omega, by omega, by simp; omega, by go_num, HE2, hp1, hp2, hbw6⟩
            case measure => simp [intOf]; omega
      · have HE2 : Hid (orderF l = order) := Lib.hid (by rw [HE.out, drop_end (by rw [List.length_take]; omega)]; rfl)
        have hk12 : k = 12 := by omega
        subst hk12
        go_wp2
        go_ret2
        exact ⟨_, _, rfl, by rw [HE2.out]; exact ho1, by rw [HE2.out]; exact ho2, hbw⟩
    · have HE2 : Hid (orderF l = order) := Lib.hid (by rw [HE.out, drop_end (by rw [List.length_take, HL.out]; omega)]; rfl)
      go_wp2
      go_ret2
      exact ⟨_, _, rfl, by rw [HE2.out]; exact ho1, by rw [HE2.out]; exact ho2, hbw⟩
end Go.Proofs.YtjbgjgmdgjnbfaaDoor

/-
  lanelaw4.StampRising: the plain law, and the walk.
-/
import Derived.Test.YtaeckfhmmckopaaStampRun
import Derived.Test.YtaeckfhmmckopaaPieces
namespace Go.Proofs.Ytaeckfhmmckopaa
open Go.RowKit

def upL (j : Nat) : List Int := (List.range j).map fun (i : Nat) => (i : Int) + 1
def dnL (n j : Nat) : List Int := (List.range j).map fun (i : Nat) => (n : Int) - i
theorem upL_succ (j : Nat) : cellsI (upL (j + 1)) = cellsI (upL j) ++ [.int .i64 ((j : Int) + 1)] := by simp [upL, cellsI, List.range_succ]
theorem dnL_succ (n j : Nat) : cellsI (dnL n (j + 1)) = cellsI (dnL n j) ++ [.int .i64 ((n : Int) - j)] := by simp [dnL, cellsI, List.range_succ]

theorem rising_fin : ∀ (n : Fin 7) (a b : Fin 6) (lv : Bool),
    (checkF (piecesH (a.val + 1 : Nat) (b.val + 1 : Nat) (orderF (upL n.val)))).2 = 0 ∧ stampF lv (piecesH (a.val + 1 : Nat) (b.val + 1 : Nat) (orderF (upL n.val))) = (piecesH (a.val + 1 : Nat) (b.val + 1 : Nat) (orderF (upL n.val)), []) := by decide +kernel
theorem falling_fin : ∀ (n : Fin 7) (a : Fin 6) (lv : Bool),
    (checkF (piecesH (a.val + 1 : Nat) (a.val + 1 : Nat) (orderF (dnL n.val n.val)))).2 = 0 ∧ (2 ≤ n.val → (stampF lv (piecesH (a.val + 1 : Nat) (a.val + 1 : Nat) (orderF (dnL n.val n.val)))).2.length + 1 = n.val) := by decide +kernel
theorem rising (N : Nat) (a b : Int) (lv : Bool) (hN : N ≤ 6) (ha : 1 ≤ a ∧ a ≤ 6) (hb : 1 ≤ b ∧ b ≤ 6) :
    okH (piecesH a b (orderF (upL N))) ∧ stampF lv (piecesH a b (orderF (upL N))) = (piecesH a b (orderF (upL N)), []) := by
  have h := rising_fin ⟨N, by omega⟩ ⟨(a - 1).toNat, by omega⟩ ⟨(b - 1).toNat, by omega⟩ lv
  simp only at h
  rw [show (((a - 1).toNat + 1 : Nat) : Int) = a from by omega, show (((b - 1).toNat + 1 : Nat) : Int) = b from by omega] at h
  exact h
theorem falling (N : Nat) (a : Int) (lv : Bool) (hN : N ≤ 6) (ha : 1 ≤ a ∧ a ≤ 6) :
    okH (piecesH a a (orderF (dnL N N))) ∧ (2 ≤ N → (stampF lv (piecesH a a (orderF (dnL N N)))).2.length + 1 = N) := by
  have h := falling_fin ⟨N, by omega⟩ ⟨(a - 1).toNat, by omega⟩ lv
  simp only at h
  rw [show (((a - 1).toNat + 1 : Nat) : Int) = a from by omega] at h
  exact h

set_option maxRecDepth 100000 in
set_option maxHeartbeats 1000000 in
theorem rising_in (N : Nat) (a b : Int) (lv : Bool) (w : World) (hN : N ≤ 6) (ha : 1 ≤ a ∧ a ≤ 6) (hb : 1 ≤ b ∧ b ≤ 6) :
    Calls Try.prog 6 #[.int .i64 N, .int .i64 a, .int .i64 b, .bool lv] w fun e w' => e = .returned (.bool true) ∧ Below w.heap.size w w' := by
  obtain ⟨k1, k2⟩ := rising N a b lv hN ha hb
  obtain ⟨k3, k4⟩ := falling N a lv hN ha
  have K := Lib.hid (And.intro k1 (And.intro k2 (And.intro k3 k4)))
  clear k1 k2 k3 k4
  obtain ⟨a1, a2⟩ := ha
  obtain ⟨b1, b2⟩ := hb
  have hn0 : (0 : Int) ≤ (N : Int) := by omega
  have hn6 : (N : Int) ≤ 6 := by omega
  go_enter Try.func6, Try.ntmps6
  go_wp2
  go_loopw [9, 10] (fun s9 i wr => ∃ j : Nat, j ≤ N ∧ i = .int .i64 ((j : Int) + 1) ∧ wr.ownsRow w.heap.size 3 1 s9 j (cellsI (upL j)) ∧ Below w.heap.size w wr) (fun _ i _ => N + 1 - (intOf i).toNat)
  case atStart => exact ⟨0, Nat.zero_le _, rfl, World.ownsRow_nil _ _ _ _, Below.refl _ _⟩
  case round =>
    obtain ⟨j, hj, rfl, ho, hbw⟩ := hrel
    obtain ⟨A1, c1, rfl⟩ := own_slice ho
    have hsz := hbw.size
    by_cases hlt : j < N
    · go_wp2_with (at_builtin; (refine wpList_app rfl (.tmp 45) (.tmp 47) _ rfl w.heap.size slt_int (n := j) (xs := cellsI (upL j)) (m := 1) (news := [.int .i64 ((j : Int) + 1)]) rfl (own_alloc ho _) rfl (rd_new' _ _ [.int .i64 ((j : Int) + 1)] (by simp) rfl) (one1 (x := .int .i64 ((j : Int) + 1)) rfl) (by omega) (by simp; omega) ?_; intro v5 w5 hown5 hg5 hb5 hat5 hne5))
      have hbw5 : Below w.heap.size w w5 := (hbw.alloc hsz _).trans hb5
      rw [← upL_succ] at hown5
      go_roundw
      case rel => exact ⟨j + 1, by omega, by go_num, hown5, hbw5⟩
      case measure => simp [intOf]; omega
    · have hjN : j = N := by omega
      subst hjN
      have C1 := pieces_any A1 j c1 (upL j) a b wr (rd_own ho) (by omega)
      have HC1 := hide C1
      clear C1
      go_wp2_with (first
        | (go_at_call 22; refine (unhide HC1).mono ?_; rintro e w2 ⟨v1, v2, rfl, hp1, hp2, hb2⟩; obtain ⟨A11, c11, rfl⟩ := own_slice hp1; obtain ⟨A12, c12, rfl⟩ := own_slice hp2; have hz2 := hb2.size)
        | (go_at_call 23; refine (stamp_any A11 _ c11 _ lv w2 (rd_own hp1) K.out.1).mono ?_; rintro e w3 ⟨t1, t2, m1, m2, rfl, ht1, ht2, hb3⟩; rw [K.out.2.1] at ht1 ht2; obtain ⟨A13, c13, rfl⟩ := own_slice ht1; obtain ⟨A14, c14, rfl⟩ := own_slice ht2; have hm2 : m2 = 0 := (own_ilen ht2).symm; subst hm2; have hz3 := hb3.size)
        | (go_at_call 24; refine (ops_any A13 A11 _ _ c13 c11 _ _ w3 (rd_own ht1) (((rd_own hp1).below hb3).more hz3) (by rw [← (rd_own ht1).hlen]; exact Nat.le_trans (okH_len K.out.1) (by decide))).mono ?_; rintro e w4 ⟨rfl, hb4⟩; rw [decide_eq_true (rfl : piecesH a b (orderF (upL j)) = piecesH a b (orderF (upL j)))]))
      have hbw4 : Below w.heap.size w w4 := ((hbw.trans (hb2.mono hsz)).trans (hb3.mono (by omega))).trans (hb4.mono (by omega))
      go_loopw [16, 17] (fun s9 i wr => ∃ k : Nat, k ≤ j ∧ i = .int .i64 ((j : Int) - k) ∧ wr.ownsRow w.heap.size 3 1 s9 k (cellsI (dnL j k)) ∧ Below w.heap.size w wr) (fun _ i _ => (intOf i).toNat)
      case atStart => exact ⟨0, Nat.zero_le _, by go_num, World.ownsRow_nil _ _ _ _, hbw4⟩
      case round =>
        clear hbw4 hb4 hb3 hb2 hz2 hz3 ht1 ht2 hp1 hp2 ho hbw hsz
        obtain ⟨k, hk, rfl, ho, hbw⟩ := hrel
        obtain ⟨A2, c2, rfl⟩ := own_slice ho
        have hsz := hbw.size
        by_cases hlt2 : k < j
        · go_wp2_with (at_builtin; (refine wpList_app rfl (.tmp 81) (.tmp 83) _ rfl w.heap.size slt_int (n := k) (xs := cellsI (dnL j k)) (m := 1) (news := [.int .i64 ((j : Int) - k)]) rfl (own_alloc ho _) rfl (rd_new' _ _ [.int .i64 ((j : Int) - k)] (by simp) rfl) (one1 (x := .int .i64 ((j : Int) - k)) rfl) (by omega) (by simp; omega) ?_; intro v5 w5 hown5 hg5 hb5 hat5 hne5))
          have hbw5 : Below w.heap.size w w5 := (hbw.alloc hsz _).trans hb5
          rw [← dnL_succ] at hown5
          go_roundw
          case rel => exact ⟨k + 1, by omega, by go_num, hown5, hbw5⟩
          case measure => simp [intOf]; omega
        · have hjk : k = j := by omega
          subst hjk
          have C2 := pieces_any A2 k c2 (dnL k k) a a wr (rd_own ho) (by omega)
          have HC2 := hide C2
          clear C2
          go_wp2_with (first
            | (go_at_call 22; refine (unhide HC2).mono ?_; rintro e x2 ⟨v1, v2, rfl, hp1, hp2, hb2⟩; obtain ⟨A21, c21, rfl⟩ := own_slice hp1; obtain ⟨A22, c22, rfl⟩ := own_slice hp2; have hz2 := hb2.size)
            | (go_at_call 23; refine (stamp_any A21 _ c21 _ lv x2 (rd_own hp1) K.out.2.2.1).mono ?_; rintro e x3 ⟨t1, t2, m1, m2, rfl, ht1, ht2, hb3⟩; obtain ⟨A23, c23, rfl⟩ := own_slice ht1; obtain ⟨A24, c24, rfl⟩ := own_slice ht2; have hm2 : 2 ≤ k → m2 + 1 = k := fun h => (by rw [← own_ilen ht2]; exact K.out.2.2.2 h); have hz3 := hb3.size))
          all_goals
            have hbw3 : Below w.heap.size w x3 := (hbw.trans (hb2.mono hsz)).trans (hb3.mono (by omega))
            have hX : (decide ((k : Int) < 2) || ((m2 : Int) == (k : Int) - 1)) = true := by
              by_cases h : (k : Int) < 2
              · simp [h]
              · have := hm2 (by omega)
                simp; omega
            go_ret
            first
              | exact ⟨rfl, hbw3⟩
              | exact ⟨ret_bool hX, hbw3⟩
end Go.Proofs.Ytaeckfhmmckopaa

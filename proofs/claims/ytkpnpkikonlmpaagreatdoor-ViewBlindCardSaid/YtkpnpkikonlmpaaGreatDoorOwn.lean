
/-
  CONTRACTS of history.Own, slices.Equal at ops, odds.SameDeals.
-/
import Derived.Test.YtkpnpkikonlmpaaGreatDoorAlikeP
import Derived.Test.YtkpnpkikonlmpaaGreatDoorN0

namespace Go.Proofs.YtkpnpkikonlmpaaGreatDoor
open Go.RowKit

theorem own1_any (o : HOp) (tx : Int) (g : Nat) (w : World) (hB : Blk w g 3 [.int .i64 tx]) :
    Calls Tryz.prog 66 #[o.val, .pointer (some ⟨g, 0, none⟩)] w fun e w' => e = .returned (.bool (!decide (o.tx = tx))) ∧ Below w.heap.size w w' := by
  obtain ⟨a, what, item⟩ := o
  have hlt := hB.lt
  have c0 : (w.alloc (.cells #[.int .i64 a, .int .i64 what, .int .i64 item] 37)).cell? ⟨g, 0, none⟩ = some (.int .i64 tx) := (hB.alloc _).cellS rfl
  have HR : Hid ((a != tx) = !decide (a = tx)) := Lib.hid (by by_cases h : a = tx <;> simp [h])
  clear hB
  unfold HOp.val
  go_enter Tryz.func66, Tryz.ntmps66
  go_wp2
  go_ret
  exact ⟨ret_bool HR.out, (Below.refl _ _).alloc (Nat.le_refl _) _⟩
theorem call_own1 (args : Array Value) (w : World) : (callFunc 66 args).run Tryz.prog w = .ok (.enter 66 args) w := by kernel_rfl

set_option maxHeartbeats 1000000 in
theorem own_any (A : Option Addr) (n cap : Nat) (h : List HOp) (tx : Int) (w : World) (hr : Rd w w.heap.size 3 A n (cellsH h)) (hm : n ≤ 1000000) :
    Calls Tryz.prog 47 #[.slice A n cap, .int .i64 tx] w fun e w' => ∃ A' m c', e = .returned (.slice A' m c') ∧ w'.ownsRow w.heap.size 37 3 (.slice A' m c') m (cellsH (ownL h tx)) ∧ Below w.heap.size w w' := by
  have hB := Blk.new w 3 [.int .i64 tx]
  have hb0 : Below w.heap.size w (w.alloc (.cells #[.int .i64 tx] 3)) := (Below.refl _ _).alloc (Nat.le_refl _) _
  have C1 := hide (clone_op A n cap (cellsH h) _ ((hr.below hb0).more hb0.size) (oneH h) (by omega))
  have HB := hide hB
  have HB0 := hide hb0
  clear hB hb0
  go_enter Tryz.func47, Tryz.ntmps47
  go_wp2_with fail
  refine (unhide C1).mono ?_
  rintro e w1 ⟨v1, rfl, hown1, hb1⟩
  obtain ⟨A1, c1, rfl⟩ := own_slice hown1
  have hz1 : w.heap.size + 1 ≤ w1.heap.size := by have := hb1.size; simpa using this
  have hbw1 := (unhide HB0).trans (hb1.mono (unhide HB0).size)
  have hB1 := (unhide HB).below hb1 (unhide HB).lt
  have C2 := hide (deleteFunc_op A1 n c1 (w.heap.size + 1) h 66 #[.pointer (some ⟨w.heap.size, 0, none⟩)] (fun o => !decide (o.tx = tx)) w1 (own_mono hown1 (by simp)) hz1 (by omega) call_own1 (fun o ho w' hw' => own1_any o tx w.heap.size w' (hB1.below hw' (by omega))))
  clear C1 hb1 HB HB0 hown1
  go_wp2_with fail
  refine (unhide C2).mono ?_
  rintro e w2 ⟨m, rfl, hown2, hb2⟩
  have HQ : Hid (cellsH (ownL h tx) = cellsH (h.filter fun o => !!decide (o.tx = tx))) := Lib.hid (by unfold ownL; simp)
  rw [← HQ.out] at hown2
  have hbw2 := hbw1.trans (hb2.mono (by omega))
  clear C2 hb2 HQ
  go_wp2
  go_ret
  exact ⟨A1, m, c1, rfl, own_mono hown2 (by omega), hbw2⟩

/-! ### slices.Equal at ops. -/
set_option maxHeartbeats 1000000 in
theorem eqOps_any (A B : Option Addr) (n m c d : Nat) (xs ys : List HOp) (w : World) (ha : Rd w w.heap.size 3 A n (cellsH xs)) (hb : Rd w w.heap.size 3 B m (cellsH ys)) (hm : n ≤ 1000000000000) :
    Calls Tryz.prog 78 #[.slice A n c, .slice B m d] w fun e w' => e = .returned (.bool (decide (xs = ys))) ∧ Below w.heap.size w w' := by
  have hl1 := ha.hlen
  have hl2 := hb.hlen
  by_cases hnm : n = m
  · have hnm2 : ((n : Int) != (m : Int)) = false := by simp [hnm]
    have HN := Lib.hid hnm
    have HL := Lib.hid (And.intro hl1 hl2)
    have hle : n ≤ m := by omega
    clear hnm hl1 hl2
    go_enter Tryz.func78, Tryz.ntmps78
    go_wp2
    clear hnm2
    go_loopw [13] (fun i wr => ∃ k : Nat, k ≤ n ∧ i = .int .i64 k ∧ Hid (xs.take k = ys.take k) ∧ Below w.heap.size w wr) (fun i _ => n - (intOf i).toNat)
    case atStart => exact ⟨0, Nat.zero_le _, rfl, rfl, Below.refl _ _⟩
    case round =>
      obtain ⟨k, hk, rfl, HE, hbw⟩ := hrel
      by_cases hlt : k < n
      · obtain ⟨b1, o1, x, he, _, hx, c1, c2, c3⟩ := (ha.below hbw).op (k := k) (by omega)
        cases he
        obtain ⟨b2, o2, y, he, _, hy, d1, d2, d3⟩ := (hb.below hbw).op (k := k) (by omega)
        cases he
        have HT := Lib.hid (take_same HE.out hx hy)
        clear hx hy
        have hlm : k < m := by omega
        by_cases hxy : x = y
        · have HE2 := Lib.hid (HT.out.1 hxy)
          subst hxy
          go_wp2
          go_quiet (fail)
          go_wp2
          go_roundw
          case rel => exact ⟨k + 1, by omega, by go_num, HE2, below_drewN hbw _⟩
          case measure => simp [intOf]; omega
        · have HE2 : Hid (decide (xs = ys) = false) := Lib.hid (decide_eq_false (HT.out.2 hxy))
          obtain ⟨x1, x2, x3⟩ := x
          obtain ⟨y1, y2, y3⟩ := y
          have hxy2 : ¬ (x1 = y1 ∧ x2 = y2 ∧ x3 = y3) := fun h => hxy (by rw [h.1, h.2.1, h.2.2])
          clear hxy
          by_cases g1 : x1 = y1 <;> by_cases g2 : x2 = y2 <;> by_cases g3 : x3 = y3
          · exact absurd ⟨g1, g2, g3⟩ hxy2
          all_goals
            try subst g1
            try subst g2
            try subst g3
            clear hxy2
            go_wp2
            go_quiet (fail)
            go_wp2
            go_ret
            exact ⟨ret_bool HE2.out.symm, below_drewN hbw _⟩
      · have HE2 : Hid (decide (xs = ys) = true) := Lib.hid (decide_eq_true (by
          have := HE.out
          rwa [List.take_of_length_le (by rw [HL.out.1]; omega), List.take_of_length_le (by rw [HL.out.2, ← HN.out]; omega)] at this))
        go_wp2
        go_ret
        exact ⟨ret_bool HE2.out.symm, hbw⟩
  · have hnm2 : ((n : Int) != (m : Int)) = true := by simp; omega
    have HE2 : Hid (decide (xs = ys) = false) := Lib.hid (decide_eq_false (by rintro rfl; omega))
    clear hnm hl1 hl2
    go_enter Tryz.func78, Tryz.ntmps78
    go_wp2
    go_ret
    exact ⟨ret_bool HE2.out.symm, Below.refl _ _⟩

/-! ### odds.SameDeals -/
theorem ownL_len (h : List HOp) (t : Int) : (ownL h t).length ≤ h.length := List.length_filter_le _ _
def sameGo (h g : List HOp) : Nat → Int → Bool
  | 0, _ => true
  | r + 1, t => decide (ownL h t = ownL g t) && sameGo h g r (t + 1)
theorem sameGo_eq (h g : List HOp) : sameGo h g 6 1 = sameOwnB h g := by
  unfold sameOwnB
  simp only [sameGo, List.all_cons, List.all_nil]
  rfl
set_option maxHeartbeats 1000000 in
theorem sameDeals_any (A B : Option Addr) (n m c d : Nat) (h g : List HOp) (w : World) (hr : Rd w w.heap.size 3 A n (cellsH h)) (hg : Rd w w.heap.size 3 B m (cellsH g)) (hn : n ≤ 1000000) (hm : m ≤ 1000000) :
    Calls Tryz.prog 55 #[.slice A n c, .slice B m d] w fun e w' => e = .returned (.bool (sameOwnB h g)) ∧ Below w.heap.size w w' := by
  have HL := Lib.hid hr.hlen
  have HS : Hid (sameOwnB h g = sameGo h g 6 1) := Lib.hid (sameGo_eq h g).symm
  have C1 := hide (fun (t : Int) w1 (hb : Below w.heap.size w w1) => own_any A n c h t w1 ((hr.below hb).more hb.size) hn)
  have C2 := hide (fun (t : Int) w1 (hb : Below w.heap.size w w1) => own_any B m d g t w1 ((hg.below hb).more hb.size) hm)
  generalize sameOwnB h g = R at *
  go_enter Tryz.func55, Tryz.ntmps55
  go_wp2
  go_loopw [5] (fun s5 wr => ∃ t r : Nat, 1 ≤ t ∧ t + r = 7 ∧ s5 = .int .i64 t ∧ Hid (R = sameGo h g r t) ∧ Below w.heap.size w wr) (fun s5 _ => 7 - (intOf s5).toNat)
  case atStart => exact ⟨1, 6, by omega, rfl, rfl, HS, Below.refl _ _⟩
  case round =>
    clear HS
    obtain ⟨t, r, ht1, htr, rfl, HR, hbw⟩ := hrel
    by_cases ht6 : t ≤ 6
    · obtain ⟨r', rfl⟩ : ∃ r', r = r' + 1 := ⟨r - 1, by omega⟩
      have HR2 : Hid (R = (decide (ownL h t = ownL g t) && sameGo h g r' ((t : Int) + 1))) := HR
      have D1 := hide (unhide C1 t wr hbw)
      clear HR
      go_wp2_with fail
      refine (unhide D1).mono ?_
      rintro e w1 ⟨A1, m1, c1, rfl, ho1, hb1⟩
      have hbw1 := hbw.trans (hb1.mono hbw.size)
      have D2 := hide (unhide C2 t w1 hbw1)
      have hl1 : m1 ≤ 1000000 := by have := (rd_own ho1).hlen; have h2 := ownL_len h t; have h3 := HL.out; omega
      clear D1 hb1 hbw
      go_wp2_with fail
      refine (unhide D2).mono ?_
      rintro e w2 ⟨A2, m2, c2, rfl, ho2, hb2⟩
      have hbw2 := hbw1.trans (hb2.mono hbw1.size)
      have D3 := hide (eqOps_any A1 A2 m1 m2 c1 c2 _ _ w2 (((rd_own ho1).below hb2).more hb2.size) (rd_own ho2) (by omega))
      generalize decide (ownL h t = ownL g t) = q at *
      clear D2 ho1 ho2 hb2 hbw1
      go_wp2_with fail
      refine (unhide D3).mono ?_
      rintro e w3 ⟨rfl, hb3⟩
      have hbw3 := hbw2.trans (hb3.mono hbw2.size)
      clear D3 hb3 hbw2
      cases q
      · have HF : Hid (R = false) := Lib.hid (by rw [HR2.out]; rfl)
        clear HR2
        go_wp2
        go_ret
        exact ⟨ret_bool HF.out.symm, hbw3⟩
      · have HF : Hid (R = sameGo h g r' (t + 1 : Nat)) := Lib.hid (by rw [HR2.out]; simp)
        clear HR2
        go_wp2
        go_roundw
        case rel => exact ⟨t + 1, r', by omega, by omega, by go_num, HF, hbw3⟩
        case measure => simp [intOf]; omega
    · obtain rfl : r = 0 := by omega
      have HF : Hid (R = true) := HR
      clear HR
      go_wp2
      go_ret
      exact ⟨ret_bool HF.out.symm, hbw⟩
end Go.Proofs.YtkpnpkikonlmpaaGreatDoor

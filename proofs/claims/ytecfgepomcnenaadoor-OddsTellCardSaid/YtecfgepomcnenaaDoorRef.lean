
/-
  CONTRACTS of laneref1.History, Right: which op is wrong, and how, as Check says.
-/
import Derived.Test.YtecfgepomcnenaaDoorRefP
import Derived.Test.YtecfgepomcnenaaDoorPieces
namespace Go.Proofs.YtecfgepomcnenaaDoor
open Go.RowKit

theorem rightB_mk {o : HOp} (h : 1 ≤ o.tx ∧ o.tx ≤ 6 ∧ 1 ≤ o.what ∧ o.what ≤ 4 ∧ (o.what < 3 → 1 ≤ o.item ∧ o.item ≤ 6) ∧ (3 ≤ o.what → o.item = 0)) : rightB o = true := by
  obtain ⟨h1, h2, h3, h4, h5, h6⟩ := h
  unfold rightB txB endsB
  rw [decide_eq_true (by omega), decide_eq_true (by omega)]
  by_cases hw : 3 ≤ o.what
  · rw [if_pos (by simp; omega)]; simp [h6 hw]
  · rw [if_neg (by simp; omega)]; have := h5 (by omega); simp; omega
theorem rightB_not {o : HOp} (h : ¬ (1 ≤ o.tx ∧ o.tx ≤ 6 ∧ 1 ≤ o.what ∧ o.what ≤ 4 ∧ (o.what < 3 → 1 ≤ o.item ∧ o.item ≤ 6) ∧ (3 ≤ o.what → o.item = 0))) : rightB o = false := by
  cases hr : rightB o
  · rfl
  · exact absurd (rightB_get hr) h

/-- A contract of one round's op: what is known of it, by cases. -/
theorem badCases (o : HOp) : (rightB o = true ∧ 1 ≤ o.tx ∧ o.tx ≤ 6 ∧ txB o.tx = true ∧ 1 ≤ o.what ∧ o.what ≤ 4 ∧ ((o.what < 3 ∧ 1 ≤ o.item ∧ o.item ≤ 6) ∨ (3 ≤ o.what ∧ o.item = 0))) ∨
    (rightB o = false ∧ (txB o.tx = false ∨ (txB o.tx = true ∧ (o.what < 1 ∨ 4 < o.what ∨ (1 ≤ o.what ∧ o.what < 3 ∧ (o.item < 1 ∨ 6 < o.item)) ∨ (3 ≤ o.what ∧ o.what ≤ 4 ∧ o.item ≠ 0))))) := by
  cases hr : rightB o
  · right
    refine ⟨rfl, ?_⟩
    cases hT : txB o.tx
    · exact .inl rfl
    · right
      refine ⟨rfl, ?_⟩
      have hT' : 1 ≤ o.tx ∧ o.tx ≤ 6 := by simpa [txB] using hT
      by_cases h : 1 ≤ o.tx ∧ o.tx ≤ 6 ∧ 1 ≤ o.what ∧ o.what ≤ 4 ∧ (o.what < 3 → 1 ≤ o.item ∧ o.item ≤ 6) ∧ (3 ≤ o.what → o.item = 0)
      · rw [rightB_mk h] at hr; cases hr
      · omega
  · left
    obtain ⟨h1, h2, h3, h4, h5, h6⟩ := rightB_get hr
    exact ⟨rfl, h1, h2, by simp [txB]; omega, h3, h4, by omega⟩

def checkZ (h : List HOp) : Nat × Int := checkGo (List.replicate 7 false) 0 h
set_option maxRecDepth 100000 in
set_option maxHeartbeats 4000000 in
theorem rhistory_any (A : Option Addr) (n cap : Nat) (h : List HOp) (w : World) (hr : Rd w w.heap.size 3 A n (cellsH h)) (hm : n ≤ 6000000000000) :
    Calls Tryd.prog 38 #[.slice A n cap] w fun e w' => e = .returned (.tuple #[.int .i64 (checkF h).1, .int .i64 (checkF h).2]) ∧ Below w.heap.size w w' := by
  have hl := hr.hlen
  have HL := Lib.hid hl
  by_cases hn : 40 < n
  · have hr : checkF h = (0, 4) := by rw [checkF, hl, if_pos hn]
    rw [hr]
    clear hl
    go_enter Tryd.func38, Tryd.ntmps38
    go_wp2
    go_ret2
    exact ⟨rfl, Below.refl _ _⟩
  · have hs : checkF h = checkZ h := by rw [checkF, hl, if_neg hn]; rfl
    rw [hs]
    clear hl hs
    go_enter Tryd.func38, Tryd.ntmps38
    go_wp2
    go_loopw [4] (fun i wr => ∃ (k : Nat), k ≤ n ∧ i = .int .i64 k ∧ Hid (∃ es, EsOk es (h.take k) ∧ checkZ h = checkGo es k (h.drop k)) ∧ Below w.heap.size w wr)
      (fun i _ => n - (intOf i).toNat)
    case atStart => exact ⟨0, Nat.zero_le _, rfl, ⟨_, EsOk.nil, rfl⟩, Below.refl _ _⟩
    case round =>
      obtain ⟨k, hk, rfl, HE, hbw⟩ := hrel
      by_cases hlt : k < n
      · obtain ⟨b, off, o, he, hb, ho, c0, c1, c2⟩ := (hr.below hbw).op (k := k) (by omega)
        cases he
        have HO : Hid (h.drop k = o :: h.drop (k + 1)) := drop_at ho
        have HT : Hid (h.take (k + 1) = h.take k ++ [o]) := Lib.hid (by rw [List.take_add_one, ho]; rfl)
        clear ho
        have hbz := hbw.size
        have hca := badCases o
        have HE1 : Hid (∃ es, EsOk es (h.take k) ∧ checkZ h = if rightB o = false then (k, 1) else if endIn o.tx (h.take k) = true then (k, 6) else checkGo (es.set o.tx.toNat (endsB o)) (k + 1) (h.drop (k + 1))) := by
          obtain ⟨es, he, hq⟩ := HE.out
          exact ⟨es, he, by rw [hq, HO.out, checkGo_at he]⟩
        have hbwa : Below w.heap.size w (wr.alloc (.cells #[.int .i64 o.tx, .int .i64 o.what, .int .i64 o.item] 27)) := hbw.alloc hbz _
        rcases hca with ⟨hR, t1, t2, hT, w1, w2, hci⟩ | ⟨hR, hci⟩
        · have HE2 : Hid ((endIn o.tx (h.take k) = true → checkZ h = (k, 6)) ∧ (endIn o.tx (h.take k) = false → ∃ es, EsOk es (h.take (k + 1)) ∧ checkZ h = checkGo es (k + 1) (h.drop (k + 1)))) := by
            obtain ⟨es, he, hq⟩ := HE1.out
            rw [hR, if_neg (by simp)] at hq
            refine ⟨fun h1 => by rw [hq, if_pos h1], fun h1 => ⟨es.set o.tx.toNat (endsB o), ?_, by rw [hq, if_neg (by simp [h1])]⟩⟩
            rw [HT.out]
            exact he.snoc hR h1
          obtain ⟨tx, what, item⟩ := o
          simp only at t1 t2 hT w1 w2 hci
          clear hR HE1 HE HO HT
          have HTX := hide hT
          clear hT
          obtain ⟨wo, rfl⟩ : ∃ wo : World, wo = wr := ⟨_, rfl⟩
          have n1 : ¬ what < 1 := by omega
          have n2 : ¬ 4 < what := by omega
          have hB0 := Blk.new wo 27 [.int .i64 tx, .int .i64 what, .int .i64 item]
          have hzo : w.heap.size < (wo.alloc (.cells #[.int .i64 tx, .int .i64 what, .int .i64 item] 27)).heap.size := by simp; omega
          have HIN0 : Hid (endIn tx (h.take k) = endIn tx ((h.take k).drop 0)) := Lib.hid (by rw [List.drop_zero])
          have HLK : Hid ((h.take k).length = k) := Lib.hid (by rw [List.length_take, HL.out]; omega)
          rcases hci with ⟨g1, g2, g3⟩ | ⟨g1, g2⟩
          · have m1 : ¬ 3 ≤ what := by omega
            have m2 : ¬ item < 1 := by omega
            have m3 : ¬ 6 < item := by omega
            go_wp2_with (go_at_call 25; refine (rtx_any _ _).mono ?_; rintro e w' ⟨rfl, rfl⟩; rw [unhide HTX])
            go_loopw [7] (fun s7 wx => ∃ j : Nat, j ≤ k ∧ s7 = .int .i64 j ∧ Hid (endIn tx (h.take k) = endIn tx ((h.take k).drop j)) ∧ Blk wx wo.heap.size 27 [.int .i64 tx, .int .i64 what, .int .i64 item] ∧ Below w.heap.size w wx) (fun s7 _ => k - (intOf s7).toNat)
            case atStart => exact ⟨0, Nat.zero_le _, rfl, HIN0, hB0, hbwa⟩
            case round =>
              clear hB0 HIN0
              obtain ⟨j, hj, rfl, HI, hBx, hbx⟩ := hrel
              by_cases hjk : j < k
              · obtain ⟨b2, off2, o2, he, hb2, ho2, d0, d1, d2⟩ := (hr.below hbx).op (k := j) (by omega)
                cases he
                have HO2 : Hid ((h.take k).drop j = o2 :: (h.take k).drop (j + 1)) := drop_at (by rw [List.getElem?_take, if_pos hjk]; exact ho2)
                clear ho2
                obtain ⟨x0, x1, x2⟩ : _ ∧ _ ∧ _ := ⟨hBx.cellS (i := 0) (v := .int .i64 tx) rfl, hBx.cellS (i := 1) (v := .int .i64 what) rfl, hBx.cellS (i := 2) (v := .int .i64 item) rfl⟩
                obtain ⟨p1, p2, p3⟩ := o2
                by_cases q1 : p1 = tx
                · subst q1
                  by_cases q2 : 3 ≤ p2
                  · have HF : Hid (checkZ h = (k, 6)) := Lib.hid (HE2.out.1 (by rw [HI.out, HO2.out]; simp [endIn, q2]))
                    go_wp2
                    go_quiet (fail)
                    go_wp2
                    go_ret2
                    exact ⟨by rw [HF.out]; rfl, below_drewN hbx _⟩
                  · have HI2 : Hid (endIn p1 (h.take k) = endIn p1 ((h.take k).drop (j + 1))) := Lib.hid (by rw [HI.out, HO2.out]; simp [endIn, q2])
                    have q2b : decide (3 ≤ p2) = false := decide_eq_false q2
                    go_wp2
                    go_quiet (fail)
                    go_wp2
                    go_roundw
                    case rel => exact ⟨j + 1, by omega, by go_num, HI2, hBx, below_drewN hbx _⟩
                    case measure => simp [intOf]; omega
                · have HI2 : Hid (endIn tx (h.take k) = endIn tx ((h.take k).drop (j + 1))) := Lib.hid (by rw [HI.out, HO2.out]; simp [endIn, q1])
                  have q1b : (p1 == tx) = false := by simpa using q1
                  go_wp2
                  go_quiet (fail)
                  go_wp2
                  go_roundw
                  case rel => exact ⟨j + 1, by omega, by go_num, HI2, hBx, below_drewN hbx _⟩
                  case measure => simp [intOf]; omega
              · have HF : Hid (∃ es, EsOk es (h.take (k + 1)) ∧ checkZ h = checkGo es (k + 1) (h.drop (k + 1))) := Lib.hid (HE2.out.2 (by rw [HI.out, drop_end (by rw [HLK.out]; omega)]; rfl))
                go_wp2
                go_roundw
                case rel => exact ⟨k + 1, by omega, by go_num, HF, hbx⟩
                case measure => simp [intOf]; omega
          · have m1 : ¬ what < 3 := by omega
            subst g2
            go_wp2_with (go_at_call 25; refine (rtx_any _ _).mono ?_; rintro e w' ⟨rfl, rfl⟩; rw [unhide HTX])
            go_loopw [7] (fun s7 wx => ∃ j : Nat, j ≤ k ∧ s7 = .int .i64 j ∧ Hid (endIn tx (h.take k) = endIn tx ((h.take k).drop j)) ∧ Blk wx wo.heap.size 27 [.int .i64 tx, .int .i64 what, .int .i64 0] ∧ Below w.heap.size w wx) (fun s7 _ => k - (intOf s7).toNat)
            case atStart => exact ⟨0, Nat.zero_le _, rfl, HIN0, hB0, hbwa⟩
            case round =>
              clear hB0 HIN0
              obtain ⟨j, hj, rfl, HI, hBx, hbx⟩ := hrel
              by_cases hjk : j < k
              · obtain ⟨b2, off2, o2, he, hb2, ho2, d0, d1, d2⟩ := (hr.below hbx).op (k := j) (by omega)
                cases he
                have HO2 : Hid ((h.take k).drop j = o2 :: (h.take k).drop (j + 1)) := drop_at (by rw [List.getElem?_take, if_pos hjk]; exact ho2)
                clear ho2
                obtain ⟨x0, x1, x2⟩ : _ ∧ _ ∧ _ := ⟨hBx.cellS (i := 0) (v := .int .i64 tx) rfl, hBx.cellS (i := 1) (v := .int .i64 what) rfl, hBx.cellS (i := 2) (v := .int .i64 0) rfl⟩
                obtain ⟨p1, p2, p3⟩ := o2
                by_cases q1 : p1 = tx
                · subst q1
                  by_cases q2 : 3 ≤ p2
                  · have HF : Hid (checkZ h = (k, 6)) := Lib.hid (HE2.out.1 (by rw [HI.out, HO2.out]; simp [endIn, q2]))
                    go_wp2
                    go_quiet (fail)
                    go_wp2
                    go_ret2
                    exact ⟨by rw [HF.out]; rfl, below_drewN hbx _⟩
                  · have HI2 : Hid (endIn p1 (h.take k) = endIn p1 ((h.take k).drop (j + 1))) := Lib.hid (by rw [HI.out, HO2.out]; simp [endIn, q2])
                    have q2b : decide (3 ≤ p2) = false := decide_eq_false q2
                    go_wp2
                    go_quiet (fail)
                    go_wp2
                    go_roundw
                    case rel => exact ⟨j + 1, by omega, by go_num, HI2, hBx, below_drewN hbx _⟩
                    case measure => simp [intOf]; omega
                · have HI2 : Hid (endIn tx (h.take k) = endIn tx ((h.take k).drop (j + 1))) := Lib.hid (by rw [HI.out, HO2.out]; simp [endIn, q1])
                  have q1b : (p1 == tx) = false := by simpa using q1
                  go_wp2
                  go_quiet (fail)
                  go_wp2
                  go_roundw
                  case rel => exact ⟨j + 1, by omega, by go_num, HI2, hBx, below_drewN hbx _⟩
                  case measure => simp [intOf]; omega
              · have HF : Hid (∃ es, EsOk es (h.take (k + 1)) ∧ checkZ h = checkGo es (k + 1) (h.drop (k + 1))) := Lib.hid (HE2.out.2 (by rw [HI.out, drop_end (by rw [HLK.out]; omega)]; rfl))
                go_wp2
                go_roundw
                case rel => exact ⟨k + 1, by omega, by go_num, HF, hbx⟩
                case measure => simp [intOf]; omega
        · have HF : Hid (checkZ h = (k, 1)) := by
            obtain ⟨es, he, hq⟩ := HE1.out
            rw [hR, if_pos rfl] at hq
            exact hq
          obtain ⟨tx, what, item⟩ := o
          simp only at hci
          clear hR HE1 HE HO HT
          rcases hci with hT | ⟨hT, hw | hw | ⟨g1, g2, hw | hw⟩ | ⟨g1, g2, hw⟩⟩
          · go_wp2_with (go_at_call 25; refine (rtx_any _ _).mono ?_; rintro e w' ⟨rfl, rfl⟩; rw [hT])
            go_ret2
            exact ⟨by rw [HF.out]; rfl, hbwa⟩
          · go_wp2_with (go_at_call 25; refine (rtx_any _ _).mono ?_; rintro e w' ⟨rfl, rfl⟩; rw [hT])
            go_ret2
            exact ⟨by rw [HF.out]; rfl, hbwa⟩
          · have n1 : ¬ what < 1 := by omega
            go_wp2_with (go_at_call 25; refine (rtx_any _ _).mono ?_; rintro e w' ⟨rfl, rfl⟩; rw [hT])
            go_ret2
            exact ⟨by rw [HF.out]; rfl, hbwa⟩
          · have n1 : ¬ what < 1 := by omega
            have n2 : ¬ 4 < what := by omega
            have m1 : ¬ 3 ≤ what := by omega
            go_wp2_with (go_at_call 25; refine (rtx_any _ _).mono ?_; rintro e w' ⟨rfl, rfl⟩; rw [hT])
            go_ret2
            exact ⟨by rw [HF.out]; rfl, hbwa⟩
          · have n1 : ¬ what < 1 := by omega
            have n2 : ¬ 4 < what := by omega
            have m1 : ¬ 3 ≤ what := by omega
            have m2 : ¬ item < 1 := by omega
            go_wp2_with (go_at_call 25; refine (rtx_any _ _).mono ?_; rintro e w' ⟨rfl, rfl⟩; rw [hT])
            go_ret2
            exact ⟨by rw [HF.out]; rfl, hbwa⟩
          · have n1 : ¬ what < 1 := by omega
            have n2 : ¬ 4 < what := by omega
            have hw2 : (item != 0) = true := by simpa using hw
            go_wp2_with (go_at_call 25; refine (rtx_any _ _).mono ?_; rintro e w' ⟨rfl, rfl⟩; rw [hT])
            go_ret2
            exact ⟨by rw [HF.out]; rfl, hbwa⟩
      · have HF : Hid (checkZ h = (0, 0)) := Lib.hid (by
          obtain ⟨es, _, hq⟩ := HE.out
          rw [hq, drop_end (by rw [HL.out]; omega)]; rfl)
        go_wp2
        go_ret2
        exact ⟨by rw [HF.out]; rfl, hbw⟩

set_option maxHeartbeats 400000 in
theorem rright_any (A : Option Addr) (n cap : Nat) (h : List HOp) (w : World) (hr : Rd w w.heap.size 3 A n (cellsH h)) (hm : n ≤ 6000000000000) :
    Calls Tryd.prog 6 #[.slice A n cap] w fun e w' => e = .returned (.int .i64 (checkF h).2) ∧ Below w.heap.size w w' := by
  have C := rhistory_any A n cap h w hr hm
  generalize (checkF h).2 = ev at *
  generalize (checkF h).1 = iv at *
  go_enter Tryd.func6, Tryd.ntmps6
  go_wp2_with (go_at_call 38; refine (C).mono ?_; rintro e w1 ⟨rfl, hb1⟩)
  go_ret
  exact ⟨rfl, hb1⟩
end Go.Proofs.YtecfgepomcnenaaDoor

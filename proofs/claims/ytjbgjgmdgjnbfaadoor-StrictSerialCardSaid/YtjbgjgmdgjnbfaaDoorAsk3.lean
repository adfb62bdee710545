
/-
  CONTRACT of locks.Ask where the lock can be held; where it waits.
-/
import Derived.Test.YtjbgjgmdgjnbfaaDoorAsk2
import Derived.Deep.DeepCutAuto

namespace Go.Proofs.YtjbgjgmdgjnbfaaDoor
open Go.RowKit

/-- What Ask carries: the table, its own copy of the lock. -/
structure ASt (w : World) (lo g : Nat) (A1 A2 : Option Addr) (c1 c2 : Nat) (H W : List HOp) (l1 l2 l3 : Int) (wx : World) : Prop where
  tab : Tab wx lo g (.slice A1 H.length c1) (.slice A2 W.length c2) H W
  box : Blk wx w.heap.size 60 [.int .i64 l1, .int .i64 l2, .int .i64 l3]
  bel : Below w.heap.size w wx
section
variable {w wx wy : World} {lo g : Nat} {A1 A2 : Option Addr} {c1 c2 : Nat} {H W : List HOp} {l1 l2 l3 : Int}
theorem ASt.below (h : ASt w lo g A1 A2 c1 c2 H W l1 l2 l3 wx) (hb : Below wx.heap.size wx wy) : ASt w lo g A1 A2 c1 c2 H W l1 l2 l3 wy := ⟨h.tab.below hb, h.box.below hb h.box.lt, h.bel.trans (hb.mono h.bel.size)⟩
theorem ASt.drew (h : ASt w lo g A1 A2 c1 c2 H W l1 l2 l3 wx) : ASt w lo g A1 A2 c1 c2 H W l1 l2 l3 wx.drew := h.below ((Below.refl _ _).drew)
theorem ASt.cells (h : ASt w lo g A1 A2 c1 c2 H W l1 l2 l3 wx) : wx.cell? ⟨g, 0, none⟩ = some (.slice A1 H.length c1) ∧ wx.cell? ⟨g, 1, none⟩ = some (.slice A2 W.length c2) ∧ wx.cell? ⟨w.heap.size, 0, none⟩ = some (.int .i64 l1) ∧ wx.cell? ⟨w.heap.size, 1, none⟩ = some (.int .i64 l2) ∧ wx.cell? ⟨w.heap.size, 2, none⟩ = some (.int .i64 l3) :=
  ⟨h.tab.blk.cellS rfl, h.tab.blk.cellS rfl, h.box.cellS rfl, h.box.cellS rfl, h.box.cellS rfl⟩
end

/-- What Ask leaves where the lock is held by it. -/
def AskHeld (w : World) (lo g : Nat) (v1 v2 : Value) (H W : List HOp) (l : HOp) (e : Ending) (w' : World) : Prop :=
  ∃ v1', e = .returned (.tuple #[.bool true, .nilIface]) ∧ Tab w' lo g v1' v2 (holdL H l) W ∧ Chg (fun k => k = g ∨ v1.ownBlock = some k) w w' ∧ (v1'.ownBlock = v1.ownBlock ∨ ∃ k, v1'.ownBlock = some k ∧ w.heap.size ≤ k)

set_option maxRecDepth 100000 in
set_option maxHeartbeats 4000000 in
theorem ask_hold (lo g : Nat) (v1 v2 : Value) (H W : List HOp) (l : HOp) (w : World) (T : Tab w lo g v1 v2 H W) (hh : H.length ≤ 1000000) (hw : W.length ≤ 1000000) (hR : lrightB l = true) (hC : idxGo (fun y => decide (y.tx = l.tx)) 0 W < 0) (hlo : lo ≤ w.heap.size) (hnot : ∀ (i : Nat) o, idxGo (ofP l.tx l.what) 0 H = i → H[i]? = some o → o.item < l.item) (hF1 : freeB H l = true) (hF2 : freeB W l = true) :
    Calls Tryd.prog 17 #[.pointer (some ⟨g, 0, none⟩), l.val] w (AskHeld w lo g v1 v2 H W l) := by
  obtain ⟨A1, c1, rfl⟩ := own_slice T.held
  obtain ⟨A2, c2, rfl⟩ := own_slice T.waits
  obtain ⟨l1, l2, l3⟩ := l
  have hb0 : Below w.heap.size w (w.alloc (.cells #[.int .i64 l1, .int .i64 l2, .int .i64 l3] 60)) := (Below.refl _ _).alloc (Nat.le_refl _) _
  have CR := hide (fun w1 => lright_any ⟨l1, l2, l3⟩ w1)
  have CW := hide (fun w1 (hb : Below w.heap.size w w1) => waiting_any lo g (.slice A1 H.length c1) (.slice A2 W.length c2) H W l1 w1 (T.below hb) hw)
  have hrH := rd_own T.held
  have hrW := rd_own T.waits
  have CF := hide (fun w1 (hb : Below w.heap.size w w1) => lof_any A1 H.length c1 H l1 l2 w1 ((hrH.below hb).more hb.size) (by omega))
  simp only at hC
  generalize idxGo (fun y => decide (y.tx = l1)) 0 W = iw at *
  unfold HOp.val at CR ⊢
  go_enter Tryd.func17, Tryd.ntmps17
  go_wp2_with fail
  refine (unhide CR _).mono ?_
  rintro e w1 ⟨rfl, hb1⟩
  rw [hR]
  have hbw := hb0.trans (hb1.mono hb0.size)
  have hB1 := lbox (by simpa using hb1)
  have m0 := hB1.cellS (i := 0) (v := .int .i64 l1) rfl
  clear hb1 hb0
  go_wp2_with fail
  refine (unhide CW _ hbw).mono ?_
  rintro e w2 ⟨rfl, hb2⟩
  have hbw2 := hbw.trans (hb2.mono hbw.size)
  have hB2 := hB1.below hb2 hB1.lt
  have hT2 := T.below hbw2
  clear m0 hbw hB1 hb2 CW CR
  have k0 := hT2.blk.cellS (i := 0) (v := .slice A1 H.length c1) rfl
  have k1 := hT2.blk.cellS (i := 1) (v := .slice A2 W.length c2) rfl
  obtain ⟨m0, m1, m2⟩ := ocells' hB2
  go_wp2_with fail
  go_region_held3 (fun w' => w'.cell? ⟨g, 0, none⟩ = some (.slice A1 H.length c1) ∧ w'.cell? ⟨w.heap.size, 0, none⟩ = some (.int .i64 l1) ∧ w'.cell? ⟨w.heap.size, 1, none⟩ = some (.int .i64 l2)) (first | exact ⟨k0, m0, m1⟩ | exact hcell6 | go_keep)
    (first
      | (go_at_call 25; refine (unhide CF _ (by first | exact hbw2 | exact hbw2.drew)).mono ?_; rintro e w3 ⟨rfl, hb3⟩; have hcell6 : w3.cell? ⟨g, 0, none⟩ = some (.slice A1 H.length c1) ∧ w3.cell? ⟨w.heap.size, 0, none⟩ = some (.int .i64 l1) ∧ w3.cell? ⟨w.heap.size, 1, none⟩ = some (.int .i64 l2) := ⟨(hb3.cell (p := ⟨g, 0, none⟩) hT2.blk.lt).trans k0, (hb3.cell (p := ⟨w.heap.size, 0, none⟩) hB2.lt).trans m0, (hb3.cell (p := ⟨w.heap.size, 1, none⟩) hB2.lt).trans m1⟩))
  have hbd : Below w2.heap.size w2 w3 := ((Below.refl w2.heap.size w2).drew).trans hb3
  have hbw3 := hbw2.trans (hbd.mono hbw2.size)
  have hT3 := hT2.below hbd
  have hB3 := hB2.below hbd hB2.lt
  clear hcell6 hb3 hbd hT2 hB2 k0 k1 m0 m1 m2 CF hbw2
  have k0 := hT3.blk.cellS (i := 0) (v := .slice A1 H.length c1) rfl
  have k1 := hT3.blk.cellS (i := 1) (v := .slice A2 W.length c2) rfl
  obtain ⟨m0, m1, m2⟩ := ocells' hB3
  go_upto_region 6 with fail
  go_cut [42] (fun s42 wx => s42 = .bool false ∧ ASt w lo g A1 A2 c1 c2 H W l1 l2 l3 wx)
  case first =>
    rcases idx_find (ofP l1 l2) H with ⟨_, f2⟩ | ⟨i, _, hi, f2⟩
    · clear hnot
      go_wp2
      go_quiet (fail)
      go_wp2
      go_meet
      case rel => exact ⟨by first | rfl | exact congrArg Value.bool (decide_eq_false (by omega)), ASt.below ⟨hT3, hB3, hbw3⟩ (below_drewN (Below.refl _ _) _)⟩
    · obtain ⟨g1, off1, o, hA1, hg1, ho, c0, c1', c2'⟩ := (rd_own hT3.held).op (k := i) hi
      cases hA1
      obtain ⟨o1, o2, o3⟩ := o
      have hmode' : o3 < l3 := hnot i _ f2 ho
      simp only at c0 c1' c2'
      clear hnot ho
      go_wp2
      go_quiet (fail)
      go_wp2
      go_meet
      case rel => exact ⟨by first | rfl | exact congrArg Value.bool (decide_eq_false (by omega)), ASt.below ⟨hT3, hB3, hbw3⟩ (below_drewN (Below.refl _ _) _)⟩
  case rest =>
    obtain ⟨rfl, hS4⟩ := hcut
    clear hnot hT3 hB3 k0 k1 m0 m1 m2 hbw3
    have hc4 := hS4.cells
    have hc4d := hS4.drew.cells
    have CH := hide (fun w1 (hb : Below w.heap.size w w1) => lfree_any A1 H.length c1 H ⟨l1, l2, l3⟩ w1 ((hrH.below hb).more hb.size) (by omega))
    have CWf := hide (fun w1 (hb : Below w.heap.size w w1) => lfree_any A2 W.length c2 W ⟨l1, l2, l3⟩ w1 ((hrW.below hb).more hb.size) (by omega))
    unfold HOp.val at CH CWf
    go_wp2_with fail
    go_region_held3 (fun w' => w'.cell? ⟨g, 0, none⟩ = some (.slice A1 H.length c1) ∧ w'.cell? ⟨g, 1, none⟩ = some (.slice A2 W.length c2) ∧ w'.cell? ⟨w.heap.size, 0, none⟩ = some (.int .i64 l1) ∧ w'.cell? ⟨w.heap.size, 1, none⟩ = some (.int .i64 l2) ∧ w'.cell? ⟨w.heap.size, 2, none⟩ = some (.int .i64 l3)) (first | exact hc4 | exact hc4d | exact hc5 | exact hc6 | go_keep)
      (first
        | (go_at_call 26; refine (unhide CH _ hS4.drew.bel).mono ?_; rintro e w5 ⟨rfl, hb5⟩; try rw [hF1]; have hS5 := hS4.drew.below hb5; have hc5 := hS5.cells)
        | (go_at_call 26; refine (unhide CWf _ hS5.bel).mono ?_; rintro e w6 ⟨rfl, hb6⟩; try rw [hF2]; have hS6 := hS5.below hb6; have hc6 := hS6.cells))
    have hlo6 : lo ≤ w6.heap.size := Nat.le_trans hlo hS6.bel.size
    have CHo := hide (hold_any lo g (.slice A1 H.length c1) (.slice A2 W.length c2) H W ⟨l1, l2, l3⟩ w6 hS6.tab hh hlo6)
    unfold HOp.val at CHo
    have hchg := Chg.of_below (S := fun k => k = g ∨ (Value.slice A1 H.length c1).ownBlock = some k) hS6.bel
    have hsz := hS6.bel.size
    obtain ⟨_, _, q0, q1, q2⟩ := hc6
    clear hc4 hc4d hc5 hS4 hS5 CH CWf
    go_wp2_with fail
    refine (unhide CHo).mono ?_
    rintro e w7 ⟨v, v1', rfl, hT7, hc7, hn7⟩
    go_wp2
    go_ret2
    exact ⟨v1', rfl, hT7, hchg.trans (hc7.mono fun k hk => .inl hk), hn7.imp id fun ⟨k, h1, h2⟩ => ⟨k, h1, Nat.le_trans hsz h2⟩⟩
end Go.Proofs.YtjbgjgmdgjnbfaaDoor


/-
  CONTRACT of locks.Ask, outcome by outcome.
  CONTRACT of locks.Ask where the lock is held already; where it can be held; where it waits.
  CONTRACT of locks.Ask where the lock can be held; where it waits.
  CONTRACT of locks.Ask where it waits.
-/
import Derived.Test.YtbccnafdfeempaaGreatDoorQ2
import Derived.Deep.QuietTactic
import Derived.BigQuiet
import Derived.Deep.DeepCutAuto

namespace Go.Proofs.YtbccnafdfeempaaGreatDoor
open Go.RowKit

theorem lbox {w w1 : World} {l1 l2 l3 : Int} (hb : Below (w.heap.size + 1) (w.alloc (.cells #[.int .i64 l1, .int .i64 l2, .int .i64 l3] 67)) w1) : Blk w1 w.heap.size 67 [.int .i64 l1, .int .i64 l2, .int .i64 l3] :=
  (Blk.new w 67 [.int .i64 l1, .int .i64 l2, .int .i64 l3]).below hb (by omega)

set_option maxRecDepth 100000 in
set_option maxHeartbeats 1000000 in
theorem ask_range (lo g : Nat) (v1 v2 : Value) (H W : List HOp) (l : HOp) (w : World) (T : Tab w lo g v1 v2 H W) (hw : W.length ≤ 1000000) (hR : lrightB l = false) :
    Calls Tryz.prog 25 #[.pointer (some ⟨g, 0, none⟩), l.val] w fun e w' => e = .returned (.tuple #[.bool false, .iface 50 (.int .i64 1)]) ∧ Below w.heap.size w w' := by
  obtain ⟨A1, c1, rfl⟩ := own_slice T.held
  obtain ⟨A2, c2, rfl⟩ := own_slice T.waits
  obtain ⟨l1, l2, l3⟩ := l
  have hb0 : Below w.heap.size w (w.alloc (.cells #[.int .i64 l1, .int .i64 l2, .int .i64 l3] 67)) := (Below.refl _ _).alloc (Nat.le_refl _) _
  have hB0 := Blk.new w 67 [.int .i64 l1, .int .i64 l2, .int .i64 l3]
  have CR := hide (fun w1 => lright_any ⟨l1, l2, l3⟩ w1)
  have CW := hide (fun w1 (hb : Below w.heap.size w w1) => waiting_any lo g (.slice A1 H.length c1) (.slice A2 W.length c2) H W l1 w1 (T.below hb) hw)
  unfold HOp.val at CR ⊢
  go_enter Tryz.func25, Tryz.ntmps25
  go_wp2_with fail
  refine (unhide CR _).mono ?_
  rintro e w1 ⟨rfl, hb1⟩
  rw [hR]
  have hbw := hb0.trans (hb1.mono hb0.size)
  clear hb1
  go_wp2
  go_ret2
  exact ⟨rfl, hbw⟩

set_option maxRecDepth 100000 in
set_option maxHeartbeats 1000000 in
theorem ask_clash (lo g : Nat) (v1 v2 : Value) (H W : List HOp) (l : HOp) (w : World) (T : Tab w lo g v1 v2 H W) (hw : W.length ≤ 1000000) (hR : lrightB l = true) (hC : 0 ≤ idxGo (fun y => decide (y.tx = l.tx)) 0 W) :
    Calls Tryz.prog 25 #[.pointer (some ⟨g, 0, none⟩), l.val] w fun e w' => e = .returned (.tuple #[.bool false, .iface 50 (.int .i64 7)]) ∧ Below w.heap.size w w' := by
  obtain ⟨A1, c1, rfl⟩ := own_slice T.held
  obtain ⟨A2, c2, rfl⟩ := own_slice T.waits
  obtain ⟨l1, l2, l3⟩ := l
  have hb0 : Below w.heap.size w (w.alloc (.cells #[.int .i64 l1, .int .i64 l2, .int .i64 l3] 67)) := (Below.refl _ _).alloc (Nat.le_refl _) _
  have hB0 := Blk.new w 67 [.int .i64 l1, .int .i64 l2, .int .i64 l3]
  have CR := hide (fun w1 => lright_any ⟨l1, l2, l3⟩ w1)
  have CW := hide (fun w1 (hb : Below w.heap.size w w1) => waiting_any lo g (.slice A1 H.length c1) (.slice A2 W.length c2) H W l1 w1 (T.below hb) hw)
  simp only at hC
  generalize idxGo (fun y => decide (y.tx = l1)) 0 W = iw at *
  unfold HOp.val at CR ⊢
  go_enter Tryz.func25, Tryz.ntmps25
  go_wp2_with fail
  refine (unhide CR _).mono ?_
  rintro e w1 ⟨rfl, hb1⟩
  rw [hR]
  have hbw := hb0.trans (hb1.mono hb0.size)
  have hB1 := lbox (by simpa using hb1)
  have m0 := hB1.cellS (i := 0) (v := .int .i64 l1) rfl
  clear hb1
  go_wp2_with fail
  refine (unhide CW _ hbw).mono ?_
  rintro e w2 ⟨rfl, hb2⟩
  have hbw2 := hbw.trans (hb2.mono hbw.size)
  go_wp2
  go_ret2
  exact ⟨rfl, hbw2⟩
end Go.Proofs.YtbccnafdfeempaaGreatDoor


namespace Go.Proofs.YtbccnafdfeempaaGreatDoor
open Go.RowKit

set_option maxRecDepth 100000 in
set_option maxHeartbeats 4000000 in
theorem ask_has (lo g : Nat) (v1 v2 : Value) (H W : List HOp) (l : HOp) (w : World) (T : Tab w lo g v1 v2 H W) (hh : H.length ≤ 1000000) (hw : W.length ≤ 1000000) (hR : lrightB l = true) (hC : idxGo (fun y => decide (y.tx = l.tx)) 0 W < 0) (i : Nat) (hi : i < H.length) (hidx : idxGo (ofP l.tx l.what) 0 H = i) (hmode : ∀ o, H[i]? = some o → l.item ≤ o.item) :
    Calls Tryz.prog 25 #[.pointer (some ⟨g, 0, none⟩), l.val] w fun e w' => e = .returned (.tuple #[.bool true, .nilIface]) ∧ Below w.heap.size w w' := by
  obtain ⟨A1, c1, rfl⟩ := own_slice T.held
  obtain ⟨A2, c2, rfl⟩ := own_slice T.waits
  obtain ⟨l1, l2, l3⟩ := l
  have hb0 : Below w.heap.size w (w.alloc (.cells #[.int .i64 l1, .int .i64 l2, .int .i64 l3] 67)) := (Below.refl _ _).alloc (Nat.le_refl _) _
  have CR := hide (fun w1 => lright_any ⟨l1, l2, l3⟩ w1)
  have CW := hide (fun w1 (hb : Below w.heap.size w w1) => waiting_any lo g (.slice A1 H.length c1) (.slice A2 W.length c2) H W l1 w1 (T.below hb) hw)
  have hrH := rd_own T.held
  have hrW := rd_own T.waits
  have CF := hide (fun w1 (hb : Below w.heap.size w w1) => lof_any A1 H.length c1 H l1 l2 w1 ((hrH.below hb).more hb.size) (by omega))
  simp only at hC
  generalize idxGo (fun y => decide (y.tx = l1)) 0 W = iw at *
  unfold HOp.val at CR ⊢
  go_enter Tryz.func25, Tryz.ntmps25
  go_wp2_with fail
  refine (unhide CR _).mono ?_
  rintro e w1 ⟨rfl, hb1⟩
  rw [hR]
  have hbw := hb0.trans (hb1.mono hb0.size)
  have hB1 := lbox (by simpa using hb1)
  have m0 := hB1.cellS (i := 0) (v := .int .i64 l1) rfl
  clear hb1 hb0
  go_wp2_with fail
  refine (unhide CW _ hbw).mono ?_
  rintro e w2 ⟨rfl, hb2⟩
  have hbw2 := hbw.trans (hb2.mono hbw.size)
  have hB2 := hB1.below hb2 hB1.lt
  have hT2 := T.below hbw2
  clear m0 hbw hB1 hb2 CW CR
  have k0 := hT2.blk.cellS (i := 0) (v := .slice A1 H.length c1) rfl
  have k1 := hT2.blk.cellS (i := 1) (v := .slice A2 W.length c2) rfl
  obtain ⟨m0, m1, m2⟩ := ocells' hB2
  go_wp2_with fail
  go_region_held3 (fun w' => w'.cell? ⟨g, 0, none⟩ = some (.slice A1 H.length c1) ∧ w'.cell? ⟨w.heap.size, 0, none⟩ = some (.int .i64 l1) ∧ w'.cell? ⟨w.heap.size, 1, none⟩ = some (.int .i64 l2)) (first | exact ⟨k0, m0, m1⟩ | exact hcell6 | go_keep)
    (first
      | (go_at_call 40; refine (unhide CF _ (by first | exact hbw2 | exact hbw2.drew)).mono ?_; rintro e w3 ⟨rfl, hb3⟩; have hcell6 : w3.cell? ⟨g, 0, none⟩ = some (.slice A1 H.length c1) ∧ w3.cell? ⟨w.heap.size, 0, none⟩ = some (.int .i64 l1) ∧ w3.cell? ⟨w.heap.size, 1, none⟩ = some (.int .i64 l2) := ⟨(hb3.cell (p := ⟨g, 0, none⟩) hT2.blk.lt).trans k0, (hb3.cell (p := ⟨w.heap.size, 0, none⟩) hB2.lt).trans m0, (hb3.cell (p := ⟨w.heap.size, 1, none⟩) hB2.lt).trans m1⟩))
  have hbd : Below w2.heap.size w2 w3 := ((Below.refl w2.heap.size w2).drew).trans hb3
  have hbw3 := hbw2.trans (hbd.mono hbw2.size)
  have hT3 := hT2.below hbd
  have hB3 := hB2.below hbd hB2.lt
  clear hcell6 hb3 hbd hT2 hB2 k0 k1 m0 m1 m2 CF hbw2
  have k0 := hT3.blk.cellS (i := 0) (v := .slice A1 H.length c1) rfl
  have k1 := hT3.blk.cellS (i := 1) (v := .slice A2 W.length c2) rfl
  obtain ⟨m0, m1, m2⟩ := ocells' hB3
  obtain ⟨g1, off1, o, hA1, hg1, ho, c0, c1', c2'⟩ := (rd_own hT3.held).op (k := i) hi
  cases hA1
  obtain ⟨o1, o2, o3⟩ := o
  simp only at c0 c1' c2'
  have hmode' := hmode _ ho
  try simp only at hmode'
  clear hidx hmode ho
  go_wp2
  go_quiet (fail)
  go_wp2
  go_ret2
  exact ⟨rfl, below_drewN hbw3 _⟩
end Go.Proofs.YtbccnafdfeempaaGreatDoor


namespace Go.Proofs.YtbccnafdfeempaaGreatDoor
open Go.RowKit

/-- What Ask carries: the table, its own copy of the lock. -/
structure ASt (w : World) (lo g : Nat) (A1 A2 : Option Addr) (c1 c2 : Nat) (H W : List HOp) (l1 l2 l3 : Int) (wx : World) : Prop where
  tab : Tab wx lo g (.slice A1 H.length c1) (.slice A2 W.length c2) H W
  box : Blk wx w.heap.size 67 [.int .i64 l1, .int .i64 l2, .int .i64 l3]
  bel : Below w.heap.size w wx
section
variable {w wx wy : World} {lo g : Nat} {A1 A2 : Option Addr} {c1 c2 : Nat} {H W : List HOp} {l1 l2 l3 : Int}
theorem ASt.below (h : ASt w lo g A1 A2 c1 c2 H W l1 l2 l3 wx) (hb : Below wx.heap.size wx wy) : ASt w lo g A1 A2 c1 c2 H W l1 l2 l3 wy := ⟨h.tab.below hb, h.box.below hb h.box.lt, h.bel.trans (hb.mono h.bel.size)⟩
theorem ASt.drew (h : ASt w lo g A1 A2 c1 c2 H W l1 l2 l3 wx) : ASt w lo g A1 A2 c1 c2 H W l1 l2 l3 wx.drew := h.below ((Below.refl _ _).drew)
theorem ASt.cells (h : ASt w lo g A1 A2 c1 c2 H W l1 l2 l3 wx) : wx.cell? ⟨g, 0, none⟩ = some (.slice A1 H.length c1) ∧ wx.cell? ⟨g, 1, none⟩ = some (.slice A2 W.length c2) ∧ wx.cell? ⟨w.heap.size, 0, none⟩ = some (.int .i64 l1) ∧ wx.cell? ⟨w.heap.size, 1, none⟩ = some (.int .i64 l2) ∧ wx.cell? ⟨w.heap.size, 2, none⟩ = some (.int .i64 l3) :=
  ⟨h.tab.blk.cellS rfl, h.tab.blk.cellS rfl, h.box.cellS rfl, h.box.cellS rfl, h.box.cellS rfl⟩
end

/-- What Ask leaves where the lock is held by it. -/
def AskHeld (w : World) (lo g : Nat) (v1 v2 : Value) (H W : List HOp) (l : HOp) (e : Ending) (w' : World) : Prop :=
  ∃ v1', e = .returned (.tuple #[.bool true, .nilIface]) ∧ Tab w' lo g v1' v2 (holdL H l) W ∧ Chg (fun k => k = g ∨ v1.ownBlock = some k) w w' ∧ (v1'.ownBlock = v1.ownBlock ∨ ∃ k, v1'.ownBlock = some k ∧ w.heap.size ≤ k)

set_option maxRecDepth 100000 in
set_option maxHeartbeats 4000000 in
theorem ask_hold (lo g : Nat) (v1 v2 : Value) (H W : List HOp) (l : HOp) (w : World) (T : Tab w lo g v1 v2 H W) (hh : H.length ≤ 1000000) (hw : W.length ≤ 1000000) (hR : lrightB l = true) (hC : idxGo (fun y => decide (y.tx = l.tx)) 0 W < 0) (hlo : lo ≤ w.heap.size) (hnot : ∀ (i : Nat) o, idxGo (ofP l.tx l.what) 0 H = i → H[i]? = some o → o.item < l.item) (hF1 : freeB H l = true) (hF2 : freeB W l = true) :
    Calls Tryz.prog 25 #[.pointer (some ⟨g, 0, none⟩), l.val] w (AskHeld w lo g v1 v2 H W l) := by
  obtain ⟨A1, c1, rfl⟩ := own_slice T.held
  obtain ⟨A2, c2, rfl⟩ := own_slice T.waits
  obtain ⟨l1, l2, l3⟩ := l
  have hb0 : Below w.heap.size w (w.alloc (.cells #[.int .i64 l1, .int .i64 l2, .int .i64 l3] 67)) := (Below.refl _ _).alloc (Nat.le_refl _) _
  have CR := hide (fun w1 => lright_any ⟨l1, l2, l3⟩ w1)
  have CW := hide (fun w1 (hb : Below w.heap.size w w1) => waiting_any lo g (.slice A1 H.length c1) (.slice A2 W.length c2) H W l1 w1 (T.below hb) hw)
  have hrH := rd_own T.held
  have hrW := rd_own T.waits
  have CF := hide (fun w1 (hb : Below w.heap.size w w1) => lof_any A1 H.length c1 H l1 l2 w1 ((hrH.below hb).more hb.size) (by omega))
  simp only at hC
  generalize idxGo (fun y => decide (y.tx = l1)) 0 W = iw at *
  unfold HOp.val at CR ⊢
  go_enter Tryz.func25, Tryz.ntmps25
  go_wp2_with fail
  refine (unhide CR _).mono ?_
  rintro e w1 ⟨rfl, hb1⟩
  rw [hR]
  have hbw := hb0.trans (hb1.mono hb0.size)
  have hB1 := lbox (by simpa using hb1)
  have m0 := hB1.cellS (i := 0) (v := .int .i64 l1) rfl
  clear hb1 hb0
  go_wp2_with fail
  refine (unhide CW _ hbw).mono ?_
  rintro e w2 ⟨rfl, hb2⟩
  have hbw2 := hbw.trans (hb2.mono hbw.size)
  have hB2 := hB1.below hb2 hB1.lt
  have hT2 := T.below hbw2
  clear m0 hbw hB1 hb2 CW CR
  have k0 := hT2.blk.cellS (i := 0) (v := .slice A1 H.length c1) rfl
  have k1 := hT2.blk.cellS (i := 1) (v := .slice A2 W.length c2) rfl
  obtain ⟨m0, m1, m2⟩ := ocells' hB2
  go_wp2_with fail
  go_region_held3 (fun w' => w'.cell? ⟨g, 0, none⟩ = some (.slice A1 H.length c1) ∧ w'.cell? ⟨w.heap.size, 0, none⟩ = some (.int .i64 l1) ∧ w'.cell? ⟨w.heap.size, 1, none⟩ = some (.int .i64 l2)) (first | exact ⟨k0, m0, m1⟩ | exact hcell6 | go_keep)
    (first
      | (go_at_call 40; refine (unhide CF _ (by first | exact hbw2 | exact hbw2.drew)).mono ?_; rintro e w3 ⟨rfl, hb3⟩; have hcell6 : w3.cell? ⟨g, 0, none⟩ = some (.slice A1 H.length c1) ∧ w3.cell? ⟨w.heap.size, 0, none⟩ = some (.int .i64 l1) ∧ w3.cell? ⟨w.heap.size, 1, none⟩ = some (.int .i64 l2) := ⟨(hb3.cell (p := ⟨g, 0, none⟩) hT2.blk.lt).trans k0, (hb3.cell (p := ⟨w.heap.size, 0, none⟩) hB2.lt).trans m0, (hb3.cell (p := ⟨w.heap.size, 1, none⟩) hB2.lt).trans m1⟩))
  have hbd : Below w2.heap.size w2 w3 := ((Below.refl w2.heap.size w2).drew).trans hb3
  have hbw3 := hbw2.trans (hbd.mono hbw2.size)
  have hT3 := hT2.below hbd
  have hB3 := hB2.below hbd hB2.lt
  clear hcell6 hb3 hbd hT2 hB2 k0 k1 m0 m1 m2 CF hbw2
  have k0 := hT3.blk.cellS (i := 0) (v := .slice A1 H.length c1) rfl
  have k1 := hT3.blk.cellS (i := 1) (v := .slice A2 W.length c2) rfl
  obtain ⟨m0, m1, m2⟩ := ocells' hB3
  go_upto_region 6 with fail
  go_cut [42] (fun s42 wx => s42 = .bool false ∧ ASt w lo g A1 A2 c1 c2 H W l1 l2 l3 wx)
  case first =>
    rcases idx_find (ofP l1 l2) H with ⟨_, f2⟩ | ⟨i, _, hi, f2⟩
    · clear hnot
      go_wp2
      go_quiet (fail)
      go_wp2
      go_meet
      case rel => exact ⟨by first | rfl | exact congrArg Value.bool (decide_eq_false (by omega)), ASt.below ⟨hT3, hB3, hbw3⟩ (below_drewN (Below.refl _ _) _)⟩
    · obtain ⟨g1, off1, o, hA1, hg1, ho, c0, c1', c2'⟩ := (rd_own hT3.held).op (k := i) hi
      cases hA1
      obtain ⟨o1, o2, o3⟩ := o
      have hmode' : o3 < l3 := hnot i _ f2 ho
      simp only at c0 c1' c2'
      clear hnot ho
      go_wp2
      go_quiet (fail)
      go_wp2
      go_meet
      case rel => exact ⟨by first | rfl | exact congrArg Value.bool (decide_eq_false (by omega)), ASt.below ⟨hT3, hB3, hbw3⟩ (below_drewN (Below.refl _ _) _)⟩
  case rest =>
    obtain ⟨rfl, hS4⟩ := hcut
    clear hnot hT3 hB3 k0 k1 m0 m1 m2 hbw3
    have hc4 := hS4.cells
    have hc4d := hS4.drew.cells
    have CH := hide (fun w1 (hb : Below w.heap.size w w1) => lfree_any A1 H.length c1 H ⟨l1, l2, l3⟩ w1 ((hrH.below hb).more hb.size) (by omega))
    have CWf := hide (fun w1 (hb : Below w.heap.size w w1) => lfree_any A2 W.length c2 W ⟨l1, l2, l3⟩ w1 ((hrW.below hb).more hb.size) (by omega))
    unfold HOp.val at CH CWf
    go_wp2_with fail
    go_region_held3 (fun w' => w'.cell? ⟨g, 0, none⟩ = some (.slice A1 H.length c1) ∧ w'.cell? ⟨g, 1, none⟩ = some (.slice A2 W.length c2) ∧ w'.cell? ⟨w.heap.size, 0, none⟩ = some (.int .i64 l1) ∧ w'.cell? ⟨w.heap.size, 1, none⟩ = some (.int .i64 l2) ∧ w'.cell? ⟨w.heap.size, 2, none⟩ = some (.int .i64 l3)) (first | exact hc4 | exact hc4d | exact hc5 | exact hc6 | go_keep)
      (first
        | (go_at_call 41; refine (unhide CH _ hS4.drew.bel).mono ?_; rintro e w5 ⟨rfl, hb5⟩; try rw [hF1]; have hS5 := hS4.drew.below hb5; have hc5 := hS5.cells)
        | (go_at_call 41; refine (unhide CWf _ hS5.bel).mono ?_; rintro e w6 ⟨rfl, hb6⟩; try rw [hF2]; have hS6 := hS5.below hb6; have hc6 := hS6.cells))
    have hlo6 : lo ≤ w6.heap.size := Nat.le_trans hlo hS6.bel.size
    have CHo := hide (hold_any lo g (.slice A1 H.length c1) (.slice A2 W.length c2) H W ⟨l1, l2, l3⟩ w6 hS6.tab hh hlo6)
    unfold HOp.val at CHo
    have hchg := Chg.of_below (S := fun k => k = g ∨ (Value.slice A1 H.length c1).ownBlock = some k) hS6.bel
    have hsz := hS6.bel.size
    obtain ⟨_, _, q0, q1, q2⟩ := hc6
    clear hc4 hc4d hc5 hS4 hS5 CH CWf
    go_wp2_with fail
    refine (unhide CHo).mono ?_
    rintro e w7 ⟨v, v1', rfl, hT7, hc7, hn7⟩
    go_wp2
    go_ret2
    exact ⟨v1', rfl, hT7, hchg.trans (hc7.mono fun k hk => .inl hk), hn7.imp id fun ⟨k, h1, h2⟩ => ⟨k, h1, Nat.le_trans hsz h2⟩⟩
end Go.Proofs.YtbccnafdfeempaaGreatDoor


namespace Go.Proofs.YtbccnafdfeempaaGreatDoor
open Go.RowKit

section
variable {P : Program} {md : Region.Mode} {ops : Array Oper} {Q : Exit → Act → World → Prop} {S : World → Prop}
/-- Take number i first; its slot is given. -/
theorem wpAnyH_takeD (i : Nat) (d : Option Tmp) (v : Value) {oi : Oper} {fuel : Nat} {listed : Array Bool} {a : Act} {w : World} (hi : ops[i]? = some oi) (hd : oi.dst = d)
    (hs : Region.noSelect ops = true) (hf : Region.free md ops listed i = true) (hr : (Region.ready md ops listed).contains i = true)
    (hQ : ∀ c a w, Q (.panic c) (a.put d v) w → Q (.panic c) a w) (hy : YieldsIf P ops S oi v a) (hS : S w)
    (h : wpAnyH P md ops Q S fuel (listed.setIfInBounds i true) (a.put d v) w) : wpAnyH P md ops Q S (fuel + 1) listed a w := by
  subst hd
  exact wpAnyH_take hi hs hf hr hQ hy hS h
end

/-- What Ask leaves where the lock waits. -/
def AskWaits (w : World) (lo g : Nat) (v1 v2 : Value) (H W : List HOp) (l : HOp) (e : Ending) (w' : World) : Prop :=
  ∃ v2', e = .returned (.tuple #[.bool false, .nilIface]) ∧ Tab w' lo g v1 v2' H (W ++ [l]) ∧ Chg (fun k => k = g ∨ v2.ownBlock = some k) w w' ∧ (v2'.ownBlock = v2.ownBlock ∨ ∃ k, v2'.ownBlock = some k ∧ w.heap.size ≤ k)

set_option maxRecDepth 100000 in
set_option maxHeartbeats 4000000 in
theorem ask_wait1 (lo g : Nat) (v1 v2 : Value) (H W : List HOp) (l : HOp) (w : World) (T : Tab w lo g v1 v2 H W) (hh : H.length ≤ 1000000) (hw : W.length ≤ 1000000) (hR : lrightB l = true) (hC : idxGo (fun y => decide (y.tx = l.tx)) 0 W < 0) (hlo : lo ≤ w.heap.size) (hnot : ∀ (i : Nat) o, idxGo (ofP l.tx l.what) 0 H = i → H[i]? = some o → o.item < l.item) (hF1 : freeB H l = false) :
    Calls Tryz.prog 25 #[.pointer (some ⟨g, 0, none⟩), l.val] w (AskWaits w lo g v1 v2 H W l) := by
  obtain ⟨A1, c1, rfl⟩ := own_slice T.held
  obtain ⟨A2, c2, rfl⟩ := own_slice T.waits
  obtain ⟨l1, l2, l3⟩ := l
  have hb0 : Below w.heap.size w (w.alloc (.cells #[.int .i64 l1, .int .i64 l2, .int .i64 l3] 67)) := (Below.refl _ _).alloc (Nat.le_refl _) _
  have CR := hide (fun w1 => lright_any ⟨l1, l2, l3⟩ w1)
  have CW := hide (fun w1 (hb : Below w.heap.size w w1) => waiting_any lo g (.slice A1 H.length c1) (.slice A2 W.length c2) H W l1 w1 (T.below hb) hw)
  have hrH := rd_own T.held
  have hrW := rd_own T.waits
  have CF := hide (fun w1 (hb : Below w.heap.size w w1) => lof_any A1 H.length c1 H l1 l2 w1 ((hrH.below hb).more hb.size) (by omega))
  simp only at hC
  generalize idxGo (fun y => decide (y.tx = l1)) 0 W = iw at *
  unfold HOp.val at CR ⊢
  go_enter Tryz.func25, Tryz.ntmps25
  go_wp2_with fail
  refine (unhide CR _).mono ?_
  rintro e w1 ⟨rfl, hb1⟩
  rw [hR]
  have hbw := hb0.trans (hb1.mono hb0.size)
  have hB1 := lbox (by simpa using hb1)
  have m0 := hB1.cellS (i := 0) (v := .int .i64 l1) rfl
  clear hb1 hb0
  go_wp2_with fail
  refine (unhide CW _ hbw).mono ?_
  rintro e w2 ⟨rfl, hb2⟩
  have hbw2 := hbw.trans (hb2.mono hbw.size)
  have hB2 := hB1.below hb2 hB1.lt
  have hT2 := T.below hbw2
  clear m0 hbw hB1 hb2 CW CR
  have k0 := hT2.blk.cellS (i := 0) (v := .slice A1 H.length c1) rfl
  have k1 := hT2.blk.cellS (i := 1) (v := .slice A2 W.length c2) rfl
  obtain ⟨m0, m1, m2⟩ := ocells' hB2
  go_wp2_with fail
  go_region_held3 (fun w' => w'.cell? ⟨g, 0, none⟩ = some (.slice A1 H.length c1) ∧ w'.cell? ⟨w.heap.size, 0, none⟩ = some (.int .i64 l1) ∧ w'.cell? ⟨w.heap.size, 1, none⟩ = some (.int .i64 l2)) (first | exact ⟨k0, m0, m1⟩ | exact hcell6 | go_keep)
    (first
      | (go_at_call 40; refine (unhide CF _ (by first | exact hbw2 | exact hbw2.drew)).mono ?_; rintro e w3 ⟨rfl, hb3⟩; have hcell6 : w3.cell? ⟨g, 0, none⟩ = some (.slice A1 H.length c1) ∧ w3.cell? ⟨w.heap.size, 0, none⟩ = some (.int .i64 l1) ∧ w3.cell? ⟨w.heap.size, 1, none⟩ = some (.int .i64 l2) := ⟨(hb3.cell (p := ⟨g, 0, none⟩) hT2.blk.lt).trans k0, (hb3.cell (p := ⟨w.heap.size, 0, none⟩) hB2.lt).trans m0, (hb3.cell (p := ⟨w.heap.size, 1, none⟩) hB2.lt).trans m1⟩))
  have hbd : Below w2.heap.size w2 w3 := ((Below.refl w2.heap.size w2).drew).trans hb3
  have hbw3 := hbw2.trans (hbd.mono hbw2.size)
  have hT3 := hT2.below hbd
  have hB3 := hB2.below hbd hB2.lt
  clear hcell6 hb3 hbd hT2 hB2 k0 k1 m0 m1 m2 CF hbw2
  have k0 := hT3.blk.cellS (i := 0) (v := .slice A1 H.length c1) rfl
  have k1 := hT3.blk.cellS (i := 1) (v := .slice A2 W.length c2) rfl
  obtain ⟨m0, m1, m2⟩ := ocells' hB3
  go_upto_region 6 with fail
  go_cut [42] (fun s42 wx => s42 = .bool false ∧ ASt w lo g A1 A2 c1 c2 H W l1 l2 l3 wx)
  case first =>
    rcases idx_find (ofP l1 l2) H with ⟨_, f2⟩ | ⟨i, _, hi, f2⟩
    · clear hnot
      go_wp2
      go_quiet (fail)
      go_wp2
      go_meet
      case rel => exact ⟨by first | rfl | exact congrArg Value.bool (decide_eq_false (by omega)), ASt.below ⟨hT3, hB3, hbw3⟩ (below_drewN (Below.refl _ _) _)⟩
    · obtain ⟨g1, off1, o, hA1, hg1, ho, c0, c1', c2'⟩ := (rd_own hT3.held).op (k := i) hi
      cases hA1
      obtain ⟨o1, o2, o3⟩ := o
      have hmode' : o3 < l3 := hnot i _ f2 ho
      simp only at c0 c1' c2'
      clear hnot ho
      go_wp2
      go_quiet (fail)
      go_wp2
      go_meet
      case rel => exact ⟨by first | rfl | exact congrArg Value.bool (decide_eq_false (by omega)), ASt.below ⟨hT3, hB3, hbw3⟩ (below_drewN (Below.refl _ _) _)⟩
  case rest =>
    obtain ⟨rfl, hS4⟩ := hcut
    clear hnot hT3 hB3 k0 k1 m0 m1 m2 hbw3
    have hc4 := hS4.cells
    have hc4d := hS4.drew.cells
    have CH := hide (fun w1 (hb : Below w.heap.size w w1) => lfree_any A1 H.length c1 H ⟨l1, l2, l3⟩ w1 ((hrH.below hb).more hb.size) (by omega))
    have CWf := hide (fun w1 (hb : Below w.heap.size w w1) => lfree_any A2 W.length c2 W ⟨l1, l2, l3⟩ w1 ((hrW.below hb).more hb.size) (by omega))
    unfold HOp.val at CH CWf
    go_wp2_with fail
    refine wp_region_held_drew (S := (fun w' => w'.cell? ⟨g, 0, none⟩ = some (.slice A1 H.length c1) ∧ w'.cell? ⟨g, 1, none⟩ = some (.slice A2 W.length c2) ∧ w'.cell? ⟨w.heap.size, 0, none⟩ = some (.int .i64 l1) ∧ w'.cell? ⟨w.heap.size, 1, none⟩ = some (.int .i64 l2) ∧ w'.cell? ⟨w.heap.size, 2, none⟩ = some (.int .i64 l3))) (by kernel_rfl) hc4d (fun hHeld => ?_)
    refine wpAnyH_takeD 0 (some 43) (.pointer (some ⟨g, 0, none⟩)) rfl rfl (by kernel_rfl) (by kernel_rfl) (by kernel_rfl) (fun _ _ _ h => h) (Or.inl ⟨by rfl, fun _ _ => by go_simp; try rfl⟩) (by assumption) ?_
    refine wpAnyH_takeD 1 (some 44) (.pointer (some ⟨g, 0, none⟩)) rfl rfl (by kernel_rfl) (by kernel_rfl) (by kernel_rfl) (fun _ _ _ h => h) (Or.inl ⟨by rfl, fun _ _ => by go_simp; try rfl⟩) (by assumption) ?_
    refine wpAnyH_takeD 2 (some 45) (.pointer (some ⟨g, 0, none⟩)) rfl rfl (by kernel_rfl) (by kernel_rfl) (by kernel_rfl) (fun _ _ _ h => h) (Or.inl ⟨by rfl, fun _ _ => by go_simp; try rfl⟩) (by assumption) ?_
    refine wpAnyH_takeD 3 (some 46) (.slice A1 H.length c1) rfl rfl (by kernel_rfl) (by kernel_rfl) (by kernel_rfl) (fun _ _ _ h => h) (Or.inl ⟨by rfl, fun wz hz => by obtain ⟨_, _, _, _, _⟩ := hz; go_simp; try rfl⟩) (by assumption) ?_
    refine wpAnyH_takeD 4 (some 47) (.agg #[.int .i64 l1, .int .i64 l2, .int .i64 l3]) rfl rfl (by kernel_rfl) (by kernel_rfl) (by kernel_rfl) (fun _ _ _ h => h) (Or.inl ⟨by rfl, fun wz hz => by obtain ⟨_, _, _, _, _⟩ := hz; go_simp; try rfl⟩) (by assumption) ?_
    simp only [Act.put, List.setIfInBounds_toArray, List.set_cons_zero, List.set_cons_succ]
    refine wpAnyH_ready (rs := [5]) (by kernel_rfl) (by simp) ?_
    refine AllReadyH.cons (o := { dst := some 48, op := .call { callee := .value (.func 41), args := #[.tmp 46, .tmp 47], argTypes := #[38, 67] }, type := 4, pos := "locks.go:62", after := #[{ on := 3, ground := .data }, { on := 4, ground := .data }], guard := none }) rfl (fun K hK => ?_) AllReadyH.nil
    go_simp
    go_at_call 41
    refine (unhide CH _ hS4.drew.bel).mono ?_
    rintro e w5 ⟨rfl, hb5⟩
    rw [hF1]
    have hS5 := hS4.drew.below hb5
    have hc5 := hS5.cells
    refine hK.out _ _ hc5 (fun hHeld5 => ?_)
    clear hK K
    refine wpAnyH_takeD 6 (some 49) (.bool false) rfl rfl (by kernel_rfl) (by kernel_rfl) (by kernel_rfl) (fun _ _ _ h => h) (Or.inl ⟨by rfl, fun _ _ => by go_simp; try rfl⟩) (by assumption) ?_
    refine wpAnyH_takeD 7 (some 50) (undef) rfl rfl (by kernel_rfl) (by kernel_rfl) (by kernel_rfl) (fun _ _ _ h => h) (Or.inr ⟨by rfl, rfl⟩) (by assumption) ?_
    refine wpAnyH_takeD 8 (some 51) (undef) rfl rfl (by kernel_rfl) (by kernel_rfl) (by kernel_rfl) (fun _ _ _ h => h) (Or.inr ⟨by rfl, rfl⟩) (by assumption) ?_
    refine wpAnyH_takeD 9 (some 52) (undef) rfl rfl (by kernel_rfl) (by kernel_rfl) (by kernel_rfl) (fun _ _ _ h => h) (Or.inr ⟨by rfl, rfl⟩) (by assumption) ?_
    refine wpAnyH_takeD 10 (some 53) (undef) rfl rfl (by kernel_rfl) (by kernel_rfl) (by kernel_rfl) (fun _ _ _ h => h) (Or.inr ⟨by rfl, rfl⟩) (by assumption) ?_
    refine wpAnyH_takeD 11 (some 54) (undef) rfl rfl (by kernel_rfl) (by kernel_rfl) (by kernel_rfl) (fun _ _ _ h => h) (Or.inr ⟨by rfl, rfl⟩) (by assumption) ?_
    refine wpAnyH_takeD 12 (some 55) (undef) rfl rfl (by kernel_rfl) (by kernel_rfl) (by kernel_rfl) (fun _ _ _ h => h) (Or.inr ⟨by rfl, rfl⟩) (by assumption) ?_
    refine wpAnyH_takeD 13 (some 56) (.bool false) rfl rfl (by kernel_rfl) (by kernel_rfl) (by kernel_rfl) (fun _ _ _ h => h) (Or.inl ⟨by rfl, fun _ _ => by go_simp; try rfl⟩) (by assumption) ?_
    simp only [Act.put, List.setIfInBounds_toArray, List.set_cons_zero, List.set_cons_succ]
    refine wpAnyH_done (by kernel_rfl) ?_ _
    obtain ⟨hTx, hBx, hbx⟩ := hS5
    have hgx := hTx.blk.lt
    have hbl := hBx.lt
    have hsx : lo ≤ w5.heap.size := Nat.le_trans hlo hbx.size
    have hsz2 : w.heap.size ≤ w5.heap.size := hbx.size
    have k1' := hTx.blk.cellS (i := 1) (v := .slice A2 W.length c2) rfl
    have kf := hTx.blk.frozen 1
    obtain ⟨m0', m1', m2'⟩ := ocells' hBx
    have k1a := (World.cell?_alloc_lt w5 (.cells #[.int .i64 l1, .int .i64 l2, .int .i64 l3] 67) ⟨g, 1, none⟩ hgx).trans k1'
    have h1c : ∀ u ∈ cellsH [⟨l1, l2, l3⟩], u.oneCell' = true := oneH _
    clear hc4 hc4d hc5 hS4 CH CWf hHeld5
    go_wp2_with fail
    go_region_law (first | ((refine step_app2 rfl (.tmp 64) (.tmp 66) _ rfl lo slt_lock (n := W.length) (xs := cellsH W) (m := 1) (news := cellsH [⟨l1, l2, l3⟩]) rfl (own_alloc hTx.waits.drew _) rfl (rd_new' _ _ (cellsH [⟨l1, l2, l3⟩]) (by simp) rfl) h1c (by omega) (by simp; omega) ?_; intro v7 w7 hown7 hg7 hat7; obtain ⟨A7, c7, rfl⟩ := own_slice hown7; have hBk7 := (hTx.blk.drew.alloc (.cells (cellsH [⟨l1, l2, l3⟩]).toArray 67)).other (own_alloc hTx.waits.drew _) (by decide) hg7; have p0 := hBk7.cellS (i := 1) (v := .slice A2 W.length c2) rfl; have p1 := hBk7.frozen 1)))
    all_goals
      go_wp2
      go_ret2
      have hw7 := (own_alloc hTx.held.drew (.cells (cellsH [⟨l1, l2, l3⟩]).toArray 67)).kept hg7 (by
        cases hv : (Value.slice A1 H.length c1).ownBlock with
        | none => exact .inl rfl
        | some k2 => exact .inr (fun e => hTx.ne k2 hv e.symm))
      refine ⟨_, rfl, ⟨hBk7.put 1 _, own_set_blk hw7 hBk7 (by decide) 1 _, ?_, ?_, hTx.lo⟩, ?_, ?_⟩
      · rw [cellsH_append]
        exact own_set_blk (by simpa using hown7) hBk7 (by decide) 1 _
      · intro k hk h2
        rcases hat7 with e | e
        · exact hTx.ne k hk (e.symm.trans h2)
        · have h3 := (hTx.held.lt k hk).2
          rw [e] at h2
          injection h2 with h2
          simp at h2
          omega
      · exact (((Chg.of_below hbx).drew.alloc _).grown hg7 (fun k hk => .inl (.inr hk))).set (p := ⟨g, 1, none⟩) (.inl (.inl rfl)) _
      · rcases hat7 with e | e
        · exact .inl e
        · exact .inr ⟨_, e, by simp; omega⟩
set_option maxRecDepth 100000 in
set_option maxHeartbeats 4000000 in
theorem ask_wait2 (lo g : Nat) (v1 v2 : Value) (H W : List HOp) (l : HOp) (w : World) (T : Tab w lo g v1 v2 H W) (hh : H.length ≤ 1000000) (hw : W.length ≤ 1000000) (hR : lrightB l = true) (hC : idxGo (fun y => decide (y.tx = l.tx)) 0 W < 0) (hlo : lo ≤ w.heap.size) (hnot : ∀ (i : Nat) o, idxGo (ofP l.tx l.what) 0 H = i → H[i]? = some o → o.item < l.item) (hF1 : freeB H l = true) (hF2 : freeB W l = false) :
    Calls Tryz.prog 25 #[.pointer (some ⟨g, 0, none⟩), l.val] w (AskWaits w lo g v1 v2 H W l) := by
  obtain ⟨A1, c1, rfl⟩ := own_slice T.held
  obtain ⟨A2, c2, rfl⟩ := own_slice T.waits
  obtain ⟨l1, l2, l3⟩ := l
  have hb0 : Below w.heap.size w (w.alloc (.cells #[.int .i64 l1, .int .i64 l2, .int .i64 l3] 67)) := (Below.refl _ _).alloc (Nat.le_refl _) _
  have CR := hide (fun w1 => lright_any ⟨l1, l2, l3⟩ w1)
  have CW := hide (fun w1 (hb : Below w.heap.size w w1) => waiting_any lo g (.slice A1 H.length c1) (.slice A2 W.length c2) H W l1 w1 (T.below hb) hw)
  have hrH := rd_own T.held
  have hrW := rd_own T.waits
  have CF := hide (fun w1 (hb : Below w.heap.size w w1) => lof_any A1 H.length c1 H l1 l2 w1 ((hrH.below hb).more hb.size) (by omega))
  simp only at hC
  generalize idxGo (fun y => decide (y.tx = l1)) 0 W = iw at *
  unfold HOp.val at CR ⊢
  go_enter Tryz.func25, Tryz.ntmps25
  go_wp2_with fail
  refine (unhide CR _).mono ?_
  rintro e w1 ⟨rfl, hb1⟩
  rw [hR]
  have hbw := hb0.trans (hb1.mono hb0.size)
  have hB1 := lbox (by simpa using hb1)
  have m0 := hB1.cellS (i := 0) (v := .int .i64 l1) rfl
  clear hb1 hb0
  go_wp2_with fail
  refine (unhide CW _ hbw).mono ?_
  rintro e w2 ⟨rfl, hb2⟩
  have hbw2 := hbw.trans (hb2.mono hbw.size)
  have hB2 := hB1.below hb2 hB1.lt
  have hT2 := T.below hbw2
  clear m0 hbw hB1 hb2 CW CR
  have k0 := hT2.blk.cellS (i := 0) (v := .slice A1 H.length c1) rfl
  have k1 := hT2.blk.cellS (i := 1) (v := .slice A2 W.length c2) rfl
  obtain ⟨m0, m1, m2⟩ := ocells' hB2
  go_wp2_with fail
  go_region_held3 (fun w' => w'.cell? ⟨g, 0, none⟩ = some (.slice A1 H.length c1) ∧ w'.cell? ⟨w.heap.size, 0, none⟩ = some (.int .i64 l1) ∧ w'.cell? ⟨w.heap.size, 1, none⟩ = some (.int .i64 l2)) (first | exact ⟨k0, m0, m1⟩ | exact hcell6 | go_keep)
    (first
      | (go_at_call 40; refine (unhide CF _ (by first | exact hbw2 | exact hbw2.drew)).mono ?_; rintro e w3 ⟨rfl, hb3⟩; have hcell6 : w3.cell? ⟨g, 0, none⟩ = some (.slice A1 H.length c1) ∧ w3.cell? ⟨w.heap.size, 0, none⟩ = some (.int .i64 l1) ∧ w3.cell? ⟨w.heap.size, 1, none⟩ = some (.int .i64 l2) := ⟨(hb3.cell (p := ⟨g, 0, none⟩) hT2.blk.lt).trans k0, (hb3.cell (p := ⟨w.heap.size, 0, none⟩) hB2.lt).trans m0, (hb3.cell (p := ⟨w.heap.size, 1, none⟩) hB2.lt).trans m1⟩))
  have hbd : Below w2.heap.size w2 w3 := ((Below.refl w2.heap.size w2).drew).trans hb3
  have hbw3 := hbw2.trans (hbd.mono hbw2.size)
  have hT3 := hT2.below hbd
  have hB3 := hB2.below hbd hB2.lt
  clear hcell6 hb3 hbd hT2 hB2 k0 k1 m0 m1 m2 CF hbw2
  have k0 := hT3.blk.cellS (i := 0) (v := .slice A1 H.length c1) rfl
  have k1 := hT3.blk.cellS (i := 1) (v := .slice A2 W.length c2) rfl
  obtain ⟨m0, m1, m2⟩ := ocells' hB3
  go_upto_region 6 with fail
  go_cut [42] (fun s42 wx => s42 = .bool false ∧ ASt w lo g A1 A2 c1 c2 H W l1 l2 l3 wx)
  case first =>
    rcases idx_find (ofP l1 l2) H with ⟨_, f2⟩ | ⟨i, _, hi, f2⟩
    · clear hnot
      go_wp2
      go_quiet (fail)
      go_wp2
      go_meet
      case rel => exact ⟨by first | rfl | exact congrArg Value.bool (decide_eq_false (by omega)), ASt.below ⟨hT3, hB3, hbw3⟩ (below_drewN (Below.refl _ _) _)⟩
    · obtain ⟨g1, off1, o, hA1, hg1, ho, c0, c1', c2'⟩ := (rd_own hT3.held).op (k := i) hi
      cases hA1
      obtain ⟨o1, o2, o3⟩ := o
      have hmode' : o3 < l3 := hnot i _ f2 ho
      simp only at c0 c1' c2'
      clear hnot ho
      go_wp2
      go_quiet (fail)
      go_wp2
      go_meet
      case rel => exact ⟨by first | rfl | exact congrArg Value.bool (decide_eq_false (by omega)), ASt.below ⟨hT3, hB3, hbw3⟩ (below_drewN (Below.refl _ _) _)⟩
  case rest =>
    obtain ⟨rfl, hS4⟩ := hcut
    clear hnot hT3 hB3 k0 k1 m0 m1 m2 hbw3
    have hc4 := hS4.cells
    have hc4d := hS4.drew.cells
    have CH := hide (fun w1 (hb : Below w.heap.size w w1) => lfree_any A1 H.length c1 H ⟨l1, l2, l3⟩ w1 ((hrH.below hb).more hb.size) (by omega))
    have CWf := hide (fun w1 (hb : Below w.heap.size w w1) => lfree_any A2 W.length c2 W ⟨l1, l2, l3⟩ w1 ((hrW.below hb).more hb.size) (by omega))
    unfold HOp.val at CH CWf
    go_wp2_with fail
    go_region_held3 (fun w' => w'.cell? ⟨g, 0, none⟩ = some (.slice A1 H.length c1) ∧ w'.cell? ⟨g, 1, none⟩ = some (.slice A2 W.length c2) ∧ w'.cell? ⟨w.heap.size, 0, none⟩ = some (.int .i64 l1) ∧ w'.cell? ⟨w.heap.size, 1, none⟩ = some (.int .i64 l2) ∧ w'.cell? ⟨w.heap.size, 2, none⟩ = some (.int .i64 l3)) (first | exact hc4 | exact hc4d | exact hc5 | exact hc6 | go_keep)
      (first
        | (go_at_call 41; refine (unhide CH _ hS4.drew.bel).mono ?_; rintro e w5 ⟨rfl, hb5⟩; try rw [hF1]; have hS5 := hS4.drew.below hb5; have hc5 := hS5.cells)
        | (go_at_call 41; refine (unhide CWf _ hS5.bel).mono ?_; rintro e w6 ⟨rfl, hb6⟩; try rw [hF2]; have hS6 := hS5.below hb6; have hc6 := hS6.cells))
    obtain ⟨hTx, hBx, hbx⟩ := hS6
    have hgx := hTx.blk.lt
    have hbl := hBx.lt
    have hsx : lo ≤ w6.heap.size := Nat.le_trans hlo hbx.size
    have hsz2 : w.heap.size ≤ w6.heap.size := hbx.size
    have k1' := hTx.blk.cellS (i := 1) (v := .slice A2 W.length c2) rfl
    have kf := hTx.blk.frozen 1
    obtain ⟨m0', m1', m2'⟩ := ocells' hBx
    have k1a := (World.cell?_alloc_lt w6 (.cells #[.int .i64 l1, .int .i64 l2, .int .i64 l3] 67) ⟨g, 1, none⟩ hgx).trans k1'
    have h1c : ∀ u ∈ cellsH [⟨l1, l2, l3⟩], u.oneCell' = true := oneH _
    clear hc4 hc4d hc5 hS4 CH CWf hS5 hc6
    go_wp2_with fail
    go_region_law (first | ((refine step_app2 rfl (.tmp 64) (.tmp 66) _ rfl lo slt_lock (n := W.length) (xs := cellsH W) (m := 1) (news := cellsH [⟨l1, l2, l3⟩]) rfl (own_alloc hTx.waits.drew _) rfl (rd_new' _ _ (cellsH [⟨l1, l2, l3⟩]) (by simp) rfl) h1c (by omega) (by simp; omega) ?_; intro v7 w7 hown7 hg7 hat7; obtain ⟨A7, c7, rfl⟩ := own_slice hown7; have hBk7 := (hTx.blk.drew.alloc (.cells (cellsH [⟨l1, l2, l3⟩]).toArray 67)).other (own_alloc hTx.waits.drew _) (by decide) hg7; have p0 := hBk7.cellS (i := 1) (v := .slice A2 W.length c2) rfl; have p1 := hBk7.frozen 1)))
    all_goals
      go_wp2
      go_ret2
      have hw7 := (own_alloc hTx.held.drew (.cells (cellsH [⟨l1, l2, l3⟩]).toArray 67)).kept hg7 (by
        cases hv : (Value.slice A1 H.length c1).ownBlock with
        | none => exact .inl rfl
        | some k2 => exact .inr (fun e => hTx.ne k2 hv e.symm))
      refine ⟨_, rfl, ⟨hBk7.put 1 _, own_set_blk hw7 hBk7 (by decide) 1 _, ?_, ?_, hTx.lo⟩, ?_, ?_⟩
      · rw [cellsH_append]
        exact own_set_blk (by simpa using hown7) hBk7 (by decide) 1 _
      · intro k hk h2
        rcases hat7 with e | e
        · exact hTx.ne k hk (e.symm.trans h2)
        · have h3 := (hTx.held.lt k hk).2
          rw [e] at h2
          injection h2 with h2
          simp at h2
          omega
      · exact (((Chg.of_below hbx).drew.alloc _).grown hg7 (fun k hk => .inl (.inr hk))).set (p := ⟨g, 1, none⟩) (.inl (.inl rfl)) _
      · rcases hat7 with e | e
        · exact .inl e
        · exact .inr ⟨_, e, by simp; omega⟩

end Go.Proofs.YtbccnafdfeempaaGreatDoor

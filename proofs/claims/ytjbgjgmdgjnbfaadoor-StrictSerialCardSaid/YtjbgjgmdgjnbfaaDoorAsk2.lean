
/-
  CONTRACT of locks.Ask where the lock is held already; where it can be held; where it waits.
-/
import Derived.Test.YtjbgjgmdgjnbfaaDoorAsk
import Derived.Deep.QuietTactic
import Derived.BigQuiet

namespace Go.Proofs.YtjbgjgmdgjnbfaaDoor
open Go.RowKit

set_option maxRecDepth 100000 in
set_option maxHeartbeats 4000000 in
theorem ask_has (lo g : Nat) (v1 v2 : Value) (H W : List HOp) (l : HOp) (w : World) (T : Tab w lo g v1 v2 H W) (hh : H.length ≤ 1000000) (hw : W.length ≤ 1000000) (hR : lrightB l = true) (hC : idxGo (fun y => decide (y.tx = l.tx)) 0 W < 0) (i : Nat) (hi : i < H.length) (hidx : idxGo (ofP l.tx l.what) 0 H = i) (hmode : ∀ o, H[i]? = some o → l.item ≤ o.item) :
    Calls Tryd.prog 17 #[.pointer (some ⟨g, 0, none⟩), l.val] w fun e w' => e = .returned (.tuple #[.bool true, .nilIface]) ∧ Below w.heap.size w w' := by
  obtain ⟨A1, c1, rfl⟩ := own_slice T.held
  obtain ⟨A2, c2, rfl⟩ := own_slice T.waits
  obtain ⟨l1, l2, l3⟩ := l
  have hb0 : Below w.heap.size w (w.alloc (.cells #[.int .i64 l1, .int .i64 l2, .int .i64 l3] 60)) := (Below.refl _ _).alloc (Nat.le_refl _) _
  have CR := hide (fun w1 => lright_any ⟨l1, l2, l3⟩ w1)
  have CW := hide (fun w1 (hb : Below w.heap.size w w1) => waiting_any lo g (.slice A1 H.length c1) (.slice A2 W.length c2) H W l1 w1 (T.below hb) hw)
  have hrH := rd_own T.held
  have hrW := rd_own T.waits
  have CF := hide (fun w1 (hb : Below w.heap.size w w1) => lof_any A1 H.length c1 H l1 l2 w1 ((hrH.below hb).more hb.size) (by omega))
  simp only at hC
  generalize idxGo (fun y => decide (y.tx = l1)) 0 W = iw at *
  unfold HOp.val at CR ⊢
  go_enter Tryd.func17, Tryd.ntmps17
  go_wp2_with fail
  refine (unhide CR _).mono ?_
  rintro e w1 ⟨rfl, hb1⟩
  rw [hR]
  have hbw := hb0.trans (hb1.mono hb0.size)
  have hB1 := lbox (by simpa using hb1)
  have m0 := hB1.cellS (i := 0) (v := .int .i64 l1) rfl
  clear hb1 hb0
  go_wp2_with fail
  refine (unhide CW _ hbw).mono ?_
  rintro e w2 ⟨rfl, hb2⟩
  have hbw2 := hbw.trans (hb2.mono hbw.size)
  have hB2 := hB1.below hb2 hB1.lt
  have hT2 := T.below hbw2
  clear m0 hbw hB1 hb2 CW CR
  have k0 := hT2.blk.cellS (i := 0) (v := .slice A1 H.length c1) rfl
  have k1 := hT2.blk.cellS (i := 1) (v := .slice A2 W.length c2) rfl
  obtain ⟨m0, m1, m2⟩ := ocells' hB2
  go_wp2_with fail
  go_region_held3 (fun w' => w'.cell? ⟨g, 0, none⟩ = some (.slice A1 H.length c1) ∧ w'.cell? ⟨w.heap.size, 0, none⟩ = some (.int .i64 l1) ∧ w'.cell? ⟨w.heap.size, 1, none⟩ = some (.int .i64 l2)) (first | exact ⟨k0, m0, m1⟩ | exact hcell6 | go_keep)
    (first
      | (go_at_call 25; refine (unhide CF _ (by first | exact hbw2 | exact hbw2.drew)).mono ?_; rintro e w3 ⟨rfl, hb3⟩; have hcell6 : w3.cell? ⟨g, 0, none⟩ = some (.slice A1 H.length c1) ∧ w3.cell? ⟨w.heap.size, 0, none⟩ = some (.int .i64 l1) ∧ w3.cell? ⟨w.heap.size, 1, none⟩ = some (.int .i64 l2) := ⟨(hb3.cell (p := ⟨g, 0, none⟩) hT2.blk.lt).trans k0, (hb3.cell (p := ⟨w.heap.size, 0, none⟩) hB2.lt).trans m0, (hb3.cell (p := ⟨w.heap.size, 1, none⟩) hB2.lt).trans m1⟩))
  have hbd : Below w2.heap.size w2 w3 := ((Below.refl w2.heap.size w2).drew).trans hb3
  have hbw3 := hbw2.trans (hbd.mono hbw2.size)
  have hT3 := hT2.below hbd
  have hB3 := hB2.below hbd hB2.lt
  clear hcell6 hb3 hbd hT2 hB2 k0 k1 m0 m1 m2 CF hbw2
  have k0 := hT3.blk.cellS (i := 0) (v := .slice A1 H.length c1) rfl
  have k1 := hT3.blk.cellS (i := 1) (v := .slice A2 W.length c2) rfl
  obtain ⟨m0, m1, m2⟩ := ocells' hB3
  obtain ⟨g1, off1, o, hA1, hg1, ho, c0, c1', c2'⟩ := (rd_own hT3.held).op (k := i) hi
  cases hA1
  obtain ⟨o1, o2, o3⟩ := o
  simp only at c0 c1' c2'
  have hmode' := hmode _ ho
  try simp only at hmode'
  clear hidx hmode ho
  go_wp2
  go_quiet (fail)
  go_wp2
  go_ret2
  exact ⟨rfl, below_drewN hbw3 _⟩

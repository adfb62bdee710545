
/-
  CONTRACT of locks.Ask, outcome by outcome.
-/
import Derived.Test.YtjbgjgmdgjnbfaaDoorHold

namespace Go.Proofs.YtjbgjgmdgjnbfaaDoor
open Go.RowKit

theorem lbox {w w1 : World} {l1 l2 l3 : Int} (hb : Below (w.heap.size + 1) (w.alloc (.cells #[.int .i64 l1, .int .i64 l2, .int .i64 l3] 60)) w1) : Blk w1 w.heap.size 60 [.int .i64 l1, .int .i64 l2, .int .i64 l3] :=
  (Blk.new w 60 [.int .i64 l1, .int .i64 l2, .int .i64 l3]).below hb (by omega)

set_option maxRecDepth 100000 in
set_option maxHeartbeats 1000000 in
theorem ask_range (lo g : Nat) (v1 v2 : Value) (H W : List HOp) (l : HOp) (w : World) (T : Tab w lo g v1 v2 H W) (hw : W.length ≤ 1000000) (hR : lrightB l = false) :
    Calls Tryd.prog 17 #[.pointer (some ⟨g, 0, none⟩), l.val] w fun e w' => e = .returned (.tuple #[.bool false, .iface 34 (.int .i64 1)]) ∧ Below w.heap.size w w' := by
  obtain ⟨A1, c1, rfl⟩ := own_slice T.held
  obtain ⟨A2, c2, rfl⟩ := own_slice T.waits
  obtain ⟨l1, l2, l3⟩ := l
  have hb0 : Below w.heap.size w (w.alloc (.cells #[.int .i64 l1, .int .i64 l2, .int .i64 l3] 60)) := (Below.refl _ _).alloc (Nat.le_refl _) _
  have hB0 := Blk.new w 60 [.int .i64 l1, .int .i64 l2, .int .i64 l3]
  have CR := hide (fun w1 => lright_any ⟨l1, l2, l3⟩ w1)
  have CW := hide (fun w1 (hb : Below w.heap.size w w1) => waiting_any lo g (.slice A1 H.length c1) (.slice A2 W.length c2) H W l1 w1 (T.below hb) hw)
  unfold HOp.val at CR ⊢
  go_enter Tryd.func17, Tryd.ntmps17
  go_wp2_with fail
  refine (unhide CR _).mono ?_
  rintro e w1 ⟨rfl, hb1⟩
  rw [hR]
  have hbw := hb0.trans (hb1.mono hb0.size)
  clear hb1
  go_wp2
  go_ret2
  exact ⟨rfl, hbw⟩

set_option maxRecDepth 100000 in
set_option maxHeartbeats 1000000 in
theorem ask_clash (lo g : Nat) (v1 v2 : Value) (H W : List HOp) (l : HOp) (w : World) (T : Tab w lo g v1 v2 H W) (hw : W.length ≤ 1000000) (hR : lrightB l = true) (hC : 0 ≤ idxGo (fun y => decide (y.tx = l.tx)) 0 W) :
    Calls Tryd.prog 17 #[.pointer (some ⟨g, 0, none⟩), l.val] w fun e w' => e = .returned (.tuple #[.bool false, .iface 34 (.int .i64 7)]) ∧ Below w.heap.size w w' := by
  obtain ⟨A1, c1, rfl⟩ := own_slice T.held
  obtain ⟨A2, c2, rfl⟩ := own_slice T.waits
  obtain ⟨l1, l2, l3⟩ := l
  have hb0 : Below w.heap.size w (w.alloc (.cells #[.int .i64 l1, .int .i64 l2, .int .i64 l3] 60)) := (Below.refl _ _).alloc (Nat.le_refl _) _
  have hB0 := Blk.new w 60 [.int .i64 l1, .int .i64 l2, .int .i64 l3]
  have CR := hide (fun w1 => lright_any ⟨l1, l2, l3⟩ w1)
  have CW := hide (fun w1 (hb : Below w.heap.size w w1) => waiting_any lo g (.slice A1 H.length c1) (.slice A2 W.length c2) H W l1 w1 (T.below hb) hw)
  simp only at hC
  generalize idxGo (fun y => decide (y.tx = l1)) 0 W = iw at *
  unfold HOp.val at CR ⊢
  go_enter Tryd.func17, Tryd.ntmps17
  go_wp2_with fail
  refine (unhide CR _).mono ?_
  rintro e w1 ⟨rfl, hb1⟩
  rw [hR]
  have hbw := hb0.trans (hb1.mono hb0.size)
  have hB1 := lbox (by simpa using hb1)
  have m0 := hB1.cellS (i := 0) (v := .int .i64 l1) rfl
  clear hb1
  go_wp2_with fail
  refine (unhide CW _ hbw).mono ?_
  rintro e w2 ⟨rfl, hb2⟩
  have hbw2 := hbw.trans (hb2.mono hbw.size)
  go_wp2
  go_ret2
  exact ⟨rfl, hbw2⟩
end Go.Proofs.YtjbgjgmdgjnbfaaDoor

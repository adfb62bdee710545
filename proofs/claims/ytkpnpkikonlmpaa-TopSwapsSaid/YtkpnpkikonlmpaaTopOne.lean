
/-
  CONTRACT of lanetop.one: a closed fact that holds.
-/
import Derived.Test.YtkpnpkikonlmpaaSerial3

namespace Go.Proofs.Ytkpnpkikonlmpaa
open Go.RowKit

def oneT : List HOp := [⟨2, 2, 1⟩, ⟨2, 3, 0⟩, ⟨1, 1, 1⟩, ⟨1, 3, 0⟩]
theorem oneT_ok : okH oneT := by show (checkF _).2 = 0; decide
theorem oneT_order : orderOf oneT = some [2, 1] := by
  unfold orderOf
  rw [topF_up (dealsL_up _)]
  decide
set_option maxRecDepth 100000 in
set_option maxHeartbeats 1000000 in
theorem one_any (w : World) : Calls Try.prog 23 #[] w fun e w' => e = .returned (.bool true) ∧ Below w.heap.size w w' := by
  have hr0 := rd_new w 24 (size := 3) (n := 4) (cellsH oneT) rfl
  have hb0 : Below w.heap.size w (w.alloc (.cells (cellsH oneT).toArray 24)) := (Below.refl _ _).alloc (Nat.le_refl _) _
  have C1 := hide (sorder_any (some ⟨w.heap.size, 0, none⟩) 4 4 oneT _ (hr0.more (by simp)) (by omega))
  rw [(ord_some oneT_ok oneT_order).1, (ord_some oneT_ok oneT_order).2, errV_zero] at C1
  have HB0 := hide hb0
  clear hb0 hr0
  go_enter Try.func23, Try.ntmps23
  go_wp2_with fail
  refine (unhide C1).mono ?_
  rintro e w1 ⟨v1, k1, rfl, ho1, hb1⟩
  obtain ⟨A1, c1, rfl⟩ := own_slice ho1
  obtain rfl : k1 = 2 := by rw [← own_ilen ho1]; rfl
  have hbw1 := (unhide HB0).trans (hb1.mono (unhide HB0).size)
  have hd1 := rd_own ho1
  obtain ⟨b, off, x, he, _, hx, q0⟩ := hd1.int (k := 0) (by omega)
  cases he
  cases hx
  rw [Nat.add_zero] at q0
  clear C1 hb1 ho1 hd1 HB0
  go_wp2
  go_ret
  exact ⟨rfl, hbw1⟩
end Go.Proofs.Ytkpnpkikonlmpaa

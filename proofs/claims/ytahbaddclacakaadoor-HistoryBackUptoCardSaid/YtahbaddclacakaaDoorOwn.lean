
/-
  CONTRACTS of history.Own, slices.Equal at ops, odds.SameDeals.
-/
import Derived.Test.YtahbaddclacakaaDoorAlikeP
import Derived.Test.YtahbaddclacakaaDoorN0

namespace Go.Proofs.YtahbaddclacakaaDoor
open Go.RowKit

theorem own1_any (o : HOp) (tx : Int) (g : Nat) (w : World) (hB : Blk w g 3 [.int .i64 tx]) :
    Calls Tryd.prog 61 #[o.val, .pointer (some ⟨g, 0, none⟩)] w fun e w' => e = .returned (.bool (!decide (o.tx = tx))) ∧ Below w.heap.size w w' := by
  obtain ⟨a, what, item⟩ := o
  have hlt := hB.lt
  have c0 : (w.alloc (.cells #[.int .i64 a, .int .i64 what, .int .i64 item] 28)).cell? ⟨g, 0, none⟩ = some (.int .i64 tx) := (hB.alloc _).cellS rfl
  have HR : Hid ((a != tx) = !decide (a = tx)) := Lib.hid (by by_cases h : a = tx <;> simp [h])
  clear hB
  unfold HOp.val
  go_enter Tryd.func61, Tryd.ntmps61
  go_wp2
  go_ret
  exact ⟨ret_bool HR.out, (Below.refl _ _).alloc (Nat.le_refl _) _⟩
theorem call_own1 (args : Array Value) (w : World) : (callFunc 61 args).run Tryd.prog w = .ok (.enter 61 args) w := by kernel_rfl

set_option maxHeartbeats 1000000 in
theorem own_any (A : Option Addr) (n cap : Nat) (h : List HOp) (tx : Int) (w : World) (hr : Rd w w.heap.size 3 A n (cellsH h)) (hm : n ≤ 1000000) :
    Calls Tryd.prog 43 #[.slice A n cap, .int .i64 tx] w fun e w' => ∃ A' m c', e = .returned (.slice A' m c') ∧ w'.ownsRow w.heap.size 28 3 (.slice A' m c') m (cellsH (ownL h tx)) ∧ Below w.heap.size w w' := by
  have hB := Blk.new w 3 [.int .i64 tx]
  have hb0 : Below w.heap.size w (w.alloc (.cells #[.int .i64 tx] 3)) := (Below.refl _ _).alloc (Nat.le_refl _) _
  have C1 := hide (clone_op A n cap (cellsH h) _ ((hr.below hb0).more hb0.size) (oneH h) (by omega))
  have HB := hide hB
  have HB0 := hide hb0
  clear hB hb0
  go_enter Tryd.func43, Tryd.ntmps43
  go_wp2_with fail
  refine (unhide C1).mono ?_
  rintro e w1 ⟨v1, rfl, hown1, hb1⟩
  obtain ⟨A1, c1, rfl⟩ := own_slice hown1
  have hz1 : w.heap.size + 1 ≤ w1.heap.size := by have := hb1.size; simpa using this
  have hbw1 := (unhide HB0).trans (hb1.mono (unhide HB0).size)
  have hB1 := (unhide HB).below hb1 (unhide HB).lt
  have C2 := hide (deleteFunc_op A1 n c1 (w.heap.size + 1) h 61 #[.pointer (some ⟨w.heap.size, 0, none⟩)] (fun o => !decide (o.tx = tx)) w1 (own_mono hown1 (by simp)) hz1 (by omega) call_own1 (fun o ho w' hw' => own1_any o tx w.heap.size w' (hB1.below hw' (by omega))))
  clear C1 hb1 HB HB0 hown1
  go_wp2_with fail
  refine (unhide C2).mono ?_
  rintro e w2 ⟨m, rfl, hown2, hb2⟩
  have HQ : Hid (cellsH (ownL h tx) = cellsH (h.filter fun o => !!decide (o.tx = tx))) := Lib.hid (by unfold ownL; simp)
  rw [← HQ.out] at hown2
  have hbw2 := hbw1.trans (hb2.mono (by omega))
  clear C2 hb2 HQ
  go_wp2
  go_ret
  exact ⟨A1, m, c1, rfl, own_mono hown2 (by omega), hbw2⟩

/-! ### slices.Equal at ops. -/
/-! ### odds.SameDeals -/
theorem ownL_len (h : List HOp) (t : Int) : (ownL h t).length ≤ h.length := List.length_filter_le _ _
def sameGo (h g : List HOp) : Nat → Int → Bool
  | 0, _ => true
  | r + 1, t => decide (ownL h t = ownL g t) && sameGo h g r (t + 1)
theorem sameGo_eq (h g : List HOp) : sameGo h g 6 1 = sameOwnB h g := by
  unfold sameOwnB
  simp only [sameGo, List.all_cons, List.all_nil]
  rfl
end Go.Proofs.YtahbaddclacakaaDoor

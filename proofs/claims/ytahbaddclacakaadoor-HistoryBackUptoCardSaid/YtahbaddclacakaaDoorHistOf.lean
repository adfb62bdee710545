
/-
  CONTRACT of history.Of where the ops and the number are right.
-/
import Derived.Test.YtahbaddclacakaaDoorOwn
import Derived.Test.YtahbaddclacakaaDoorCheck
import Derived.Test.YtahbaddclacakaaDoorDone

namespace Go.Proofs.YtahbaddclacakaaDoor
open Go.RowKit

set_option maxRecDepth 100000 in
set_option maxHeartbeats 1000000 in
theorem of_ok (A : Option Addr) (n cap : Nat) (h : List HOp) (t : Int) (w : World) (hr : Rd w w.heap.size 3 A n (cellsH h)) (hok : okH h) (ht : 1 ≤ t ∧ t ≤ 6) :
    Calls Tryd.prog 25 #[.slice A n cap, .int .i64 t] w fun e w' => ∃ v m, e = .returned (.tuple #[v, .nilIface]) ∧ w'.ownsRow w.heap.size 28 3 v m (cellsH (ownL h t)) ∧ Below w.heap.size w w' := by
  have hn : n ≤ 40 := by rw [← hr.hlen]; exact okH_len hok
  have C0 := hide (right_h A n cap h w hr (by omega))
  have CO := hide (fun w1 (hb : Below w.heap.size w w1) => own_any A n cap h t w1 ((hr.below hb).more hb.size) (by omega))
  have CT := hide (fun w1 => tx_any t w1)
  rw [show (checkF h).2 = 0 from hok, errV_zero] at C0
  rw [show txB t = true by unfold txB; simp; omega] at CT
  clear hr hok
  go_enter Tryd.func25, Tryd.ntmps25
  go_wp2_with fail
  refine (unhide C0).mono ?_
  rintro e w1 ⟨rfl, hb1⟩
  clear C0
  go_wp2_with fail
  refine (unhide CT w1).mono ?_
  rintro e w2 ⟨rfl, rfl⟩
  have C1 := hide (unhide CO w1 hb1)
  clear CO CT
  go_wp2_with fail
  refine (unhide C1).mono ?_
  rintro e w3 ⟨A3, m3, c3, rfl, ho3, hb3⟩
  go_wp2
  go_ret2
  exact ⟨_, m3, rfl, own_mono ho3 hb1.size, hb1.trans (hb3.mono hb1.size)⟩
end Go.Proofs.YtahbaddclacakaaDoor

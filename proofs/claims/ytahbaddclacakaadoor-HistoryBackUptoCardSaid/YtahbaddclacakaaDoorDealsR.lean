
/-
  CONTRACT of history.Deals where the ops are right.
-/
import Derived.Test.YtahbaddclacakaaDoorM3

namespace Go.Proofs.YtahbaddclacakaaDoor
open Go.RowKit

set_option maxHeartbeats 400000 in
theorem hdeals_any (A : Option Addr) (n cap : Nat) (h : List HOp) (w : World) (hr : Rd w w.heap.size 3 A n (cellsH h)) (hok : okH h) :
    Calls Tryd.prog 24 #[.slice A n cap] w fun e w' => ∃ v m, e = .returned (.tuple #[v, .nilIface]) ∧ w'.ownsRow w.heap.size 3 1 v m (cellsI (dealsL h)) ∧ Below w.heap.size w w' := by
  have hn : n ≤ 40 := by rw [← hr.hlen]; exact okH_len hok
  have C := right_h A n cap h w hr (by omega)
  have HP := hide (fun w1 (hb : Below w.heap.size w w1) => dealsOf_any A n cap h w1 ((hr.below hb).more hb.size) (by omega))
  rw [show (checkF h).2 = 0 from hok, errV_zero] at C
  have HC := hide C
  clear C hok hr
  go_enter Tryd.func24, Tryd.ntmps24
  go_wp2_with fail
  refine (unhide HC).mono ?_
  rintro e w1 ⟨rfl, hb1⟩
  have HP1 := hide (unhide HP w1 hb1)
  clear HP HC
  go_wp2_with fail
  refine (unhide HP1).mono ?_
  rintro e w2 ⟨v2, m2, rfl, ho2, _, hb2⟩
  obtain ⟨A2, c2, rfl⟩ := own_slice ho2
  have HQ := hide (And.intro (own_mono ho2 hb1.size) (hb1.trans (hb2.mono hb1.size)))
  clear ho2 hb1 hb2 HP1
  go_wp2
  go_ret2
  exact ⟨_, m2, rfl, (unhide HQ).1, (unhide HQ).2⟩
end Go.Proofs.YtahbaddclacakaaDoor

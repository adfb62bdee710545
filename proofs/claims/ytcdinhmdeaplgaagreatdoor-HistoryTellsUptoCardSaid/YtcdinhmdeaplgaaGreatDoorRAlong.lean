
/-
  CONTRACTS of the reference's laneref1.Deals, Along.
-/
import Derived.Test.YtcdinhmdeaplgaaGreatDoorQ26
import Derived.Test.YtcdinhmdeaplgaaGreatDoorQ15
import Derived.Test.YtcdinhmdeaplgaaGreatDoorQ28
import Derived.Test.YtcdinhmdeaplgaaGreatDoorQ20

namespace Go.Proofs.YtcdinhmdeaplgaaGreatDoor
open Go.RowKit

theorem deals_le {h : List HOp} : (dealsL h).length ≤ h.length := by
  have := nodup_sub_len (dealsL h) (h.map (·.tx)) (dealsL_nodup h) fun x hx => by
    obtain ⟨o, h1, h2⟩ := mem_dealsL.1 hx
    exact List.mem_map.2 ⟨o, h1, h2⟩
  simpa using this
set_option maxRecDepth 100000 in
set_option maxHeartbeats 1000000 in
theorem rdeals_any (A : Option Addr) (n cap : Nat) (h : List HOp) (w : World) (hr : Rd w w.heap.size 3 A n (cellsH h)) (hm : n ≤ 100000) :
    Calls Tryz.prog 7 #[.slice A n cap] w fun e w' => ∃ v, e = .returned v ∧ w'.ownsRow w.heap.size 3 1 v (dealsL h).length (cellsI (dealsL h)) ∧ Below w.heap.size w w' := by
  have HL := Lib.hid hr.hlen
  go_enter Tryz.func7, Tryz.ntmps7
  go_wp2
  go_loopw [3, 4] (fun s3 s4 wr => ∃ k : Nat, k ≤ n ∧ s4 = .int .i64 k ∧ wr.ownsRow w.heap.size 3 1 s3 (dealsL (h.take k)).length (cellsI (dealsL (h.take k))) ∧ Below w.heap.size w wr) (fun _ s4 _ => n - (intOf s4).toNat)
  case atStart => exact ⟨0, Nat.zero_le _, rfl, World.ownsRow_nil _ _ _ _, Below.refl _ _⟩
  case round =>
    obtain ⟨k, hk, rfl, ho3, hbw⟩ := hrel
    obtain ⟨A3, c3, rfl⟩ := own_slice ho3
    by_cases hlt : k < n
    · obtain ⟨b, off, o, he, hb, ho, c0, c1, c2⟩ := (hr.below hbw).op (k := k) hlt
      cases he
      have HS := Lib.hid (dealsL_snoc ho)
      have hlen : (dealsL (h.take k)).length ≤ 100000 := by
        have h1 := deals_le (h := h.take k)
        rw [List.length_take] at h1
        omega
      obtain ⟨o1, o2, o3⟩ := o
      simp only at c0 HS
      generalize dealsL (h.take k) = D at *
      have C := hide (rput_any A3 D.length c3 D o1 wr (rd_own ho3) (by omega))
      clear ho c1 c2 ho3
      go_wp2_with fail
      refine (unhide C).mono ?_
      rintro e w4 ⟨v4, rfl, ho4, hb4⟩
      rw [← HS.out] at ho4
      have ho5 := own_mono ho4 hbw.size
      have hbw4 := hbw.trans (hb4.mono hbw.size)
      clear C ho4 hb4
      go_wp2
      go_roundw
      case rel => exact ⟨k + 1, by omega, by go_num, ho5, hbw4⟩
      case measure => simp [intOf]; omega
    · have hT : h.take k = h := List.take_of_length_le (by rw [HL.out]; omega)
      generalize hq : (dealsL (h.take k)).length = q at *
      rw [hT] at ho3 hq
      go_wp2
      go_ret
      exact ⟨_, rfl, by rw [hq]; exact ho3, hbw⟩

end Go.Proofs.YtcdinhmdeaplgaaGreatDoor

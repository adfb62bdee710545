
/-
  CONTRACTS of the reference's laneref1.Deals, Along.
-/
import Derived.Test.YtkpnpkikonlmpaaDoorM2
import Derived.Test.YtkpnpkikonlmpaaDoorN3
import Derived.Test.YtkpnpkikonlmpaaDoorRPlay
import Derived.Test.YtkpnpkikonlmpaaDoorROdds
import Derived.Test.YtkpnpkikonlmpaaDoorM3

namespace Go.Proofs.YtkpnpkikonlmpaaDoor
open Go.RowKit

theorem deals_le {h : List HOp} : (dealsL h).length ≤ h.length := by
  have := nodup_sub_len (dealsL h) (h.map (·.tx)) (dealsL_nodup h) fun x hx => by
    obtain ⟨o, h1, h2⟩ := mem_dealsL.1 hx
    exact List.mem_map.2 ⟨o, h1, h2⟩
  simpa using this
set_option maxRecDepth 100000 in
set_option maxHeartbeats 1000000 in
theorem rdeals_any (A : Option Addr) (n cap : Nat) (h : List HOp) (w : World) (hr : Rd w w.heap.size 3 A n (cellsH h)) (hm : n ≤ 100000) :
    Calls Tryd.prog 23 #[.slice A n cap] w fun e w' => ∃ v, e = .returned v ∧ w'.ownsRow w.heap.size 3 1 v (dealsL h).length (cellsI (dealsL h)) ∧ Below w.heap.size w w' := by
  have HL := Lib.hid hr.hlen
  go_enter Tryd.func23, Tryd.ntmps23
  go_wp2
  go_loopw [3, 4] (fun s3 s4 wr => ∃ k : Nat, k ≤ n ∧ s4 = .int .i64 k ∧ wr.ownsRow w.heap.size 3 1 s3 (dealsL (h.take k)).length (cellsI (dealsL (h.take k))) ∧ Below w.heap.size w wr) (fun _ s4 _ => n - (intOf s4).toNat)
  case atStart => exact ⟨0, Nat.zero_le _, rfl, World.ownsRow_nil _ _ _ _, Below.refl _ _⟩
  case round =>
    obtain ⟨k, hk, rfl, ho3, hbw⟩ := hrel
    obtain ⟨A3, c3, rfl⟩ := own_slice ho3
    by_cases hlt : k < n
    · obtain ⟨b, off, o, he, hb, ho, c0, c1, c2⟩ := (hr.below hbw).op (k := k) hlt
      cases he
      have HS := Lib.hid (dealsL_snoc ho)
      have hlen : (dealsL (h.take k)).length ≤ 100000 := by
        have h1 := deals_le (h := h.take k)
        rw [List.length_take] at h1
        omega
      obtain ⟨o1, o2, o3⟩ := o
      simp only at c0 HS
      generalize dealsL (h.take k) = D at *
      have C := hide (rput_any A3 D.length c3 D o1 wr (rd_own ho3) (by omega))
      clear ho c1 c2 ho3
      go_wp2_with fail
      refine (unhide C).mono ?_
      rintro e w4 ⟨v4, rfl, ho4, hb4⟩
      rw [← HS.out] at ho4
      have ho5 := own_mono ho4 hbw.size
      have hbw4 := hbw.trans (hb4.mono hbw.size)
      clear C ho4 hb4
      go_wp2
      go_roundw
      case rel => exact ⟨k + 1, by omega, by go_num, ho5, hbw4⟩
      case measure => simp [intOf]; omega
    · have hT : h.take k = h := List.take_of_length_le (by rw [HL.out]; omega)
      generalize hq : (dealsL (h.take k)).length = q at *
      rw [hT] at ho3 hq
      go_wp2
      go_ret
      exact ⟨_, rfl, by rw [hq]; exact ho3, hbw⟩

set_option maxRecDepth 100000 in
set_option maxHeartbeats 2000000 in
theorem ralong_any (A B : Option Addr) (n m c d : Nat) (h : List HOp) (o : List Int) (w : World) (hr : Rd w w.heap.size 3 A n (cellsH h)) (ho : Rd w w.heap.size 1 B m (cellsI o)) (hn : n ≤ 1000) (hm : m ≤ 1000) :
    Calls Tryd.prog 24 #[.slice A n c, .slice B m d] w fun e w' => ∃ v q, e = .returned v ∧ w'.ownsRow w.heap.size 46 3 v q (cellsH (alongL h o)) ∧ q ≤ m * n ∧ Below w.heap.size w w' := by
  have HL := Lib.hid ho.ilen
  have CO := hide (fun t w1 (hb : Below w.heap.size w w1) => rof_any A n c h t w1 ((hr.below hb).more hb.size) (by omega))
  go_enter Tryd.func24, Tryd.ntmps24
  go_wp2
  go_loopw [5, 6] (fun s5 s6 wr => ∃ k q : Nat, k ≤ m ∧ q ≤ k * n ∧ s6 = .int .i64 k ∧ wr.ownsRow w.heap.size 46 3 s5 q (cellsH (alongL h (o.take k))) ∧ Below w.heap.size w wr) (fun _ s6 _ => m - (intOf s6).toNat)
  case atStart => exact ⟨0, 0, Nat.zero_le _, Nat.zero_le _, rfl, World.ownsRow_nil _ _ _ _, Below.refl _ _⟩
  case round =>
    obtain ⟨k, q, hk, hq, rfl, ho5, hbw⟩ := hrel
    obtain ⟨A5, c5, rfl⟩ := own_slice ho5
    by_cases hlt : k < m
    · obtain ⟨b, off, x, he, hb, hx, c0⟩ := (ho.below hbw).int (k := k) hlt
      cases he
      have HS := Lib.hid (alongL_snoc h hx)
      have C1 := hide (unhide CO x wr hbw)
      have hz := hbw.size
      clear hx
      have hkn : k * n ≤ 1000 * 1000 := Nat.mul_le_mul (by omega) hn
      have hk1 : (k + 1) * n = k * n + n := Nat.succ_mul k n
      go_wp2_with fail
      refine (unhide C1).mono ?_
      rintro e w2 ⟨v2, m2, rfl, ho2, hm2, hb2⟩
      obtain ⟨A2, c2, rfl⟩ := own_slice ho2
      have ho5' := own_below ho5 hb2 (Nat.le_refl _)
      have hbw2 := hbw.trans (hb2.mono hbw.size)
      have hd2 := rd_own ho2
      clear C1 ho5 ho2 hb2
      go_wp2_with (at_builtin; refine wpList_app rfl (.tmp 20) (.tmp 21) _ rfl w.heap.size slt_op (n := q) (xs := cellsH (alongL h (o.take k))) (m := m2) (news := cellsH (ownL h x)) rfl ho5' rfl hd2 (oneH _) (by omega) hbw2.size ?_; intro v7 w7 hown7 hg7 hb7 hat7 hne7)
      have hb8 := hbw2.trans hb7
      rw [← cellsH_append, ← HS.out] at hown7
      go_wp2
      go_roundw
      case rel => exact ⟨k + 1, q + m2, by omega, by omega, by go_num, hown7, hb8⟩
      case measure => simp [intOf]; omega
    · have HT : Hid (o.take k = o) := Lib.hid (List.take_of_length_le (by rw [HL.out]; omega))
      rw [HT.out] at ho5
      obtain rfl : k = m := by omega
      go_wp2
      go_ret
      exact ⟨_, _, rfl, ho5, hq, hbw⟩

end Go.Proofs.YtkpnpkikonlmpaaDoor


/-
  CONTRACT of laneref1.Of: a deal's ops.
-/
import Derived.Test.YtmamejkdheigjaaGreatDoorAlikeP
import Derived.Test.YtmamejkdheigjaaGreatDoorN0

namespace Go.Proofs.YtmamejkdheigjaaGreatDoor
open Go.RowKit

/-! ### A deal's ops. -/
theorem ownL_snoc {h : List HOp} {k : Nat} {o : HOp} (hk : h[k]? = some o) (t : Int) : ownL (h.take (k + 1)) t = if o.tx = t then ownL (h.take k) t ++ [o] else ownL (h.take k) t := by
  rw [takeSnoc hk, ownL_append]
  unfold ownL
  by_cases e : o.tx = t
  · rw [if_pos e, List.filter_cons_of_pos (by simpa using e)]; rfl
  · rw [if_neg e, List.filter_cons_of_neg (by simpa using e)]; simp
set_option maxRecDepth 100000 in
set_option maxHeartbeats 2000000 in
theorem rof_any (A : Option Addr) (n cap : Nat) (h : List HOp) (tx : Int) (w : World) (hr : Rd w w.heap.size 3 A n (cellsH h)) (hm : n ≤ 1000000) :
    Calls Tryz.prog 13 #[.slice A n cap, .int .i64 tx] w fun e w' => ∃ v m, e = .returned v ∧ w'.ownsRow w.heap.size 54 3 v m (cellsH (ownL h tx)) ∧ m ≤ n ∧ Below w.heap.size w w' := by
  have HL := Lib.hid hr.hlen
  go_enter Tryz.func13, Tryz.ntmps13
  go_wp2
  go_loopw [5, 6] (fun s5 s6 wr => ∃ k m : Nat, k ≤ n ∧ m ≤ k ∧ s6 = .int .i64 k ∧ wr.ownsRow w.heap.size 54 3 s5 m (cellsH (ownL (h.take k) tx)) ∧ Below w.heap.size w wr) (fun _ s6 _ => n - (intOf s6).toNat)
  case atStart => exact ⟨0, 0, Nat.zero_le _, Nat.le_refl _, rfl, World.ownsRow_nil _ _ _ _, Below.refl _ _⟩
  case round =>
    obtain ⟨k, m, hk, hmk, rfl, ho5, hbw⟩ := hrel
    obtain ⟨A5, c5, rfl⟩ := own_slice ho5
    by_cases hlt : k < n
    · obtain ⟨b, off, o, he, hb, ho, c0, c1, c2⟩ := (hr.below hbw).op (k := k) (by omega)
      cases he
      have HS := Lib.hid (ownL_snoc ho tx)
      clear ho
      have hz := hbw.size
      by_cases ht : o.tx = tx
      · have HS2 : Hid (ownL (h.take (k + 1)) tx = ownL (h.take k) tx ++ [o]) := Lib.hid (by rw [HS.out, if_pos ht])
        obtain ⟨o1, o2, o3⟩ := o
        simp only at c0 c1 c2 ht
        subst ht
        clear HS
        go_wp2_with (at_builtin; refine wpList_app rfl (.tmp 20) (.tmp 25) _ rfl w.heap.size slt_op (n := m) (xs := cellsH (ownL (h.take k) o1)) (m := 1) (news := cellsH [⟨o1, o2, o3⟩]) rfl (own_alloc ho5 _) rfl (rd_new' _ _ (cellsH [⟨o1, o2, o3⟩]) (by simp) rfl) (oneH _) (by omega) (by simp; omega) ?_; intro v6 w6 hown6 hg6 hb6 hat6 hne6)
        have hb6' := (hbw.alloc hz (.cells (cellsH [⟨o1, o2, o3⟩]).toArray 54)).trans hb6
        rw [← cellsH_append, ← HS2.out] at hown6
        go_roundw
        case rel => exact ⟨k + 1, m + 1, by omega, by omega, by go_num, hown6, hb6'⟩
        case measure => simp [intOf]; omega
      · have HS2 : Hid (ownL (h.take (k + 1)) tx = ownL (h.take k) tx) := Lib.hid (by rw [HS.out, if_neg ht])
        have htb : (o.tx == tx) = false := by simpa using ht
        clear HS ht
        go_wp2
        go_roundw
        case rel => exact ⟨k + 1, m, by omega, by omega, by go_num, by rw [HS2.out]; exact ho5, hbw⟩
        case measure => simp [intOf]; omega
    · have HT : Hid (h.take k = h) := Lib.hid (List.take_of_length_le (by rw [HL.out]; omega))
      go_wp2
      go_ret
      exact ⟨_, _, rfl, by rw [HT.out] at ho5; exact ho5, by omega, hbw⟩

end Go.Proofs.YtmamejkdheigjaaGreatDoor

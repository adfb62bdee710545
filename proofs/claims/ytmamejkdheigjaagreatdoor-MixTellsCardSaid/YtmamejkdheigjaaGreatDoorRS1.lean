
/-
  CONTRACT of the reference's laneref1.Edges: the edges between deals that are done.
  CONTRACTS of the reference's laneref1.Deals, Along.
  CONTRACT of the reference's laneref1.Order.
-/
import Derived.Test.YtmamejkdheigjaaGreatDoorRR1
import Derived.Test.YtmamejkdheigjaaGreatDoorM1
import Derived.StillTailTactics
import Derived.Test.YtmamejkdheigjaaGreatDoorM2
import Derived.Test.YtmamejkdheigjaaGreatDoorN3
import Derived.Test.YtmamejkdheigjaaGreatDoorM3
import Derived.Test.YtmamejkdheigjaaGreatDoorSE1

namespace Go.Proofs.YtmamejkdheigjaaGreatDoor
open Go.RowKit

theorem sortGo_step (acc : List (Int × Int)) (x : Int × Int) (l : List (Int × Int)) : sortGo ltE acc (x :: l) = sortGo ltE (insS ltE x acc) l := rfl
def rowE (a : HOp) (l : List HOp) : List (Int × Int) := (l.filter (oddB a)).map fun b => (a.tx, b.tx)
theorem rowE_step {a b : HOp} {l t : List HOp} (e : l = b :: t) : rowE a l = if oddB a b = true then (a.tx, b.tx) :: rowE a t else rowE a t := by
  rw [e]
  unfold rowE
  cases h : oddB a b
  · rw [List.filter_cons_of_neg (by simp [h])]; simp
  · rw [List.filter_cons_of_pos h]; simp
theorem edgeP_step {a : HOp} {l t : List HOp} (e : l = a :: t) : edgeP l = rowE a t ++ edgeP t := by rw [e, edgeP]; rfl

set_option maxRecDepth 100000 in
set_option maxHeartbeats 8000000 in
theorem redges_any (A : Option Addr) (n cap : Nat) (h : List HOp) (w : World) (hr : Rd w w.heap.size 3 A n (cellsH h)) (hok : okH h) :
    Calls Tryz.prog 18 #[.slice A n cap] w fun e w' => ∃ A' m c', e = .returned (.slice A' m c') ∧ Rd w' w'.heap.size 2 A' m (dcells (edgesF h)) ∧ m ≤ 1700 ∧ Below w.heap.size w w' := by
  have hdl : (doneL h).length ≤ 40 := by
    have h1 := okH_len hok
    have := List.length_filter_le (fun o : HOp => (flagsF h).getD o.tx.toNat false) h
    unfold doneL; omega
  have hit : ∀ o ∈ doneL h, 0 ≤ o.item := fun o ho => by
    obtain ⟨_, _, _, _, h5, h6⟩ := rightB_get (okH_right hok o ((mem_doneL (okH_tx hok)).1 ho).1)
    by_cases hw : o.what < 3
    · have := h5 hw; omega
    · have := h6 (by omega); omega
  have HIT := Lib.hid hit
  have C := hide (rdone_any A n cap h w hr hok)
  have HF : Hid (edgesF h = sortGo ltE [] (edgeP (doneL h))) := Lib.hid rfl
  clear hit hok
  generalize edgesF h = R at *
  generalize doneL h = D at *
  go_enter Tryz.func18, Tryz.ntmps18
  go_wp2_with fail
  refine (unhide C).mono ?_
  rintro e w1 ⟨A1, n1, c1, rfl, ho1, hb1⟩
  have hd1 := rd_own ho1
  have hl1 := hd1.hlen
  have hn40 : n1 ≤ 40 := by omega
  have HRD := hide (fun w2 (hb : Below w1.heap.size w1 w2) => hd1.below hb)
  have HL1 := Lib.hid hl1
  clear C ho1 hd1 hl1 hdl
  go_wp2
  go_loopw [3, 4, 5, 6] (fun s3 s4 _ _ wr => ∃ (i m c3 : Nat) (A3 : Option Addr) (acc : List (Int × Int)), i ≤ n1 ∧ s4 = .int .i64 i ∧ s3 = .slice A3 m c3 ∧ m ≤ c3 ∧ Rd wr wr.heap.size 2 A3 m (dcells acc) ∧ m ≤ i * 40 ∧ Hid (R = sortGo ltE acc (edgeP (D.drop i))) ∧ Below w1.heap.size w1 wr) (fun _ s4 _ _ _ => n1 - (intOf s4).toNat)
  case atStart => exact ⟨0, 0, 0, none, [], Nat.zero_le _, rfl, rfl, Nat.le_refl _, Rd.nil, Nat.zero_le _, HF, Below.refl _ _⟩
  case round =>
    obtain ⟨i, m, c3, A3, acc, hi, rfl, rfl, hmc, hd3, hmi, HE, hbw⟩ := hrel
    by_cases hlt : i < n1
    · have hoi : D[i]? = some (D[i]'(by rw [HL1.out]; exact hlt)) := List.getElem?_eq_getElem _
      generalize D[i]'(by rw [HL1.out]; exact hlt) = a at *
      have HOI := Lib.hid hoi
      have ha0 := HIT.out a (List.mem_of_getElem? hoi)
      have HE2 : Hid (R = sortGo ltE acc (rowE a (D.drop (i + 1)) ++ edgeP (D.drop (i + 1)))) := Lib.hid (by rw [HE.out, edgeP_step (drop_at hoi)])
      clear hoi HE
      obtain ⟨wo, rfl⟩ : ∃ wo : World, wo = wr := ⟨_, rfl⟩
      go_wp2
      go_loopw [3, 5, 6] (fun s3 s5 _ wx => ∃ (k m c3 : Nat) (A3 : Option Addr) (acc : List (Int × Int)), i + 1 ≤ k ∧ k ≤ n1 ∧ s5 = .int .i64 k ∧ s3 = .slice A3 m c3 ∧ m ≤ c3 ∧ Rd wx wx.heap.size 2 A3 m (dcells acc) ∧ m ≤ i * 40 + k ∧ Hid (R = sortGo ltE acc (rowE a (D.drop k) ++ edgeP (D.drop (i + 1)))) ∧ Below w1.heap.size w1 wx) (fun _ s5 _ _ => n1 - (intOf s5).toNat)
      case atStart => exact ⟨i + 1, m, c3, A3, acc, Nat.le_refl _, by omega, by go_num, rfl, hmc, hd3, by omega, HE2, hbw⟩
      case round =>
        clear HE2 hd3 hbw hmc hmi
        obtain ⟨k, m, c3, A3, acc, hk1, hk2, rfl, rfl, hmc, hd3, hmk, HE, hbw⟩ := hrel
        by_cases hlk : k < n1
        · obtain ⟨b, off, o1, he, hb, ho1, c0, c1', c2⟩ := (unhide HRD wr hbw).op (k := i) hlt
          cases he
          rw [HOI.out] at ho1
          cases ho1
          obtain ⟨_, _, o2, he, _, ho2, d0, d1, d2⟩ := (unhide HRD wr hbw).op (k := k) hlk
          cases he
          have HS := Lib.hid (rowE_step (a := a) (drop_at ho2))
          have HO2 := Lib.hid ho2
          clear ho2
          have CA := hide (rodds_any a o2 ha0 wr.drew)
          have hwz : wr.drew.heap.size = wr.heap.size := rfl
          obtain ⟨p1, p2, p3⟩ := o2
          obtain ⟨a1, a2, a3⟩ := a
          simp only at c0 c1' c2 d0 d1 d2
          have n0 : (0 : Int) ≤ (i : Int) := by omega
          have n1' : (i : Int) < (n1 : Int) := by omega
          have n2 : (0 : Int) ≤ (k : Int) := by omega
          have n3 : (k : Int) < (n1 : Int) := by omega
          generalize oddB ⟨a1, a2, a3⟩ ⟨p1, p2, p3⟩ = q at *
          have hbd : Below w1.heap.size w1 wr.drew := hbw.drew
          have hdd : Rd wr.drew wr.drew.heap.size 2 A3 m (dcells acc) := hd3
          unfold HOp.val at CA
          simp only at CA
          go_wp2
          go_still_tail 8, (by kernel_rfl)
          change wpList _ _ _ _ _ wr.drew
          go_wp2_with fail
          refine (unhide CA).mono ?_
          rintro e wy ⟨rfl, hby⟩
          have hbwy := hbd.trans (hby.mono hbd.size)
          have hd3y := (hdd.below hby).more hby.size
          obtain ⟨b', off', o1, he, hb', ho1, c0', _, _⟩ := (unhide HRD wy hbwy).op (k := i) hlt
          cases he
          rw [HOI.out] at ho1
          cases ho1
          obtain ⟨_, _, o2, he, _, ho2, d0', _, _⟩ := (unhide HRD wy hbwy).op (k := k) hlk
          cases he
          rw [HO2.out] at ho2
          cases ho2
          clear hby hbw hd3 hdd hbd CA hwz c0 c1' c2 d0 d1 d2
          cases q
          · have HE3 : Hid (R = sortGo ltE acc (rowE ⟨a1, a2, a3⟩ (D.drop (k + 1)) ++ edgeP (D.drop (i + 1)))) := Lib.hid (by rw [HE.out, HS.out]; rfl)
            clear HE HS
            go_wp2
            go_roundw
            case rel => exact ⟨k + 1, m, c3, A3, acc, by omega, by omega, by go_num, rfl, hmc, hd3y, by omega, HE3, hbwy⟩
            case measure => simp [intOf]; omega
          · have HE3 : Hid (R = sortGo ltE (insS ltE (a1, p1) acc) (rowE ⟨a1, a2, a3⟩ (D.drop (k + 1)) ++ edgeP (D.drop (i + 1)))) := Lib.hid (by rw [HE.out, HS.out]; rfl)
            have CAdd := hide (radd_any A3 m c3 acc a1 p1 wy.drew hd3y (by omega) hmc)
            have hbd : Below w1.heap.size w1 wy.drew := hbwy.drew
            have hwz : wy.drew.heap.size = wy.heap.size := rfl
            clear HE HS
            go_wp2
            go_still_tail 12, (by kernel_rfl)
            change wpList _ _ _ _ _ wy.drew
            go_wp2_with fail
            refine (unhide CAdd).mono ?_
            rintro e wz ⟨A', n', c', rfl, hnc, hdz, hnn, hbz⟩
            have hbwz := hbd.trans (hbz.mono hbd.size)
            go_wp2
            go_roundw
            case rel => exact ⟨k + 1, n', c', A', _, by omega, by omega, by go_num, rfl, hnc, hdz, by omega, HE3, hbwz⟩
            case measure => simp [intOf]; omega
        · have HE2 : Hid (R = sortGo ltE acc (edgeP (D.drop (i + 1)))) := Lib.hid (by
            have e : D.drop k = [] := drop_end (by rw [HL1.out]; omega)
            rw [HE.out, e]; rfl)
          clear HE
          go_wp2
          go_roundw
          case rel => exact ⟨i + 1, m, c3, A3, acc, by omega, by go_num, rfl, hmc, hd3, by omega, HE2, hbw⟩
          case measure => simp [intOf]; omega
    · have HT : Hid (R = acc) := Lib.hid (by rw [HE.out, drop_end (by rw [HL1.out]; omega)]; rfl)
      go_wp2
      go_ret
      exact ⟨_, _, _, rfl, by rw [HT.out]; exact hd3, by omega, hb1.trans (hbw.mono hb1.size)⟩
end Go.Proofs.YtmamejkdheigjaaGreatDoor


namespace Go.Proofs.YtmamejkdheigjaaGreatDoor
open Go.RowKit

theorem deals_le {h : List HOp} : (dealsL h).length ≤ h.length := by
  have := nodup_sub_len (dealsL h) (h.map (·.tx)) (dealsL_nodup h) fun x hx => by
    obtain ⟨o, h1, h2⟩ := mem_dealsL.1 hx
    exact List.mem_map.2 ⟨o, h1, h2⟩
  simpa using this
set_option maxRecDepth 100000 in
set_option maxHeartbeats 1000000 in
theorem rdeals_any (A : Option Addr) (n cap : Nat) (h : List HOp) (w : World) (hr : Rd w w.heap.size 3 A n (cellsH h)) (hm : n ≤ 100000) :
    Calls Tryz.prog 16 #[.slice A n cap] w fun e w' => ∃ v, e = .returned v ∧ w'.ownsRow w.heap.size 3 1 v (dealsL h).length (cellsI (dealsL h)) ∧ Below w.heap.size w w' := by
  have HL := Lib.hid hr.hlen
  go_enter Tryz.func16, Tryz.ntmps16
  go_wp2
  go_loopw [3, 4] (fun s3 s4 wr => ∃ k : Nat, k ≤ n ∧ s4 = .int .i64 k ∧ wr.ownsRow w.heap.size 3 1 s3 (dealsL (h.take k)).length (cellsI (dealsL (h.take k))) ∧ Below w.heap.size w wr) (fun _ s4 _ => n - (intOf s4).toNat)
  case atStart => exact ⟨0, Nat.zero_le _, rfl, World.ownsRow_nil _ _ _ _, Below.refl _ _⟩
  case round =>
    obtain ⟨k, hk, rfl, ho3, hbw⟩ := hrel
    obtain ⟨A3, c3, rfl⟩ := own_slice ho3
    by_cases hlt : k < n
    · obtain ⟨b, off, o, he, hb, ho, c0, c1, c2⟩ := (hr.below hbw).op (k := k) hlt
      cases he
      have HS := Lib.hid (dealsL_snoc ho)
      have hlen : (dealsL (h.take k)).length ≤ 100000 := by
        have h1 := deals_le (h := h.take k)
        rw [List.length_take] at h1
        omega
      obtain ⟨o1, o2, o3⟩ := o
      simp only at c0 HS
      generalize dealsL (h.take k) = D at *
      have C := hide (rput_any A3 D.length c3 D o1 wr (rd_own ho3) (by omega))
      clear ho c1 c2 ho3
      go_wp2_with fail
      refine (unhide C).mono ?_
      rintro e w4 ⟨v4, rfl, ho4, hb4⟩
      rw [← HS.out] at ho4
      have ho5 := own_mono ho4 hbw.size
      have hbw4 := hbw.trans (hb4.mono hbw.size)
      clear C ho4 hb4
      go_wp2
      go_roundw
      case rel => exact ⟨k + 1, by omega, by go_num, ho5, hbw4⟩
      case measure => simp [intOf]; omega
    · have hT : h.take k = h := List.take_of_length_le (by rw [HL.out]; omega)
      generalize hq : (dealsL (h.take k)).length = q at *
      rw [hT] at ho3 hq
      go_wp2
      go_ret
      exact ⟨_, rfl, by rw [hq]; exact ho3, hbw⟩

end Go.Proofs.YtmamejkdheigjaaGreatDoor


namespace Go.Proofs.YtmamejkdheigjaaGreatDoor
open Go.RowKit

set_option maxRecDepth 100000 in
set_option maxHeartbeats 2000000 in
theorem rorder_any (A : Option Addr) (n cap : Nat) (h : List HOp) (w : World) (hr : Rd w w.heap.size 3 A n (cellsH h)) (hok : okH h) :
    Calls Tryz.prog 6 #[.slice A n cap] w (OrdPost h w) := by
  have hn : n ≤ 40 := by rw [← hr.hlen]; exact okH_len hok
  have hdl : (doneL h).length ≤ 40 := Nat.le_trans (doneL_len h) (okH_len hok)
  have C0 := hide (rdone_any A n cap h w hr hok)
  have CE := hide (fun w1 (hb : Below w.heap.size w w1) => redges_any A n cap h w1 ((hr.below hb).more hb.size) hok)
  have HF := Lib.hid (rsort_order (okH_tx hok))
  have HD := Lib.hid hdl
  have HDE := Lib.hid (deals_le (h := doneL h))
  clear hr hok hdl
  generalize doneL h = D at *
  generalize edgesF h = E at *
  go_enter Tryz.func6, Tryz.ntmps6
  go_wp2_with fail
  refine (unhide C0).mono ?_
  rintro e w1 ⟨A1, m1, c1, rfl, ho1, hb1⟩
  have hd1 := rd_own ho1
  have hm1 : m1 ≤ 40 := by rw [← hd1.hlen]; exact HD.out
  have C1 := hide (rdeals_any A1 m1 c1 D w1 hd1 (by omega))
  clear C0 ho1 hd1
  go_wp2_with fail
  refine (unhide C1).mono ?_
  rintro e w2 ⟨v2, rfl, ho2, hb2⟩
  have hdl : (dealsL D).length ≤ 40 := Nat.le_trans HDE.out HD.out
  generalize (dealsL D).length = m2 at *
  obtain ⟨A2, c2, rfl⟩ := own_slice ho2
  have hbw2 := hb1.trans (hb2.mono hb1.size)
  have hd2 := rd_own ho2
  have C2 := hide (unhide CE w2 hbw2)
  clear C1 ho2 hb2 CE hb1
  go_wp2_with fail
  refine (unhide C2).mono ?_
  rintro e w3 ⟨A3, m3, c3, rfl, hd3, hm3, hb3⟩
  have hbw3 := hbw2.trans (hb3.mono hbw2.size)
  have C3 := hide (rsort_any A2 m2 c2 (dealsL D) A3 m3 c3 E w3 ((hd2.below hb3).more hb3.size) hd3 (by omega) (by omega))
  clear C2 hb3 hd2 hd3 hbw2
  go_wp2_with fail
  refine (unhide C3).mono ?_
  rintro e w4 ⟨v4, k4, r4, L4, rfl, ho4, hcs, hb4⟩
  rw [HF.out] at hcs
  have HC := Lib.hid hcs
  have ho5 := own_mono ho4 hbw3.size
  have hbw4 := hbw3.trans (hb4.mono hbw3.size)
  clear hcs C3 ho4 hb4 hbw3
  go_wp2
  go_ret2
  exact ⟨v4, k4, r4, L4, rfl, ho5, HC.out, hbw4⟩
end Go.Proofs.YtmamejkdheigjaaGreatDoor

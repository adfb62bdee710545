
/-
  CONTRACT of the reference's laneref1.Edges: the edges between deals that are done.
-/
import Derived.Test.YtkpnpkikonlmpaaGreatDoorRAdd
import Derived.Test.YtkpnpkikonlmpaaGreatDoorM1
import Derived.StillTailTactics

namespace Go.Proofs.YtkpnpkikonlmpaaGreatDoor
open Go.RowKit

theorem sortGo_step (acc : List (Int × Int)) (x : Int × Int) (l : List (Int × Int)) : sortGo ltE acc (x :: l) = sortGo ltE (insS ltE x acc) l := rfl
def rowE (a : HOp) (l : List HOp) : List (Int × Int) := (l.filter (oddB a)).map fun b => (a.tx, b.tx)
theorem rowE_step {a b : HOp} {l t : List HOp} (e : l = b :: t) : rowE a l = if oddB a b = true then (a.tx, b.tx) :: rowE a t else rowE a t := by
  rw [e]
  unfold rowE
  cases h : oddB a b
  · rw [List.filter_cons_of_neg (by simp [h])]; simp
  · rw [List.filter_cons_of_pos h]; simp
theorem edgeP_step {a : HOp} {l t : List HOp} (e : l = a :: t) : edgeP l = rowE a t ++ edgeP t := by rw [e, edgeP]; rfl

set_option maxRecDepth 100000 in
set_option maxHeartbeats 8000000 in
theorem redges_any (A : Option Addr) (n cap : Nat) (h : List HOp) (w : World) (hr : Rd w w.heap.size 3 A n (cellsH h)) (hok : okH h) :
    Calls Tryz.prog 32 #[.slice A n cap] w fun e w' => ∃ A' m c', e = .returned (.slice A' m c') ∧ Rd w' w'.heap.size 2 A' m (dcells (edgesF h)) ∧ m ≤ 1700 ∧ Below w.heap.size w w' := by
  have hdl : (doneL h).length ≤ 40 := by
    have h1 := okH_len hok
    have := List.length_filter_le (fun o : HOp => (flagsF h).getD o.tx.toNat false) h
    unfold doneL; omega
  have hit : ∀ o ∈ doneL h, 0 ≤ o.item := fun o ho => by
    obtain ⟨_, _, _, _, h5, h6⟩ := rightB_get (okH_right hok o ((mem_doneL (okH_tx hok)).1 ho).1)
    by_cases hw : o.what < 3
    · have := h5 hw; omega
    · have := h6 (by omega); omega
  have HIT := Lib.hid hit
  have C := hide (rdone_any A n cap h w hr hok)
  have HF : Hid (edgesF h = sortGo ltE [] (edgeP (doneL h))) := Lib.hid rfl
  clear hit hok
  generalize edgesF h = R at *
  generalize doneL h = D at *
  go_enter Tryz.func32, Tryz.ntmps32
  go_wp2_with fail
  refine (unhide C).mono ?_
  rintro e w1 ⟨A1, n1, c1, rfl, ho1, hb1⟩
  have hd1 := rd_own ho1
  have hl1 := hd1.hlen
  have hn40 : n1 ≤ 40 := by omega
  have HRD := hide (fun w2 (hb : Below w1.heap.size w1 w2) => hd1.below hb)
  have HL1 := Lib.hid hl1
  clear C ho1 hd1 hl1 hdl
  go_wp2
  go_loopw [3, 4, 5, 6] (fun s3 s4 _ _ wr => ∃ (i m c3 : Nat) (A3 : Option Addr) (acc : List (Int × Int)), i ≤ n1 ∧ s4 = .int .i64 i ∧ s3 = .slice A3 m c3 ∧ m ≤ c3 ∧ Rd wr wr.heap.size 2 A3 m (dcells acc) ∧ m ≤ i * 40 ∧ Hid (R = sortGo ltE acc (edgeP (D.drop i))) ∧ Below w1.heap.size w1 wr) (fun _ s4 _ _ _ => n1 - (intOf s4).toNat)
  case atStart => exact ⟨0, 0, 0, none, [], Nat.zero_le _, rfl, rfl, Nat.le_refl _, Rd.nil, Nat.zero_le _, HF, Below.refl _ _⟩
  case round =>
    obtain ⟨i, m, c3, A3, acc, hi, rfl, rfl, hmc, hd3, hmi, HE, hbw⟩ := hrel
    by_cases hlt : i < n1
    · have hoi : D[i]? = some (D[i]'(by rw [HL1.out]; exact hlt)) := List.getElem?_eq_getElem _
      generalize D[i]'(by rw [HL1.out]; exact hlt) = a at *
      have HOI := Lib.hid hoi
      have ha0 := HIT.out a (List.mem_of_getElem? hoi)
      have HE2 : Hid (R = sortGo ltE acc (rowE a (D.drop (i + 1)) ++ edgeP (D.drop (i + 1)))) := Lib.hid (by rw [HE.out, edgeP_step (drop_at hoi)])
      clear hoi HE
      obtain ⟨wo, rfl⟩ : ∃ wo : World, wo = wr := ⟨_, rfl⟩
      go_wp2
      go_loopw [3, 5, 6] (fun s3 s5 _ wx => ∃ (k m c3 : Nat) (A3 : Option Addr) (acc : List (Int × Int)), i + 1 ≤ k ∧ k ≤ n1 ∧ s5 = .int .i64 k ∧ s3 = .slice A3 m c3 ∧ m ≤ c3 ∧ Rd wx wx.heap.size 2 A3 m (dcells acc) ∧ m ≤ i * 40 + k ∧ Hid (R = sortGo ltE acc (rowE a (D.drop k) ++ edgeP (D.drop (i + 1)))) ∧ Below w1.heap.size w1 wx) (fun _ s5 _ _ => n1 - (intOf s5).toNat)
      case atStart => exact ⟨i + 1, m, c3, A3, acc, Nat.le_refl _, by omega, by go_num, rfl, hmc, hd3, by omega, HE2, hbw⟩
      case round =>
        clear HE2 hd3 hbw hmc hmi
        obtain ⟨k, m, c3, A3, acc, hk1, hk2, rfl, rfl, hmc, hd3, hmk, HE, hbw⟩ := hrel
        by_cases hlk : k < n1
        · obtain ⟨b, off, o1, he, hb, ho1, c0, c1', c2⟩ := (unhide HRD wr hbw).op (k := i) hlt
          cases he
          rw [HOI.out] at ho1
          cases ho1
          obtain ⟨_, _, o2, he, _, ho2, d0, d1, d2⟩ := (unhide HRD wr hbw).op (k := k) hlk
          cases he
          have HS := Lib.hid (rowE_step (a := a) (drop_at ho2))
          have HO2 := Lib.hid ho2
          clear ho2
          have CA := hide (rodds_any a o2 ha0 wr.drew)
          have hwz : wr.drew.heap.size = wr.heap.size := rfl
          obtain ⟨p1, p2, p3⟩ := o2
          obtain ⟨a1, a2, a3⟩ := a
          simp only at c0 c1' c2 d0 d1 d2
          have n0 : (0 : Int) ≤ (i : Int) := by omega
          have n1' : (i : Int) < (n1 : Int) := by omega
          have n2 : (0 : Int) ≤ (k : Int) := by omega
          have n3 : (k : Int) < (n1 : Int) := by omega
          generalize oddB ⟨a1, a2, a3⟩ ⟨p1, p2, p3⟩ = q at *
          have hbd : Below w1.heap.size w1 wr.drew := hbw.drew
          have hdd : Rd wr.drew wr.drew.heap.size 2 A3 m (dcells acc) := hd3
          unfold HOp.val at CA
          simp only at CA
          go_wp2
          go_still_tail 8, (by kernel_rfl)
          change wpList _ _ _ _ _ wr.drew
          go_wp2_with fail
          refine (unhide CA).mono ?_
          rintro e wy ⟨rfl, hby⟩
          have hbwy := hbd.trans (hby.mono hbd.size)
          have hd3y := (hdd.below hby).more hby.size
          obtain ⟨b', off', o1, he, hb', ho1, c0', _, _⟩ := (unhide HRD wy hbwy).op (k := i) hlt
          cases he
          rw [HOI.out] at ho1
          cases ho1
          obtain ⟨_, _, o2, he, _, ho2, d0', _, _⟩ := (unhide HRD wy hbwy).op (k := k) hlk
          cases he
          rw [HO2.out] at ho2
          cases ho2
          clear hby hbw hd3 hdd hbd CA hwz c0 c1' c2 d0 d1 d2
          cases q
          · have HE3 : Hid (R = sortGo ltE acc (rowE ⟨a1, a2, a3⟩ (D.drop (k + 1)) ++ edgeP (D.drop (i + 1)))) := Lib.hid (by rw [HE.out, HS.out]; rfl)
            clear HE HS
            go_wp2
            go_roundw
            case rel => exact ⟨k + 1, m, c3, A3, acc, by omega, by omega, by go_num, rfl, hmc, hd3y, by omega, HE3, hbwy⟩
            case measure => simp [intOf]; omega
          · have HE3 : Hid (R = sortGo ltE (insS ltE (a1, p1) acc) (rowE ⟨a1, a2, a3⟩ (D.drop (k + 1)) ++ edgeP (D.drop (i + 1)))) := Lib.hid (by rw [HE.out, HS.out]; rfl)
            have CAdd := hide (radd_any A3 m c3 acc a1 p1 wy.drew hd3y (by omega) hmc)
            have hbd : Below w1.heap.size w1 wy.drew := hbwy.drew
            have hwz : wy.drew.heap.size = wy.heap.size := rfl
            clear HE HS
            go_wp2
            go_still_tail 12, (by kernel_rfl)
            change wpList _ _ _ _ _ wy.drew
            go_wp2_with fail
            refine (unhide CAdd).mono ?_
            rintro e wz ⟨A', n', c', rfl, hnc, hdz, hnn, hbz⟩
            have hbwz := hbd.trans (hbz.mono hbd.size)
            go_wp2
            go_roundw
            case rel => exact ⟨k + 1, n', c', A', _, by omega, by omega, by go_num, rfl, hnc, hdz, by omega, HE3, hbwz⟩
            case measure => simp [intOf]; omega
        · have HE2 : Hid (R = sortGo ltE acc (edgeP (D.drop (i + 1)))) := Lib.hid (by
            have e : D.drop k = [] := drop_end (by rw [HL1.out]; omega)
            rw [HE.out, e]; rfl)
          clear HE
          go_wp2
          go_roundw
          case rel => exact ⟨i + 1, m, c3, A3, acc, by omega, by go_num, rfl, hmc, hd3, by omega, HE2, hbw⟩
          case measure => simp [intOf]; omega
    · have HT : Hid (R = acc) := Lib.hid (by rw [HE.out, drop_end (by rw [HL1.out]; omega)]; rfl)
      go_wp2
      go_ret
      exact ⟨_, _, _, rfl, by rw [HT.out]; exact hd3, by omega, hb1.trans (hbw.mono hb1.size)⟩
end Go.Proofs.YtkpnpkikonlmpaaGreatDoor

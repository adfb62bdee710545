
/-
  PROVED: lanelaw1.ViewTells returns true, for every two histories: the reads and the last writers, the order by which a history looks the same, and whether two look the same, as the document's answer has them. The variable errors.errorType starts as the program's text lays it (the card's tie); no condition beyond the form's own reach.
-/
import Derived.Test.YtkpnpkikonlmpaaDoorV3
import Derived.Test.YtkpnpkikonlmpaaDoorV4
import Derived.Test.YtkpnpkikonlmpaaDoorN1
import Derived.Test.YtkpnpkikonlmpaaDoorPieces
import Derived.Test.YtkpnpkikonlmpaaDoorE1
import Derived.Deep.DeepCutAuto

namespace Go.Proofs.YtkpnpkikonlmpaaDoor.viewTells
open Go.ChangeShapes Go.WideShapes Go.ChangeAt Go.RowKit Go.Proofs.YtkpnpkikonlmpaaDoor

/-! ### The last writers. -/
def lasL (h : List HOp) : List Int := if (checkF h).2 = 0 then lastL (doneL h) else []
theorem lasL_len (h : List HOp) : (lasL h).length ≤ 6 := by
  unfold lasL
  split
  · exact Nat.le_of_eq rfl
  · simp
theorem done_right {h : List HOp} (hok : okH h) : ∀ o ∈ doneL h, rightB o = true := fun o ho => okH_right hok o (List.mem_filter.1 ho).1
theorem rdsL_len (h : List HOp) : (rdsL h).length ≤ 40 := by
  unfold rdsL
  split
  · rename_i hok
    have h1 := rdF_len (doneL h)
    have h2 := doneL_len2 h
    have h3 := okH_len (show okH h from hok)
    unfold rdF at h1
    omega
  · simp
theorem vlast_any (A : Option Addr) (n cap : Nat) (h : List HOp) (w : World) (hr : Rd w w.heap.size 3 A n (cellsH h)) (hm : n ≤ 6000000000000) :
    Calls Tryd.prog 11 #[.slice A n cap] w fun e w' => ∃ A' k c', e = .returned (.tuple #[.slice A' k c', errV (checkF h).2]) ∧ Rd w' w'.heap.size 1 A' k (cellsI (lasL h)) ∧ Below w.heap.size w w' := by
  have C := last_any A n cap h w hr hm
  by_cases hok : okH h
  · refine (C.1 hok).mono ?_
    rintro e w' ⟨v, rfl, ho, hb⟩
    obtain ⟨A', c', rfl⟩ := own_slice ho
    refine ⟨A', 6, c', ?_, ?_, hb⟩
    · rw [show (checkF h).2 = 0 from hok, errV_zero]
    · have := rd_own ho
      rwa [look_last (done_right hok), show lastL (doneL h) = lasL h from (if_pos hok).symm] at this
  · refine (C.2 hok).mono ?_
    rintro e w' ⟨rfl, hb⟩
    refine ⟨none, 0, 0, rfl, ?_, hb⟩
    rw [show lasL h = [] from if_neg hok]
    exact Rd.nil

/-! ### The walk. -/
set_option maxRecDepth 100000 in
set_option maxHeartbeats 16000000 in
theorem walk (A : Option Addr) (n c : Nat) (h : List HOp) (B : Option Addr) (m d : Nat) (g : List HOp) (w : World) (hE : Et w) (hr : Rd w w.heap.size 3 A n (cellsH h)) (hn : n * 24 ≤ 140737488351232) (hg : Rd w w.heap.size 3 B m (cellsH g)) (hmb : m * 24 ≤ 140737488351232) :
    Calls Tryd.prog 3 #[.slice A n c, .slice B m d] w fun e w' => e = .returned (.bool true) ∧ Below w.heap.size w w' := by
  have hz0 := hE.pos
  have hm : n ≤ 6000000000000 := by omega
  have hm2 : m ≤ 6000000000000 := by omega
  have CE := hide (fun x w1 (hb : Below w.heap.size w w1) => error_same x w1 (hE.below hb hz0))
  have HRd := hide (fun w1 (hb : Below w.heap.size w w1) => (hr.below hb).more hb.size)
  have HGd := hide (fun w1 (hb : Below w.heap.size w w1) => (hg.below hb).more hb.size)
  have CR := hide (rright_any A n c h w hr hm)
  have CRG := hide (fun w1 (hb : Below w.heap.size w w1) => rright_any B m d g w1 (unhide HGd w1 hb) hm2)
  have CD := hide (fun (hk : okH h) w1 (hb : Below w.heap.size w w1) => rdone_any A n c h w1 (unhide HRd w1 hb) hk)
  have CDG := hide (fun (hk : okH g) w1 (hb : Below w.heap.size w w1) => rdone_any B m d g w1 (unhide HGd w1 hb) hk)
  have CVR := hide (fun w1 (hb : Below w.heap.size w w1) => vreads_any A n c h w1 (unhide HRd w1 hb) hm)
  have CVL := hide (fun w1 (hb : Below w.heap.size w w1) => vlast_any A n c h w1 (unhide HRd w1 hb) hm)
  have CVO := hide (fun w1 (hb : Below w.heap.size w w1) => vorder_any A n c h w1 (unhide HRd w1 hb) hm)
  have CVS := hide (fun w1 (hb : Below w.heap.size w w1) => vsame_any A B n m c d h g w1 (unhide HRd w1 hb) (unhide HGd w1 hb) hm hm2)
  have HDN := Lib.hid (fun (hk : okH h) => And.intro (Nat.le_trans (doneL_len2 h) (okH_len hk)) (done_right hk))
  have HDG := Lib.hid (fun (hk : okH g) => And.intro (Nat.le_trans (doneL_len2 g) (okH_len hk)) (done_right hk))
  have HVS := Lib.hid (fun (hk : okH h) o => vord_some hk (o := o))
  have HVN := Lib.hid (fun (hk : okH h) => vord_none hk)
  have HVB := Lib.hid (fun (hk : ¬ okH h) => vord_bad hk)
  have HRL := Lib.hid (And.intro (rdsL_len h) (lasL_len h))
  have HR0 : Hid (okH h → rdsL h = rdF (doneL h) ∧ lasL h = lastL (doneL h)) := Lib.hid (fun hk => ⟨if_pos hk, if_pos hk⟩)
  have HR1 : Hid (¬ okH h → rdsL h = [] ∧ lasL h = []) := Lib.hid (fun hk => ⟨if_neg hk, if_neg hk⟩)
  have HSE : Hid ((okH h → vsE h g = (checkF g).2) ∧ (¬ okH h → vsE h g = (checkF h).2)) := Lib.hid ⟨fun hk => if_neg (fun e => e hk), fun hk => if_pos hk⟩
  have HSV : Hid ((vsE h g = 0 → okH h ∧ okH g ∧ vsV h g = viewB (doneL h) (doneL g)) ∧ (vsE h g ≠ 0 → vsV h g = false)) := Lib.hid (by
    unfold vsE vsV
    by_cases h1 : (checkF h).2 = 0
    · rw [if_neg (fun e => e h1)]
      by_cases h2 : (checkF g).2 = 0
      · exact ⟨fun _ => ⟨h1, h2, by simp [h1, h2]⟩, fun e => absurd h2 e⟩
      · exact ⟨fun e => absurd e h2, fun _ => by simp [h2]⟩
    · rw [if_pos h1]
      exact ⟨fun e => absurd e h1, fun _ => by simp [h1]⟩)
  have HVL : Hid ((vordL h).length ≤ 6) := Lib.hid (by
    by_cases hk : okH h
    · cases ho : vOrd (doneL h) with
      | none => rw [(vord_none hk ho).2]; simp
      | some o =>
        rw [(vord_some hk ho).2]
        exact serL_len hk (view_serial hk ho).1
    · rw [(vord_bad hk).2]; simp)
  have HEV : Hid (okH h ↔ (checkF h).2 = 0) := Lib.hid Iff.rfl
  clear hE hr hg hn hmb
  obtain ⟨ev, hev⟩ : ∃ ev, (checkF h).2 = ev := ⟨_, rfl⟩
  rw [hev] at CR CVR CVL HEV HSE HVB
  clear hev
  go_enter Tryd.func3, Tryd.ntmps3
  go_wp2_with fail
  refine (unhide CR).mono ?_
  rintro e w1 ⟨rfl, hb1⟩
  clear CR
  go_upto_if 24 with fail
  go_cut [6, 7] (fun s6 s7 wx => Below w.heap.size w wx ∧ (∃ A k c, s6 = .slice A k c ∧ k ≤ 40 ∧ Rd wx wx.heap.size 2 A k (dcells (rdsL h))) ∧ ∃ A k c, s7 = .slice A k c ∧ k ≤ 6 ∧ Rd wx wx.heap.size 1 A k (cellsI (lasL h)))
  case first =>
    by_cases hk : okH h
    · have q0 : (ev == 0) = true := by simpa using HEV.out.1 hk
      have HN := Lib.hid (HDN.out hk)
      have HQ := Lib.hid (HR0.out hk)
      have C0 := hide (unhide CD hk)
      have C1 := hide (unhide CD hk w1 hb1)
      clear hk CRG CD CDG CVR CVL CVO CVS HDN HDG HVS HVN HVB HR0 HR1 HSE HSV HVL HEV
      go_wp2_with fail
      refine (unhide C1).mono ?_
      rintro e w2 ⟨A2, m2, c2, rfl, ho2, hb2⟩
      have hbw2 := hb1.trans (hb2.mono hb1.size)
      have hd2 := rd_own ho2
      have hm2' : m2 ≤ 40 := by rw [← hd2.hlen]; exact HN.out.1
      have C2 := hide (rreads_any A2 m2 c2 (doneL h) w2 hd2 (by omega) HN.out.2)
      clear C1 ho2 hb2 hb1 hd2
      go_wp2_with fail
      refine (unhide C2).mono ?_
      rintro e w3 ⟨v3, k3, rfl, ho3, hb3⟩
      have hbw3 := hbw2.trans (hb3.mono hbw2.size)
      obtain ⟨A3, c3, rfl⟩ := own_slice ho3
      have hd3 := rd_own ho3
      rw [← HQ.out.1] at hd3
      have hk3 : k3 ≤ 40 := by rw [← hd3.dlen]; exact HRL.out.1
      have C3 := hide (unhide C0 w3 hbw3)
      clear C2 ho3 hb3 hbw2 C0
      go_wp2_with fail
      refine (unhide C3).mono ?_
      rintro e w4 ⟨A4, m4, c4, rfl, ho4, hb4⟩
      have hbw4 := hbw3.trans (hb4.mono hbw3.size)
      have hd4 := rd_own ho4
      have hm4' : m4 ≤ 40 := by rw [← hd4.hlen]; exact HN.out.1
      have hd34 := (hd3.below hb4).more hb4.size
      have C4 := hide (rlast_any A4 m4 c4 (doneL h) w4 hd4 (by omega) HN.out.2)
      clear C3 ho4 hb4 hbw3 hd3 hd4
      go_wp2_with fail
      refine (unhide C4).mono ?_
      rintro e w5 ⟨v5, rfl, ho5, hb5⟩
      have hbw5 := hbw4.trans (hb5.mono hbw4.size)
      obtain ⟨A5, c5, rfl⟩ := own_slice ho5
      have hd5 := rd_own ho5
      rw [← HQ.out.2] at hd5
      have hd35 := (hd34.below hb5).more hb5.size
      go_wp2
      go_meet
      case rel => exact ⟨hbw5, ⟨_, _, _, rfl, hk3, hd35⟩, _, _, _, rfl, Nat.le_refl _, hd5⟩
    · have q0 : (ev == 0) = false := by simpa using fun e => hk (HEV.out.2 e)
      have HQ := Lib.hid (HR1.out hk)
      clear hk CRG CD CDG CVR CVL CVO CVS HDN HDG HVS HVN HVB HR0 HR1 HSE HSV HVL HEV
      go_wp2
      go_meet
      case rel => exact ⟨hb1, ⟨none, 0, 0, rfl, by omega, by rw [HQ.out.1]; exact Rd.nil⟩, none, 0, 0, rfl, by omega, by rw [HQ.out.2]; exact Rd.nil⟩
  case rest =>
  obtain ⟨wo, rfl⟩ : ∃ wo : World, wo = wc := ⟨_, rfl⟩
  obtain ⟨hbwo, ⟨A2, k2, c2, rfl, hk2, hd2⟩, A3, k3, c3, rfl, hk3, hd3⟩ := hcut
  have K1 := hide (fun w' (hb : Below wo.heap.size wo w') => And.intro (hbwo.trans (hb.mono hbwo.size)) (And.intro ((hd2.below hb).more hb.size) ((hd3.below hb).more hb.size)))
  have C1 := hide (unhide CVR wo hbwo)
  clear hb1 hbwo hd2 hd3 CVR HR0 HR1
  generalize rdsL h = rl at *
  generalize lasL h = ll at *
  go_wp2_with fail
  refine (unhide C1).mono ?_
  rintro e w4 ⟨v4, k4, rfl, ho4, hb4⟩
  obtain ⟨A4, c4, rfl⟩ := own_slice ho4
  have hd4 := rd_own ho4
  have hk4 : k4 ≤ 40 := by rw [← hd4.dlen]; exact HRL.out.1
  have C2 := hide (unhide CE ev w4 (unhide K1 w4 hb4).1)
  clear C1 ho4
  go_wp2_with fail
  refine (unhide C2).mono ?_
  rintro e w5 ⟨rfl, hb5⟩
  have hbx5 := hb4.trans (hb5.mono hb4.size)
  have C3 := hide (sources_any A4 A2 k4 k2 c4 c2 rl rl w5 ((hd4.below hb5).more hb5.size) (unhide K1 w5 hbx5).2.1 (by omega))
  rw [decide_eq_true rfl] at C3
  clear C2 hb5 hb4 hd4
  go_wp2_with fail
  refine (unhide C3).mono ?_
  rintro e w6 ⟨rfl, hb6⟩
  have hbx6 := hbx5.trans (hb6.mono hbx5.size)
  have C4 := hide (unhide CVL w6 (unhide K1 w6 hbx6).1)
  clear C3 hb6 hbx5 CVL
  go_wp2_with fail
  refine (unhide C4).mono ?_
  rintro e w7 ⟨A7, k7, c7, rfl, hd7, hb7⟩
  have hbx7 := hbx6.trans (hb7.mono hbx6.size)
  have hk7 : k7 ≤ 6 := by rw [← hd7.ilen]; exact HRL.out.2
  have C5 := hide (unhide CE ev w7 (unhide K1 w7 hbx7).1)
  clear C4 hb7 hbx6
  go_wp2_with fail
  refine (unhide C5).mono ?_
  rintro e w8 ⟨rfl, hb8⟩
  have hbx8 := hbx7.trans (hb8.mono hbx7.size)
  have C6 := hide (ints_any A7 A3 k7 k3 c7 c3 ll ll w8 ((hd7.below hb8).more hb8.size) (unhide K1 w8 hbx8).2.2 (by omega))
  rw [decide_eq_true rfl] at C6
  clear C5 hb8 hbx7 hd7
  go_wp2_with fail
  refine (unhide C6).mono ?_
  rintro e w9 ⟨rfl, hb9⟩
  have hbw9 := (unhide K1 w9 (hbx8.trans (hb9.mono hbx8.size))).1
  clear C6 hb9 hbx8 K1 HRL
  go_upto_if 59 with fail
  go_cut [13, 14] (fun s13 s14 wx => s13 = .int .i64 (vordE h) ∧ Below w.heap.size w wx ∧ ∃ A k c, s14 = .slice A k c ∧ Rd wx wx.heap.size 1 A k (cellsI (vordL h)))
  case first =>
    by_cases hk : okH h
    · have q0 : (ev == 0) = true := by simpa using HEV.out.1 hk
      have e0 := Lib.hid (HEV.out.1 hk)
      have HN := Lib.hid (HDN.out hk)
      have HS := Lib.hid (HVS.out hk)
      have HN2 := Lib.hid (HVN.out hk)
      have C1 := hide (unhide CD hk w9 hbw9)
      clear hk CRG CD CDG CVO CVS HDN HDG HVS HVN HVB HSE HSV HVL HEV
      go_wp2_with fail
      refine (unhide C1).mono ?_
      rintro e w2 ⟨A2, m2, c2, rfl, ho2, hb2⟩
      have hbw2 := hbw9.trans (hb2.mono hbw9.size)
      have hd2 := rd_own ho2
      have hm2' : m2 ≤ 40 := by rw [← hd2.hlen]; exact HN.out.1
      have C2 := hide (rvorder_any A2 m2 c2 (doneL h) w2 hd2 hm2' (own_cap ho2) HN.out.2)
      clear C1 ho2 hb2 hbw9 hd2
      go_wp2_with fail
      refine (unhide C2).mono ?_
      rintro e w3 ⟨hb3, hcs⟩
      have hbw3 := hbw2.trans (hb3.mono hbw2.size)
      rcases hcs with ⟨hnone, A3, k3, c3, rfl⟩ | ⟨L3, A3, k3, c3, hsome, rfl, hd3⟩
      · have HH := Lib.hid (HN2.out hnone)
        clear hnone C2 HS HN2
        go_wp2
        go_meet
        case rel => exact ⟨by rw [HH.out.1], hbw3, none, 0, 0, rfl, by rw [HH.out.2]; exact Rd.nil⟩
      · have HH := Lib.hid (HS.out L3 hsome)
        clear hsome C2 HS HN2
        go_wp2
        go_meet
        case rel => exact ⟨by rw [HH.out.1, e0.out], hbw3, _, _, _, rfl, by rw [HH.out.2]; exact hd3⟩
    · have q0 : (ev == 0) = false := by simpa using fun e => hk (HEV.out.2 e)
      have HQ := Lib.hid (HVB.out hk)
      clear hk CRG CD CDG CVO CVS HDN HDG HVS HVN HVB HSE HSV HVL HEV
      go_wp2
      go_meet
      case rel => exact ⟨by rw [HQ.out.1], hbw9, none, 0, 0, rfl, by rw [HQ.out.2]; exact Rd.nil⟩
  case rest =>
  obtain ⟨rfl, hbwc, A10, k10, c10, rfl, hd10⟩ := hcut
  have hk10 : k10 ≤ 6 := by rw [← hd10.ilen]; exact HVL.out
  have C1 := hide (unhide CVO wc hbwc)
  clear hbw9 CVO HVS HVN HVB
  generalize vordE h = oe at *
  generalize vordL h = ol at *
  go_wp2_with fail
  refine (unhide C1).mono ?_
  rintro e w11 ⟨A11, k11, c11, rfl, hd11, hb11⟩
  have hbw11 := hbwc.trans (hb11.mono hbwc.size)
  have hd10' := (hd10.below hb11).more hb11.size
  have hk11 : k11 ≤ 6 := by rw [← hd11.ilen]; exact HVL.out
  have C2 := hide (unhide CE oe w11 hbw11)
  clear C1 hb11 hbwc hd10
  go_wp2_with fail
  refine (unhide C2).mono ?_
  rintro e w12 ⟨rfl, hb12⟩
  have hbw12 := hbw11.trans (hb12.mono hbw11.size)
  have C3 := hide (ints_any A11 A10 k11 k10 c11 c10 ol ol w12 ((hd11.below hb12).more hb12.size) ((hd10'.below hb12).more hb12.size) (by omega))
  rw [decide_eq_true rfl] at C3
  clear C2 hb12 hbw11 hd11 hd10'
  go_wp2_with fail
  refine (unhide C3).mono ?_
  rintro e w13 ⟨rfl, hb13⟩
  have hbw13 := hbw12.trans (hb13.mono hbw12.size)
  clear C3 hb13 hbw12 HVL
  go_upto_if 83 with fail
  go_cut [5] (fun s5 wx => s5 = .int .i64 (vsE h g) ∧ Below w.heap.size w wx)
  case first =>
    by_cases hk : okH h
    · have q0 : (ev == 0) = true := by simpa using HEV.out.1 hk
      have HQ := Lib.hid (HSE.out.1 hk)
      have C1 := hide (unhide CRG w13 hbw13)
      clear hk CRG CD CDG CVS HDN HDG HSE HSV HEV
      go_wp2_with fail
      refine (unhide C1).mono ?_
      rintro e w2 ⟨rfl, hb2⟩
      have hbw2 := hbw13.trans (hb2.mono hbw13.size)
      go_wp2
      go_meet
      case rel => exact ⟨by rw [HQ.out], hbw2⟩
    · have q0 : (ev == 0) = false := by simpa using fun e => hk (HEV.out.2 e)
      have HQ := Lib.hid (HSE.out.2 hk)
      clear hk CRG CD CDG CVS HDN HDG HSE HSV HEV
      go_wp2
      go_meet
      case rel => exact ⟨by rw [HQ.out], hbw13⟩
  case rest =>
  obtain ⟨rfl, hbwc⟩ := hcut
  clear hbw13 CRG HSE HEV
  go_upto_region 23 with fail
  go_cut [18] (fun s18 wx => s18 = .bool (vsV h g) ∧ Below w.heap.size w wx)
  case first =>
    by_cases hk : vsE h g = 0
    · have q0 : (vsE h g == 0) = true := by simpa using hk
      obtain ⟨k1, k2, hv⟩ := HSV.out.1 hk
      have HN := Lib.hid (HDN.out k1)
      have HN2 := Lib.hid (HDG.out k2)
      have HQ := Lib.hid hv
      have C1 := hide (unhide CD k1 wc hbwc)
      have C0 := hide (unhide CDG k2)
      clear hk hv k1 k2 CD CDG CVS HDN HDG HSV
      generalize vsE h g = se at *
      generalize vsV h g = sv at *
      go_wp2_with fail
      refine (unhide C1).mono ?_
      rintro e w2 ⟨A2, m2, c2, rfl, ho2, hb2⟩
      have hbw2 := hbwc.trans (hb2.mono hbwc.size)
      have hd2 := rd_own ho2
      have hc2 := own_cap ho2
      have hm2' : m2 ≤ 40 := by rw [← hd2.hlen]; exact HN.out.1
      have C2 := hide (unhide C0 w2 hbw2)
      clear C1 ho2 hb2 hbwc C0
      go_wp2_with fail
      refine (unhide C2).mono ?_
      rintro e w3 ⟨A3, m3, c3, rfl, ho3, hb3⟩
      have hbw3 := hbw2.trans (hb3.mono hbw2.size)
      have hd3 := rd_own ho3
      have hc3 := own_cap ho3
      have hm3' : m3 ≤ 40 := by rw [← hd3.hlen]; exact HN2.out.1
      have hd23 := (hd2.below hb3).more hb3.size
      have C3 := hide (rviews_any A2 A3 m2 m3 c2 c3 (doneL h) (doneL g) w3 hd23 hd3 hm2' hm3' hc2 hc3 HN.out.2 HN2.out.2)
      rw [← HQ.out] at C3
      clear C2 ho3 hb3 hbw2 hd2 hd3 hd23 hc2 hc3
      go_wp2_with fail
      refine (unhide C3).mono ?_
      rintro e w4 ⟨rfl, hb4⟩
      have hbw4 := hbw3.trans (hb4.mono hbw3.size)
      go_wp2
      go_meet
      case rel => exact ⟨rfl, hbw4⟩
    · have q0 : (vsE h g == 0) = false := by simpa using hk
      have HQ := Lib.hid (HSV.out.2 hk)
      clear hk CD CDG CVS HDN HDG HSV
      go_wp2
      go_meet
      case rel => exact ⟨by rw [HQ.out], hbwc⟩
  case rest =>
  obtain ⟨wd, rfl⟩ : ∃ wd : World, wd = wc := ⟨_, rfl⟩
  obtain ⟨rfl, hbwd⟩ := hcut
  have C1 := hide (unhide CVS wd hbwd)
  clear hbwc CVS CD CDG HDN HDG HSV
  generalize vsE h g = se at *
  generalize vsV h g = sv at *
  have tv : (sv == sv) = true := by simp
  go_wp2_with fail
  refine (unhide C1).mono ?_
  rintro e w2 ⟨rfl, hb2⟩
  have hbw2 := hbwd.trans (hb2.mono hbwd.size)
  have C2 := hide (unhide CE se w2 hbw2)
  clear C1 hb2 hbwd
  go_wp2_with fail
  refine (unhide C2).mono ?_
  rintro e w3 ⟨rfl, hb3⟩
  have hbw3 := hbw2.trans (hb3.mono hbw2.size)
  clear C2 hb3 hbw2
  go_wp2
  go_ret
  exact ⟨rfl, hbw3⟩
theorem bytes_ops : Tryd.prog.bytesOf 46 = 24 := by kernel_rfl

/-! ### The row. -/
set_option maxRecDepth 100000 in
theorem lifted (os : Os) (started : os.Started) (H : Type) (enc : TypeId × Value → H) :
    ReturnsInHanded {} Tryd.checked os 3 .any (fun w args => (Rows.viewTellsSpec.pre enc Tryd.prog Tryd.f3 [] false w args ∧ laidMetH Tryd.prog dLaid w) ∧ sizedMet enc Tryd.prog Tryd.f3 (OpenSpec.ofChange Rows.viewTellsSpec) false w args) (Rows.viewTellsSpec.post enc Tryd.prog Tryd.f3 false true false false) := by
  refine returnsInHanded_of_change_and (C := Tryd.checked) (X := fun w _ => laidMetH Tryd.prog dLaid w) (fun _ _ _ hh h => h.of_heap hh) dOwn started (by kernel_rfl) Tryd.func3
    (ChangeSpec.witness_at (enc := enc) (C := Tryd.checked) (os := os) (X := fun w _ => laidMetH Tryd.prog dLaid w) false (laidWorld os) #[.slice none 0 0, .slice none 0 0] 8 rfl (by kernel_rfl) (by kernel_rfl) (by kernel_rfl) (by kernel_rfl) (by kernel_rfl) (laidWorld_met os _)) ?_
  intro W base args ds gs before hval0 hW hcnd hsz0 hL _
  have hval : ∀ (j : Nat) t v, Tryd.f3.params[j]? = some t → args[j]? = some v → Value.okWide Tryd.prog W .any base t v := hval0
  have hW' := hW
  obtain ⟨p, q, hA0, hV, rfl, hfz, hnd⟩ := hW
  have hA : DataW.TrodAll enc Tryd.prog W 0 (fun _ => true) true Tryd.f3.params.toList args.toList ds p := hA0
  have hsz : (DataW.weightsEach Tryd.prog (Tryd.f3.params.toList ++ Rows.viewTellsSpec.plain.varTypes Tryd.prog) (ds ++ gs)).all (· ≤ reachBytes) = true := hsz0
  rw [Tryd.params3] at hA hval hsz
  obtain ⟨v0, vs0, d0, ds0, p0, q0, hargs, rfl, rfl, h0, r0⟩ := trodAll_cons hA
  obtain ⟨v1, vs1, d1, ds1, p1, q1, rfl, rfl, rfl, h1, r1⟩ := trodAll_cons r0
  obtain ⟨rfl, rfl, rfl⟩ := trodAll_nil r1
  obtain rfl : args = #[v0, v1] := by cases args; simp_all
  obtain ⟨rfl, rfl⟩ := trodVars_none hV
  simp only [List.append_nil] at hW'
  have hk0 := h0
  have hlt0 : ∀ x ∈ p0, x.block < W.heap.size := fun x hx => hW'.lt x (by simp [hx])
  obtain ⟨A0, n0, c0, l0, rfl, rd0, bd0⟩ := open_ops Tryd.underlying22 Tryd.underlying46 Tryd.underlying3 rfl rfl rfl (by kernel_rfl) (by kernel_rfl) (hval 0 22 v0 rfl rfl) h0 (fun e s he => by have := sized_slice hsz (j := 0) (t := 22) (e := 46) rfl (congrArg some he) Tryd.underlying22; rwa [bytes_ops] at this)
  have hk1 := h1
  have hlt1 : ∀ x ∈ p1, x.block < W.heap.size := fun x hx => hW'.lt x (by simp [hx])
  obtain ⟨A1, n1, c1, l1, rfl, rd1, bd1⟩ := open_ops Tryd.underlying22 Tryd.underlying46 Tryd.underlying3 rfl rfl rfl (by kernel_rfl) (by kernel_rfl) (hval 1 22 v1 rfl rfl) h1 (fun e s he => by have := sized_slice hsz (j := 1) (t := 22) (e := 46) rfl (congrArg some he) Tryd.underlying22; rwa [bytes_ops] at this)
  clear hA0 hval0
  refine (walk A0 n0 c0 l0 A1 n1 c1 l1 W (et_of_laid hL) rd0 bd0 rd1 bd1).mono fun e W' ⟨he, hg⟩ => ?_
  subst he
  exact ⟨_, rfl, post_slices (pa := _) (pv := []) hW' hg (by simp) (fun _ _ _ => (trodAll_cons_mk (shut_bool Tryd.underlying4 _) trodAll_mk0)) (trodAll_cons_mk (Below.trod laidOut (by kernel_rfl) (of_decide_eq_true (by kernel_rfl)) hk0 hg hlt0) (trodAll_cons_mk (Below.trod laidOut (by kernel_rfl) (of_decide_eq_true (by kernel_rfl)) hk1 hg hlt1) trodAll_mk0)) rfl⟩

theorem over : Rows.ViewTellsSaid :=
  OpenClaim.holds_of_wide 3 Tryd.f3 rfl rfl rfl rfl rfl rfl rfl ⟨rfl, rfl, rfl, rfl, rfl⟩ rfl rfl rfl rfl rfl (by kernel_rfl) Tryd.func3 (by kernel_rfl)
    (of_decide_eq_true (by kernel_rfl)) (by unfold Func.isWrapper; first | (rw [if_pos (by decide +kernel)]; kernel_rfl) | (rw [if_neg (by decide +kernel)]; exact ⟨rfl, rfl⟩))
    (fun os started H enc _ => lifted os started H enc)

/-- The statement: the tied card. -/
theorem proved : Rows.ViewTellsCardSaid :=
  Claim7.holds_tied_plain_at .later [] [.handle] true _ true
    over (fun _ h => by cases h) (by kernel_rfl) (fun _ h => by cases h) viewTells_row_tie rfl ⟨rfl, rfl⟩ (by kernel_rfl) rfl
    (fun f fn hf hfn => by
      obtain rfl : f = 3 := Option.some.inj ((show Tryd.prog.funcNamed "locklane/lanelaw1.ViewTells" = some 3 by kernel_rfl).symm.trans hf) |>.symm
      obtain rfl : fn = Tryd.f3 := (Option.some.inj (Tryd.func3.symm.trans hfn)).symm
      exact ⟨by kernel_rfl, fun j t ht => by
        rw [Tryd.params3] at ht
        have hm : t ∈ [22] := by have := Array.mem_of_getElem? ht; simpa using this
        have hall : ([22].all fun u => !Tryd.prog.wantsStandIn u) = true := by kernel_rfl
        exact (show Tryd.prog.wantsStandIn t = false by simpa using List.all_eq_true.1 hall t hm)⟩)
    (by kernel_rfl)
#print axioms proved
end Go.Proofs.YtkpnpkikonlmpaaDoor.viewTells


/-
  PROVED: lanelaw1.SerialTells returns true, for every history and every list of numbers: any history along any order, the order by which it is the same, and whether it is serial, as the document's answer has them. The variable errors.errorType starts as the program's text lays it (the card's tie); no condition beyond the form's own reach.
-/
import Derived.Test.YtkpnpkikonlmpaaGreatDoorRSerial
import Derived.Test.YtkpnpkikonlmpaaGreatDoorN1
import Derived.Test.YtkpnpkikonlmpaaGreatDoorPieces
import Derived.Test.YtkpnpkikonlmpaaGreatDoorDoor
import Derived.Deep.DeepCutAuto

namespace Go.Proofs.YtkpnpkikonlmpaaGreatDoor.serialTells
open Go.ChangeShapes Go.WideShapes Go.ChangeAt Go.RowKit Go.Proofs.YtkpnpkikonlmpaaGreatDoor

/-! ### The plain law: whether numbers are the deals, each once. -/
theorem sort_once {o D : List Int} (hD : Up ltI D) : sortI o = D ↔ o.length = D.length ∧ sortS ltI o = D := by
  constructor
  · rintro rfl
    refine ⟨(sortI_len o).symm, ?_⟩
    exact (sortS_eq sloI hD fun x => sortI_mem).symm
  · rintro ⟨h1, h2⟩
    have hm : ∀ x, x ∈ o ↔ x ∈ D := fun x => by rw [← h2, mem_sortS]
    have hn : o.Nodup := by
      have key : ∀ (l m : List Int), (∀ x ∈ m, x ∈ l) → m.Nodup → l.length ≤ m.length → l.Nodup := by
        intro l
        induction l with
        | nil => intro m _ _ _; exact List.nodup_nil
        | cons a l ih =>
          intro m h3 h4 h5
          have hal : a ∉ l := by
            intro ha
            have := nodup_sub_len m l h4 fun x hx => by
              rcases List.mem_cons.1 (h3 x hx) with e | e
              · rw [e]; exact ha
              · exact e
            simp at h5
            omega
          refine List.nodup_cons.2 ⟨hal, ih (m.filter fun x => !decide (x = a)) (fun x hx => ?_) (h4.sublist List.filter_sublist) ?_⟩
          · obtain ⟨h6, h7⟩ := List.mem_filter.1 hx
            rcases List.mem_cons.1 (h3 x h6) with e | e
            · simp [e] at h7
            · exact e
          · have h8 := nodup_sub_len m (a :: m.filter fun x => !decide (x = a)) h4 fun x hx => by
              by_cases e : x = a
              · rw [e]; exact List.mem_cons_self
              · exact List.mem_cons_of_mem _ (List.mem_filter.2 ⟨hx, by simp [e]⟩)
            simp at h5 h8
            omega
      exact key o D (fun x hx => (hm x).2 hx) (up_nodup hD) (by omega)
    refine up_ext sloI ?_ hD fun x => by rw [sortI_mem]; exact hm x
    have h3 := sortI_up o
    have h4 : (sortI o).Nodup := (List.mergeSort_perm _ _).nodup_iff.2 hn
    exact (h3.and h4).imp fun {a b} ⟨g1, g2⟩ => by simp [ltI] at g1 ⊢; omega
theorem sortS_take {o : List Int} {k : Nat} {x : Int} (h : o[k]? = some x) : sortS ltI (o.take (k + 1)) = insS ltI x (sortS ltI (o.take k)) := by
  rw [takeSnoc h, sortS_snoc]
theorem sortS_le (o : List Int) : (sortS ltI o).length ≤ o.length := nodup_sub_len _ _ (up_nodup (up_sortS sloI o)) fun _ hx => mem_sortS.1 hx

/-! ### The walk: a history that is wrong. -/
set_option maxRecDepth 100000 in
set_option maxHeartbeats 8000000 in
theorem walk_no (A : Option Addr) (n c : Nat) (h : List HOp) (B : Option Addr) (m d : Nat) (p : List Int) (w : World) (hE : Et w) (hr : Rd w w.heap.size 3 A n (cellsH h)) (hm : n ≤ 6000000000000) (hp : Rd w w.heap.size 1 B m (cellsI p)) (hm2 : m ≤ 17592186043904) (hno : ¬ okH h) :
    Calls Tryz.prog 3 #[.slice A n c, .slice B m d] w fun e w' => e = .returned (.bool true) ∧ Below w.heap.size w w' := by
  have hz0 := hE.pos
  have HE := hide (fun x w1 (hb : Below w.heap.size w w1) => error_same x w1 (hE.below hb hz0))
  have CR := hide (rright_any A n c h w hr hm)
  have CS := hide (fun w1 (hb : Below w.heap.size w w1) => serial_any A B n m c d h p w1 ((hr.below hb).more hb.size) ((hp.below hb).more hb.size) hm hm2)
  have e0 : serE h p = (checkF h).2 ∧ serL h p = [] := by
    have e : serE h p = (checkF h).2 := by unfold serE; rw [if_pos (show (checkF h).2 ≠ 0 from hno)]
    exact ⟨e, by unfold serL; rw [e, if_neg (show (checkF h).2 ≠ 0 from hno)]⟩
  rw [e0.1, e0.2] at CS
  have CO := hide (fun w1 (hb : Below w.heap.size w w1) => sorder_any A n c h w1 ((hr.below hb).more hb.size) hm)
  rw [(ord_bad hno).1, (ord_bad hno).2] at CO
  have CI := hide (fun w1 (hb : Below w.heap.size w w1) => is_any A n c h w1 ((hr.below hb).more hb.size) hm)
  rw [show isV h = false by unfold isV; rw [decide_eq_false (show ¬ (checkF h).2 = 0 from hno)]; rfl] at CI
  have q0 : ((checkF h).2 == 0) = false := by simpa using (show (checkF h).2 ≠ 0 from hno)
  generalize (checkF h).2 = ev at *
  clear hE hr hp hno e0
  go_enter Tryz.func3, Tryz.ntmps3
  go_wp2_with fail
  refine (unhide CR).mono ?_
  rintro e w1 ⟨rfl, hb1⟩
  have C1 := hide (unhide CS w1 hb1)
  clear CR CS
  go_wp2_with fail
  refine (unhide C1).mono ?_
  rintro e w2 ⟨v2, k2, rfl, ho2, hk2, hb2⟩
  obtain ⟨A2, c2, rfl⟩ := own_slice ho2
  obtain rfl : k2 = 0 := by rw [← (rd_own ho2).hlen]; rfl
  have hd2 := rd_own ho2
  have hbw2 := hb1.trans (hb2.mono hb1.size)
  have C2 := hide (unhide HE ev w2 hbw2)
  clear C1 hb1 hb2 ho2
  go_wp2_with fail
  refine (unhide C2).mono ?_
  rintro e w3 ⟨rfl, hb3⟩
  have hbw3 := hbw2.trans (hb3.mono hbw2.size)
  have C3 := hide (ops_any A2 none 0 0 c2 0 [] [] w3 ((hd2.below hb3).more hb3.size) Rd.nil (by omega))
  clear C2 hb3 hbw2 hd2
  go_wp2_with fail
  refine (unhide C3).mono ?_
  rintro e w4 ⟨rfl, hb4⟩
  have hbw4 := hbw3.trans (hb4.mono hbw3.size)
  have C4 := hide (unhide CO w4 hbw4)
  clear C3 hb4 hbw3 CO
  go_wp2_with fail
  refine (unhide C4).mono ?_
  rintro e w5 ⟨v5, k5, rfl, ho5, hb5⟩
  obtain ⟨A5, c5, rfl⟩ := own_slice ho5
  obtain rfl : k5 = 0 := by rw [← own_ilen ho5]; rfl
  have hd5 := rd_own ho5
  have hbw5 := hbw4.trans (hb5.mono hbw4.size)
  have C5 := hide (unhide HE ev w5 hbw5)
  clear C4 hb5 hbw4 ho5
  go_wp2_with fail
  refine (unhide C5).mono ?_
  rintro e w6 ⟨rfl, hb6⟩
  have hbw6 := hbw5.trans (hb6.mono hbw5.size)
  have C6 := hide (ints_any A5 none 0 0 c5 0 [] [] w6 ((hd5.below hb6).more hb6.size) Rd.nil (by omega))
  clear C5 hb6 hbw5 hd5
  go_wp2_with fail
  refine (unhide C6).mono ?_
  rintro e w7 ⟨rfl, hb7⟩
  have hbw7 := hbw6.trans (hb7.mono hbw6.size)
  have C7 := hide (unhide CI w7 hbw7)
  clear C6 hb7 hbw6 CI
  go_wp2_with fail
  refine (unhide C7).mono ?_
  rintro e w8 ⟨rfl, hb8⟩
  have hbw8 := hbw7.trans (hb8.mono hbw7.size)
  have C8 := hide (unhide HE ev w8 hbw8)
  clear C7 hb8 hbw7 HE
  go_wp2_with fail
  refine (unhide C8).mono ?_
  rintro e w9 ⟨rfl, hb9⟩
  have hbw9 := hbw8.trans (hb9.mono hbw8.size)
  clear C8 hb9 hbw8
  go_wp2
  go_ret
  exact ⟨rfl, hbw9⟩

/-! ### The walk: a history that is right. -/
def SFin (w : World) (e : Ending) (w' : World) : Prop := e = .returned (.bool true) ∧ Below w.heap.size w w'
set_option maxRecDepth 100000 in
set_option maxHeartbeats 16000000 in
theorem walk_ok (A : Option Addr) (n c : Nat) (h : List HOp) (B : Option Addr) (m d : Nat) (p : List Int) (w : World) (hE : Et w) (hr : Rd w w.heap.size 3 A n (cellsH h)) (hp : Rd w w.heap.size 1 B m (cellsI p)) (hm2 : m ≤ 17592186043904) (hok : okH h) :
    Calls Tryz.prog 3 #[.slice A n c, .slice B m d] w (SFin w) := by
  have hz0 := hE.pos
  have hn : n ≤ 40 := by rw [← hr.hlen]; exact okH_len hok
  have hdl : (doneL h).length ≤ 40 := Nat.le_trans (doneL_len h) (okH_len hok)
  have CE := hide (fun x w1 (hb : Below w.heap.size w w1) => error_same x w1 (hE.below hb hz0))
  have CE0 := hide (fun w1 (hb : Below w.heap.size w w1) => unhide CE 0 w1 hb)
  rw [errV_zero] at CE0
  have HRd := hide (fun w1 (hb : Below w.heap.size w w1) => (hr.below hb).more hb.size)
  have HPd := hide (fun w1 (hb : Below w.heap.size w w1) => (hp.below hb).more hb.size)
  have CR := hide (rright_any A n c h w hr (by omega))
  rw [show (checkF h).2 = 0 from hok] at CR
  have CD := hide (fun w1 (hb : Below w.heap.size w w1) => rdone_any A n c h w1 (unhide HRd w1 hb) hok)
  have CS := hide (fun w1 (hb : Below w.heap.size w w1) => serial_any A B n m c d h p w1 (unhide HRd w1 hb) (unhide HPd w1 hb) (by omega) hm2)
  have CO := hide (fun w1 (hb : Below w.heap.size w w1) => sorder_any A n c h w1 (unhide HRd w1 hb) (by omega))
  have CRO := hide (fun w1 (hb : Below w.heap.size w w1) => rorder_any A n c h w1 (unhide HRd w1 hb) hok)
  have CI := hide (fun w1 (hb : Below w.heap.size w w1) => is_any A n c h w1 (unhide HRd w1 hb) (by omega))
  rw [show (checkF h).2 = 0 from hok, errV_zero] at CI
  have HV : Hid (isV h = decide (pcsN 0 (doneL h) = (dealsL (doneL h)).length)) := Lib.hid (by unfold isV; rw [show (checkF h).2 = 0 from hok]; rfl)
  have HS0 : Hid (serE h p = if sortI p = dealsL (doneL h) then 0 else 3) := Lib.hid (by unfold serE; rw [if_neg (fun e => e hok)])
  have HSL : Hid (serL h p = if serE h p = 0 then alongL (doneL h) p else []) := Lib.hid rfl
  have HOS := Lib.hid (fun o => ord_some hok (o := o))
  have HON := Lib.hid (ord_none hok)
  have HDL := Lib.hid hdl
  have HPL := Lib.hid hp.ilen
  have HTX := Lib.hid (fun o ho => done_tx (okH_tx hok) o ho)
  have HSE : Hid (serE h p = 0 → m ≤ 6) := Lib.hid (fun e => by rw [← hp.ilen]; exact serL_len hok e)
  have HOL : Hid ((ordL h).length ≤ 6) := Lib.hid (by
    cases ho : orderOf h with
    | some o => rw [(ord_some hok ho).2]; exact order_len hok ho
    | none => rw [(ord_none hok ho).2]; simp)
  clear hE hr hp hok hdl
  go_enter Tryz.func3, Tryz.ntmps3
  go_wp2_with fail
  refine (unhide CR).mono ?_
  rintro e w1 ⟨rfl, hb1⟩
  clear CR
  go_upto_if 29 with fail
  go_cut [6, 7] (fun s6 s7 wx => s6 = .int .i64 (serE h p) ∧ Below w.heap.size w wx ∧ ∃ A k c, s7 = .slice A k c ∧ k ≤ 240 ∧ Rd wx wx.heap.size 3 A k (cellsH (serL h p)))
  case first =>
    have C1 := hide (unhide CD w1 hb1)
    go_wp2_with fail
    refine (unhide C1).mono ?_
    rintro e w2 ⟨A2, m2, c2, rfl, ho2, hb2⟩
    have hbw2 := hb1.trans (hb2.mono hb1.size)
    have hd2 := rd_own ho2
    have hm2' : m2 ≤ 40 := by rw [← hd2.hlen]; exact HDL.out
    have C2 := hide (rdeals_any A2 m2 c2 (doneL h) w2 hd2 (by omega))
    clear C1 ho2 hb2 hb1 hd2
    go_wp2_with fail
    refine (unhide C2).mono ?_
    rintro e w3 ⟨v3, rfl, ho3, hb3⟩
    have hbw3 := hbw2.trans (hb3.mono hbw2.size)
    have hup := Lib.hid (dealsL_up (doneL h))
    obtain ⟨q, hq⟩ : ∃ q, (dealsL (doneL h)).length = q := ⟨_, rfl⟩
    have hq40 : q ≤ 40 := by rw [← hq]; exact Nat.le_trans deals_le HDL.out
    rw [hq] at ho3
    obtain ⟨A3, c3, rfl⟩ := own_slice ho3
    have hd3 := rd_own ho3
    have K3 := hide (fun w' (hb : Below w3.heap.size w3 w') => And.intro (hbw3.trans (hb.mono hbw3.size)) ((hd3.below hb).more hb.size))
    have HQ := Lib.hid hq
    clear C2 ho3 hb3 hbw2 hd3 hq hbw3
    go_wp2
    go_loopw [9, 10] (fun s9 s10 wr => ∃ k : Nat, k ≤ m ∧ s10 = .int .i64 k ∧ wr.ownsRow w3.heap.size 3 1 s9 (sortS ltI (p.take k)).length (cellsI (sortS ltI (p.take k))) ∧ Below w3.heap.size w3 wr) (fun _ s10 _ => m - (intOf s10).toNat)
    case atStart => exact ⟨0, Nat.zero_le _, rfl, World.ownsRow_nil _ _ _ _, Below.refl _ _⟩
    case round =>
      obtain ⟨k, hk, rfl, ho9, hbx⟩ := hrel
      obtain ⟨A9, c9, rfl⟩ := own_slice ho9
      have hle : (sortS ltI (p.take k)).length ≤ k := by
        have := sortS_le (p.take k)
        rw [List.length_take] at this
        omega
      by_cases hlt : k < m
      · obtain ⟨b, off, x, he, hb, hx, c0⟩ := (unhide HPd wr (unhide K3 wr hbx).1).int (k := k) hlt
        cases he
        have HS := Lib.hid (sortS_take hx)
        generalize sortS ltI (p.take k) = L at *
        have C := hide (rput_any A9 L.length c9 L x wr (rd_own ho9) (by omega))
        clear hx ho9
        go_wp2_with fail
        refine (unhide C).mono ?_
        rintro e w4 ⟨v4, rfl, ho4, hb4⟩
        rw [← HS.out] at ho4
        have ho5 := own_mono ho4 hbx.size
        have hbx4 := hbx.trans (hb4.mono hbx.size)
        clear C ho4 hb4
        go_wp2
        go_roundw
        case rel => exact ⟨k + 1, by omega, by go_num, ho5, hbx4⟩
        case measure => simp [intOf]; omega
      · have hT : p.take k = p := List.take_of_length_le (by rw [HPL.out]; omega)
        have HSS : Hid (sortS ltI (p.take k) = sortS ltI p) := Lib.hid (by rw [hT])
        have hd9 := rd_own ho9
        obtain ⟨hbw, hd3⟩ := unhide K3 wr hbx
        generalize sortS ltI (p.take k) = S at *
        have HSO := Lib.hid (sort_once (o := p) hup.out)
        rw [← HSS.out, HQ.out, HPL.out] at HSO
        clear ho9 hT
        by_cases hmq : m = q
        · have CQ := hide (ints_any A9 A3 S.length q c9 c3 S (dealsL (doneL h)) wr hd9 hd3 (by omega))
          clear hd9 hd3
          have t1 : ((m : Int) != (q : Int)) = false := by simp [hmq]
          by_cases hSD : S = dealsL (doneL h)
          · have h0 : serE h p = 0 := by rw [HS0.out, if_pos (HSO.out.2 ⟨hmq, hSD⟩)]
            have hm6 := HSE.out h0
            have HL0 : Hid (serL h p = alongL (doneL h) p) := Lib.hid (by rw [HSL.out, if_pos h0])
            have H0 := Lib.hid h0
            rw [decide_eq_true hSD] at CQ
            clear hSD hmq h0 HSO HSL
            go_wp2_with fail
            refine (unhide CQ).mono ?_
            rintro e w5 ⟨rfl, hb5⟩
            have hbw5 := hbw.trans (hb5.mono hbw.size)
            have C5 := hide (unhide CD w5 hbw5)
            clear CQ hb5 hbw
            go_wp2_with fail
            refine (unhide C5).mono ?_
            rintro e w6 ⟨A6, m6, c6, rfl, ho6, hb6⟩
            have hbw6 := hbw5.trans (hb6.mono hbw5.size)
            have hd6 := rd_own ho6
            have hm6' : m6 ≤ 40 := by rw [← hd6.hlen]; exact HDL.out
            have C6 := hide (ralong_any A6 B m6 m c6 d (doneL h) p w6 hd6 (unhide HPd w6 hbw6) (by omega) (by omega))
            clear C5 hb6 hbw5 ho6 hd6
            go_wp2_with fail
            refine (unhide C6).mono ?_
            rintro e w7 ⟨v7, k7, rfl, ho7, hk7, hb7⟩
            obtain ⟨A7, c7, rfl⟩ := own_slice ho7
            have hd7 := rd_own ho7
            have hbw7 := hbw6.trans (hb7.mono hbw6.size)
            have hq2 : m * m6 ≤ 6 * 40 := Nat.mul_le_mul hm6 hm6'
            rw [← HL0.out] at hd7
            go_wp2
            go_meet
            case rel => exact ⟨by rw [H0.out], hbw7, _, _, _, rfl, by omega, hd7⟩
          · have h3 : serE h p = 3 := by rw [HS0.out, if_neg (fun e => hSD (HSO.out.1 e).2)]
            have HL0 : Hid (serE h p = 3 ∧ serL h p = []) := Lib.hid ⟨h3, by rw [HSL.out, if_neg (by omega)]⟩
            rw [decide_eq_false hSD] at CQ
            clear hSD hmq h3 HSO HSL
            go_wp2_with fail
            refine (unhide CQ).mono ?_
            rintro e w5 ⟨rfl, hb5⟩
            have hbw5 := hbw.trans (hb5.mono hbw.size)
            go_wp2
            go_meet
            case rel => exact ⟨by rw [HL0.out.1], hbw5, none, 0, 0, rfl, by omega, by rw [HL0.out.2]; exact Rd.nil⟩
        · have t1 : ((m : Int) != (q : Int)) = true := by simp; omega
          have h3 : serE h p = 3 := by rw [HS0.out, if_neg (fun e => hmq (HSO.out.1 e).1)]
          have HL0 : Hid (serE h p = 3 ∧ serL h p = []) := Lib.hid ⟨h3, by rw [HSL.out, if_neg (by omega)]⟩
          clear hmq h3 HSO HSL hd9 hd3
          go_wp2
          go_meet
          case rel => exact ⟨by rw [HL0.out.1], hbw, none, 0, 0, rfl, by omega, by rw [HL0.out.2]; exact Rd.nil⟩
  case rest =>
    obtain ⟨wo, rfl⟩ : ∃ wo : World, wo = wc := ⟨_, rfl⟩
    obtain ⟨rfl, hbwc, A0, k0, c0, rfl, hk0, hd0⟩ := hcut
    clear hb1
    have C1 := hide (unhide CS wo hbwc)
    generalize serE h p = se at *
    generalize serL h p = sl at *
    clear CS HS0 HSL HSE
    go_wp2_with fail
    refine (unhide C1).mono ?_
    rintro e w2 ⟨v2, k2, rfl, ho2, hk2, hb2⟩
    obtain ⟨A2, c2, rfl⟩ := own_slice ho2
    have hbw2 := hbwc.trans (hb2.mono hbwc.size)
    have hd2 := rd_own ho2
    have hd02 := (hd0.below hb2).more hb2.size
    have C2 := hide (unhide CE se w2 hbw2)
    clear C1 hb2 hd0 ho2 hbwc
    go_wp2_with fail
    refine (unhide C2).mono ?_
    rintro e w3 ⟨rfl, hb3⟩
    have hbw3 := hbw2.trans (hb3.mono hbw2.size)
    have C3 := hide (ops_any A2 A0 k2 k0 c2 c0 sl sl w3 ((hd2.below hb3).more hb3.size) ((hd02.below hb3).more hb3.size) (by omega))
    rw [decide_eq_true rfl] at C3
    clear C2 hb3 hd2 hd02 hbw2
    go_wp2_with fail
    refine (unhide C3).mono ?_
    rintro e w4 ⟨rfl, hb4⟩
    have hbw4 := hbw3.trans (hb4.mono hbw3.size)
    clear C3 hb4 hbw3
    go_upto_if 76 with fail
    go_cut [6, 14, 15] (fun s6 s14 s15 wx => s6 = .int .i64 (ordE h) ∧ s15 = .bool (isV h) ∧ Below w.heap.size w wx ∧ ∃ A k c, s14 = .slice A k c ∧ Rd wx wx.heap.size 1 A k (cellsI (ordL h)))
    case first =>
      have C4 := hide (unhide CD w4 hbw4)
      go_wp2_with fail
      refine (unhide C4).mono ?_
      rintro e w5 ⟨A5, m5, c5, rfl, ho5, hb5⟩
      have hbw5 := hbw4.trans (hb5.mono hbw4.size)
      have hd5 := rd_own ho5
      have hm5 : m5 ≤ 40 := by rw [← hd5.hlen]; exact HDL.out
      have HL5 := Lib.hid hd5.hlen
      have K5 := hide (fun w' (hb : Below w5.heap.size w5 w') => And.intro (hbw5.trans (hb.mono hbw5.size)) ((hd5.below hb).more hb.size))
      clear C4 hb5 hbw4 ho5 hd5 hbw5
      go_wp2
      go_loopw [17, 18] (fun s17 s18 wr => ∃ (k p : Nat) (l : Int), k ≤ m5 ∧ p ≤ k ∧ s17 = .int .i64 p ∧ s18 = .int .i64 k ∧ Hid (pcsN 0 (doneL h) = p + pcsN l ((doneL h).drop k)) ∧ (k = 0 ∧ l = 0 ∨ ∃ (j : Nat) (o : HOp), k = j + 1 ∧ (doneL h)[j]? = some o ∧ o.tx = l) ∧ Below w5.heap.size w5 wr) (fun _ s18 _ => m5 - (intOf s18).toNat)
      case atStart => exact ⟨0, 0, 0, Nat.zero_le _, Nat.le_refl _, rfl, rfl, Lib.hid (by simp), .inl ⟨rfl, rfl⟩, Below.refl _ _⟩
      case round =>
        obtain ⟨k, p', l, hk, hp', rfl, rfl, HX, hcs, hbx⟩ := hrel
        obtain ⟨hbw, hd5⟩ := unhide K5 wr hbx
        by_cases hlt : k < m5
        · obtain ⟨b, off, o, he, hb, ho, c0', c1', c2'⟩ := hd5.op (k := k) hlt
          cases he
          have HS := Lib.hid (pcsN_step (p := l) (drop_at ho))
          have hotx := HTX.out o (List.mem_of_getElem? ho)
          have HO := Lib.hid ho
          have k0' : (0 : Int) ≤ (k : Int) := by omega
          have k1' : (k : Int) < (m5 : Int) := by omega
          rcases hcs with ⟨rfl, rfl⟩ | ⟨j, o', hkj, ho', rfl⟩
          · have HX2 : Hid (pcsN 0 (doneL h) = (p' + 1 : Nat) + pcsN o.tx ((doneL h).drop (0 + 1))) := Lib.hid (by rw [HX.out, HS.out, if_neg (by omega)]; omega)
            clear HX HS ho hotx
            go_wp2
            go_quiet (fail)
            go_wp2
            go_roundw
            case rel => exact ⟨1, p' + 1, o.tx, by omega, by omega, by go_num, by go_num, HX2, .inr ⟨0, o, rfl, HO.out, rfl⟩, below_drewN hbx _⟩
            case measure => simp [intOf]; omega
          · obtain ⟨_, _, o2, he, _, ho2, d0', d1', d2'⟩ := hd5.op (k := j) (by omega)
            cases he
            rw [ho'] at ho2
            cases ho2
            have i2 : IntKind.i64.wrap ((k : Int) - 1) = (j : Int) := by
              rw [show (j : Int) = (k : Int) - 1 by omega]; exact IntWalk.i64_in _ (by omega)
            have i3 : ((k : Int) == 0) = false := by simp; omega
            have i4 : (0 : Int) ≤ (j : Int) := by omega
            have i5 : (j : Int) < (m5 : Int) := by omega
            have hk1 : 1 ≤ k := by omega
            clear hkj
            by_cases hot : o.tx = o'.tx
            · have HX2 : Hid (pcsN 0 (doneL h) = (p' : Nat) + pcsN o.tx ((doneL h).drop (k + 1))) := Lib.hid (by rw [HX.out, HS.out, if_pos hot]; omega)
              have t1 : (o.tx != o'.tx) = false := by simp [hot]
              clear HX HS ho hotx hot ho'
              obtain ⟨o1, o2, o3⟩ := o
              obtain ⟨z1, z2, z3⟩ := o'
              simp only at c0' c1' c2' d0' d1' d2' t1
              go_wp2
              go_quiet (fail)
              go_wp2
              go_roundw
              case rel => exact ⟨k + 1, p', o1, by omega, by omega, by first | rfl | go_num, by go_num, HX2, .inr ⟨k, _, rfl, HO.out, rfl⟩, below_drewN hbx _⟩
              case measure => simp [intOf]; omega
            · have HX2 : Hid (pcsN 0 (doneL h) = (p' + 1 : Nat) + pcsN o.tx ((doneL h).drop (k + 1))) := Lib.hid (by rw [HX.out, HS.out, if_neg hot]; omega)
              have t1 : (o.tx != o'.tx) = true := by simp [hot]
              clear HX HS ho hotx hot ho'
              obtain ⟨o1, o2, o3⟩ := o
              obtain ⟨z1, z2, z3⟩ := o'
              simp only at c0' c1' c2' d0' d1' d2' t1
              go_wp2
              go_quiet (fail)
              go_wp2
              go_roundw
              case rel => exact ⟨k + 1, p' + 1, o1, by omega, by omega, by first | rfl | go_num, by go_num, HX2, .inr ⟨k, _, rfl, HO.out, rfl⟩, below_drewN hbx _⟩
              case measure => simp [intOf]; omega
        · have HP : Hid (pcsN 0 (doneL h) = p') := Lib.hid (by rw [HX.out, drop_end (by rw [HL5.out]; omega)]; rfl)
          have C5 := hide (rdeals_any A5 m5 c5 (doneL h) wr hd5 (by omega))
          clear HX hcs
          go_wp2_with fail
          refine (unhide C5).mono ?_
          rintro e w6 ⟨v6, rfl, ho6, hb6⟩
          obtain ⟨q, hq⟩ : ∃ q, (dealsL (doneL h)).length = q := ⟨_, rfl⟩
          rw [hq] at ho6
          obtain ⟨A6, c6, rfl⟩ := own_slice ho6
          have HV2 : Hid (isV h = ((p' : Int) == (q : Int))) := Lib.hid (by rw [HV.out, HP.out, hq, nat_beq])
          have hbw6 := hbw.trans (hb6.mono hbw.size)
          have C6 := hide (unhide CRO w6 hbw6)
          clear C5 hb6 hbw ho6 hq HP HV CRO hd5 hbx
          go_wp2_with fail
          refine (unhide C6).mono ?_
          rintro e w7 ⟨v7, k7, r7, L7, rfl, ho7, hcs, hb7⟩
          obtain ⟨A7, c7, rfl⟩ := own_slice ho7
          have hd7 := rd_own ho7
          have hbw7 := hbw6.trans (hb7.mono hbw6.size)
          clear C6 hb7 hbw6 ho7
          rcases hcs with ⟨ht, rfl⟩ | ⟨ht, rfl, rfl⟩
          · have HH := Lib.hid (HOS.out _ ht)
            clear ht HOS HON
            go_wp2
            go_meet
            case rel => exact ⟨by rw [HH.out.1], by rw [HV2.out], hbw7, _, _, _, rfl, by rw [HH.out.2]; exact hd7⟩
          · have HH := Lib.hid (HON.out ht)
            clear ht HOS HON
            go_wp2
            go_meet
            case rel => exact ⟨by rw [HH.out.1], by rw [HV2.out], hbw7, _, _, _, rfl, by rw [HH.out.2]; exact hd7⟩
    case rest =>
      obtain ⟨rfl, rfl, hbw5, A5, k5, c5, rfl, hd5⟩ := hcut
      clear hbw4
      have hk5 : k5 ≤ 6 := by rw [← hd5.ilen]; exact HOL.out
      have C5 := hide (unhide CO wc hbw5)
      generalize ordE h = oe at *
      generalize isV h = iv at *
      generalize ordL h = ol at *
      have tv : (iv == iv) = true := by simp
      clear CO HV CRO CD
      go_wp2_with fail
      refine (unhide C5).mono ?_
      rintro e w6 ⟨v6, k6, rfl, ho6, hb6⟩
      obtain ⟨A6, c6, rfl⟩ := own_slice ho6
      have hd6 := rd_own ho6
      have hk6 : k6 ≤ 6 := by rw [← hd6.ilen]; exact HOL.out
      have hbw6 := hbw5.trans (hb6.mono hbw5.size)
      have hd56 := (hd5.below hb6).more hb6.size
      have C6 := hide (unhide CE oe w6 hbw6)
      clear C5 hb6 ho6 hd5 hbw5
      go_wp2_with fail
      refine (unhide C6).mono ?_
      rintro e w7 ⟨rfl, hb7⟩
      have hbw7 := hbw6.trans (hb7.mono hbw6.size)
      have C7 := hide (ints_any A6 A5 k6 k5 c6 c5 ol ol w7 ((hd6.below hb7).more hb7.size) ((hd56.below hb7).more hb7.size) (by omega))
      rw [decide_eq_true rfl] at C7
      clear C6 hb7 hd6 hd56 hbw6
      go_wp2_with fail
      refine (unhide C7).mono ?_
      rintro e w8 ⟨rfl, hb8⟩
      have hbw8 := hbw7.trans (hb8.mono hbw7.size)
      have C8 := hide (unhide CI w8 hbw8)
      clear C7 hb8 hbw7 CI
      go_wp2_with fail
      refine (unhide C8).mono ?_
      rintro e w9 ⟨rfl, hb9⟩
      have hbw9 := hbw8.trans (hb9.mono hbw8.size)
      have C9 := hide (unhide CE0 w9 hbw9)
      clear C8 hb9 hbw8
      go_wp2_with fail
      refine (unhide C9).mono ?_
      rintro e w10 ⟨rfl, hb10⟩
      have hbw10 := hbw9.trans (hb10.mono hbw9.size)
      go_wp2
      go_ret
      exact ⟨rfl, hbw10⟩
set_option maxRecDepth 100000 in
theorem walk (A : Option Addr) (n c : Nat) (h : List HOp) (B : Option Addr) (m d : Nat) (p : List Int) (w : World) (hE : Et w) (hr : Rd w w.heap.size 3 A n (cellsH h)) (hn : n * 24 ≤ 140737488351232) (hp : Rd w w.heap.size 1 B m (cellsI p)) (hmb : m * 8 ≤ 140737488351232) :
    Calls Tryz.prog 3 #[.slice A n c, .slice B m d] w fun e w' => e = .returned (.bool true) ∧ Below w.heap.size w w' := by
  by_cases hok : okH h
  · exact walk_ok A n c h B m d p w hE hr hp (by omega) hok
  · exact walk_no A n c h B m d p w hE hr (by omega) hp (by omega) hok
theorem bytes_ints : Tryz.prog.bytesOf 3 = 8 := by kernel_rfl
theorem bytes_ops : Tryz.prog.bytesOf 37 = 24 := by kernel_rfl

/-! ### The row. -/
set_option maxRecDepth 100000 in
theorem lifted (os : Os) (started : os.Started) (H : Type) (enc : TypeId × Value → H) :
    ReturnsInHanded {} Tryz.checked os 3 .any (fun w args => (Rows.serialTellsSpec.pre enc Tryz.prog Tryz.f3 [] false w args ∧ laidMetH Tryz.prog dLaid w) ∧ sizedMet enc Tryz.prog Tryz.f3 (OpenSpec.ofChange Rows.serialTellsSpec) false w args) (Rows.serialTellsSpec.post enc Tryz.prog Tryz.f3 false true false false) := by
  refine returnsInHanded_of_change_and (C := Tryz.checked) (X := fun w _ => laidMetH Tryz.prog dLaid w) (fun _ _ _ hh h => h.of_heap hh) dOwn started (by kernel_rfl) Tryz.func3
    (ChangeSpec.witness_at (enc := enc) (C := Tryz.checked) (os := os) (X := fun w _ => laidMetH Tryz.prog dLaid w) false (laidWorld os) #[.slice none 0 0, .slice none 0 0] 8 rfl (by kernel_rfl) (by kernel_rfl) (by kernel_rfl) (by kernel_rfl) (by kernel_rfl) (laidWorld_met os _)) ?_
  intro W base args ds gs before hval0 hW hcnd hsz0 hL _
  have hval : ∀ (j : Nat) t v, Tryz.f3.params[j]? = some t → args[j]? = some v → Value.okWide Tryz.prog W .any base t v := hval0
  have hW' := hW
  obtain ⟨p, q, hA0, hV, rfl, hfz, hnd⟩ := hW
  have hA : DataW.TrodAll enc Tryz.prog W 0 (fun _ => true) true Tryz.f3.params.toList args.toList ds p := hA0
  have hsz : (DataW.weightsEach Tryz.prog (Tryz.f3.params.toList ++ Rows.serialTellsSpec.plain.varTypes Tryz.prog) (ds ++ gs)).all (· ≤ reachBytes) = true := hsz0
  rw [Tryz.params3] at hA hval hsz
  obtain ⟨v0, vs0, d0, ds0, p0, q0, hargs, rfl, rfl, h0, r0⟩ := trodAll_cons hA
  obtain ⟨v1, vs1, d1, ds1, p1, q1, rfl, rfl, rfl, h1, r1⟩ := trodAll_cons r0
  obtain ⟨rfl, rfl, rfl⟩ := trodAll_nil r1
  obtain rfl : args = #[v0, v1] := by cases args; simp_all
  obtain ⟨rfl, rfl⟩ := trodVars_none hV
  simp only [List.append_nil] at hW'
  have hk0 := h0
  have hlt0 : ∀ x ∈ p0, x.block < W.heap.size := fun x hx => hW'.lt x (by simp [hx])
  obtain ⟨A0, n0, c0, l0, rfl, rd0, bd0⟩ := open_ops Tryz.underlying22 Tryz.underlying37 Tryz.underlying3 rfl rfl rfl (by kernel_rfl) (by kernel_rfl) (hval 0 22 v0 rfl rfl) h0 (fun e s he => by have := sized_slice hsz (j := 0) (t := 22) (e := 37) rfl (congrArg some he) Tryz.underlying22; rwa [bytes_ops] at this)
  have hk1 := h1
  have hlt1 : ∀ x ∈ p1, x.block < W.heap.size := fun x hx => hW'.lt x (by simp [hx])
  obtain ⟨A1, n1, c1, l1, rfl, rd1, bd1⟩ := open_is Tryz.underlying23 Tryz.underlying3 (by kernel_rfl) (hval 1 23 v1 rfl rfl) h1 (fun e s he => by have := sized_slice hsz (j := 1) (t := 23) (e := 3) rfl (congrArg some he) Tryz.underlying23; rwa [bytes_ints] at this)
  clear hA0 hval0
  refine (walk A0 n0 c0 l0 A1 n1 c1 l1 W (et_of_laid hL) rd0 bd0 rd1 bd1).mono fun e W' ⟨he, hg⟩ => ?_
  subst he
  exact ⟨_, rfl, post_slices (pa := _) (pv := []) hW' hg (by simp) (fun _ _ _ => (trodAll_cons_mk (shut_bool Tryz.underlying4 _) trodAll_mk0)) (trodAll_cons_mk (Below.trod laidOut (by kernel_rfl) (of_decide_eq_true (by kernel_rfl)) hk0 hg hlt0) (trodAll_cons_mk (Below.trod laidOut (by kernel_rfl) (of_decide_eq_true (by kernel_rfl)) hk1 hg hlt1) trodAll_mk0)) rfl⟩

theorem over : Rows.SerialTellsSaid :=
  OpenClaim.holds_of_wide 3 Tryz.f3 rfl rfl rfl rfl rfl rfl rfl ⟨rfl, rfl, rfl, rfl, rfl⟩ rfl rfl rfl rfl rfl (by kernel_rfl) Tryz.func3 (by kernel_rfl)
    (of_decide_eq_true (by kernel_rfl)) (by unfold Func.isWrapper; first | (rw [if_pos (by decide +kernel)]; kernel_rfl) | (rw [if_neg (by decide +kernel)]; exact ⟨rfl, rfl⟩))
    (fun os started H enc _ => lifted os started H enc)

/-- The statement: the tied card. -/
theorem proved : Rows.SerialTellsCardSaid :=
  Claim7.holds_tied_plain_at .later [] [.handle] true _ true
    over (fun _ h => by cases h) (by kernel_rfl) (fun _ h => by cases h) serialTells_row_tie rfl ⟨rfl, rfl⟩ (by kernel_rfl) rfl
    (fun f fn hf hfn => by
      obtain rfl : f = 3 := Option.some.inj ((show Tryz.prog.funcNamed "locklane/lanelaw1.SerialTells" = some 3 by kernel_rfl).symm.trans hf) |>.symm
      obtain rfl : fn = Tryz.f3 := (Option.some.inj (Tryz.func3.symm.trans hfn)).symm
      exact ⟨by kernel_rfl, fun j t ht => by
        rw [Tryz.params3] at ht
        have hm : t ∈ [22, 23] := by have := Array.mem_of_getElem? ht; simpa using this
        have hall : ([22, 23].all fun u => !Tryz.prog.wantsStandIn u) = true := by kernel_rfl
        exact (show Tryz.prog.wantsStandIn t = false by simpa using List.all_eq_true.1 hall t hm)⟩)
    (by kernel_rfl)
#print axioms proved
end Go.Proofs.YtkpnpkikonlmpaaGreatDoor.serialTells

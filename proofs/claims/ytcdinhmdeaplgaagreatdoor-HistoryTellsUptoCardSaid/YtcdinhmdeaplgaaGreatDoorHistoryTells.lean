
/-
  PROVED: the tied card of lanelaw1.HistoryTells's second form (the input of bulk at most 1048576): it returns true: which op of any history is wrong, and how; its deals, any one's ops, what is done; as text, any text as one. Condition: the listed variables begin as the program's text lays them (the card ties them); the bound; the form's own reach.
-/
import Derived.Test.YtcdinhmdeaplgaaGreatDoorQ7
import Derived.Test.YtcdinhmdeaplgaaGreatDoorQ20
import Derived.Test.YtcdinhmdeaplgaaGreatDoorQ21
import Derived.Test.YtcdinhmdeaplgaaGreatDoorQ23
import Derived.Test.YtcdinhmdeaplgaaGreatDoorQ22
import Derived.Test.YtcdinhmdeaplgaaGreatDoorRAlong
import Derived.Test.YtcdinhmdeaplgaaGreatDoorQ28
import Derived.Test.YtcdinhmdeaplgaaGreatDoorPieces
import Derived.Deep.DeepHandedRow
import Derived.Deep.DeepWitnessRowRef

namespace Go.Proofs.YtcdinhmdeaplgaaGreatDoor.historyTells
open Go.ChangeShapes Go.WideShapes Go.ChangeAt Go.RowKit Go.Deep Go.Lib Go.Proofs.YtcdinhmdeaplgaaGreatDoor

theorem parseL_len (t : List UInt8) : (parseL t).length ≤ 40 := by
  by_cases h : parseE t = 0
  · exact okH_len (print_parse h).1
  · rw [parseL_bad h]; simp

set_option maxRecDepth 100000 in
set_option maxHeartbeats 8000000 in
theorem walk_no (A : Option Addr) (n c : Nat) (h : List HOp) (tx : Int) (t : List UInt8) (w : World) (hE : Et w) (hM : Mx w) (hr : Rd w w.heap.size 3 A n (cellsH h)) (hn : n ≤ 6000000000000) (ht : t.length ≤ 1048576) (hno : ¬ okH h) :
    Calls Tryz.prog 3 #[.slice A n c, .int .i64 tx, .string ⟨t.toArray⟩] w fun e w' => e = .returned (.bool true) ∧ Below w.heap.size w w' := by
  have hz0 := hE.pos
  have CE := hide (fun x w1 (hb : Below w.heap.size w w1) => error_same x w1 (hE.below hb hz0))
  have CE0 := hide (fun w1 (hb : Below w.heap.size w w1) => unhide CE 0 w1 hb)
  rw [errV_zero] at CE0
  have HRd := hide (fun w1 (hb : Below w.heap.size w w1) => (hr.below hb).more hb.size)
  have CH := hide (rhistory_any A n c h w hr hn)
  have CK := hide (fun w1 (hb : Below w.heap.size w w1) => check_any A n c h w1 (unhide HRd w1 hb) hn)
  have CR := hide (fun w1 => rread_any t w1 (by omega))
  have CP := hide (fun w1 (hb : Below w.heap.size w w1) => parse_any t w1 (hM.below hb hM.pos) (by omega))
  have CTX := hide (fun w1 => rtx_any tx w1)
  have HPL := Lib.hid (parseL_len t)
  have CDl := hide (fun w1 (hb : Below w.heap.size w w1) => hdeals_no A n c h w1 (unhide HRd w1 hb) hn hno)
  have CDn := hide (fun w1 (hb : Below w.heap.size w w1) => (done_any A n c h w1 (unhide HRd w1 hb) hn).2 hno)
  have CPr := hide (fun w1 (hb : Below w.heap.size w w1) => print_no A n c h w1 (unhide HRd w1 hb) hn hno)
  have COf := hide (fun w1 (hb : Below w.heap.size w w1) => of_no A n c h tx w1 (unhide HRd w1 hb) hn hno)
  have q0 : ((checkF h).2 == 0) = false := by simpa using (show (checkF h).2 ≠ 0 from hno)
  have CII := hide (fun w1 => ints_any none none 0 0 0 0 [] [] w1 Rd.nil Rd.nil (by omega))
  have COO := hide (fun w1 => ops_any none none 0 0 0 0 [] [] w1 Rd.nil Rd.nil (by omega))
  rw [decide_eq_true (show ([] : List Int) = [] from rfl)] at CII
  rw [decide_eq_true (show ([] : List HOp) = [] from rfl)] at COO
  have hst : ((⟨#[]⟩ : ByteArray).toList == (⟨#[]⟩ : ByteArray).toList) = true := by simp
  have hat : ((checkF h).1 == (checkF h).1) = true := by simp
  generalize (checkF h).2 = ev at *
  generalize (checkF h).1 = av at *
  clear hE hM hr hno ht
  go_enter Tryz.func3, Tryz.ntmps3
  go_wp2_with fail
  refine (unhide CH).mono ?_
  rintro e w1 ⟨rfl, hb1⟩
  have hbw1 := hb1
  have CX1 := hide (unhide CK w1 hbw1)
  go_wp2_with fail
  refine (unhide CX1).mono ?_
  rintro e w2 ⟨rfl, hb2⟩
  have hbw2 := hbw1.trans (hb2.mono hbw1.size)
  have hs2 := hbw2.size
  clear CX1 
  have CX2 := hide (unhide CE ev w2 hbw2)
  go_wp2_with fail
  refine (unhide CX2).mono ?_
  rintro e w3 ⟨rfl, hb3⟩
  have hbw3 := hbw2.trans (hb3.mono hbw2.size)
  have hs3 := hbw3.size
  clear CX2 
  have CX3 := hide (unhide CDl w3 hbw3)
  go_wp2_with fail
  refine (unhide CX3).mono ?_
  rintro e w4 ⟨rfl, hb4⟩
  have hbw4 := hbw3.trans (hb4.mono hbw3.size)
  have hs4 := hbw4.size
  clear CX3 
  have CX4 := hide (unhide CE ev w4 hbw4)
  go_wp2_with fail
  refine (unhide CX4).mono ?_
  rintro e w5 ⟨rfl, hb5⟩
  have hbw5 := hbw4.trans (hb5.mono hbw4.size)
  have hs5 := hbw5.size
  clear CX4 
  have CX5 := hide (unhide CII w5)
  go_wp2_with fail
  refine (unhide CX5).mono ?_
  rintro e w6 ⟨rfl, hb6⟩
  have hbw6 := hbw5.trans (hb6.mono hbw5.size)
  have hs6 := hbw6.size
  clear CX5 
  have CX6 := hide (unhide CDn w6 hbw6)
  go_wp2_with fail
  refine (unhide CX6).mono ?_
  rintro e w7 ⟨rfl, hb7⟩
  have hbw7 := hbw6.trans (hb7.mono hbw6.size)
  have hs7 := hbw7.size
  clear CX6 
  have CX7 := hide (unhide CE ev w7 hbw7)
  go_wp2_with fail
  refine (unhide CX7).mono ?_
  rintro e w8 ⟨rfl, hb8⟩
  have hbw8 := hbw7.trans (hb8.mono hbw7.size)
  have hs8 := hbw8.size
  clear CX7 
  have CX8 := hide (unhide COO w8)
  go_wp2_with fail
  refine (unhide CX8).mono ?_
  rintro e w9 ⟨rfl, hb9⟩
  have hbw9 := hbw8.trans (hb9.mono hbw8.size)
  have hs9 := hbw9.size
  clear CX8 
  have CX9 := hide (unhide CPr w9 hbw9)
  go_wp2_with fail
  refine (unhide CX9).mono ?_
  rintro e w10 ⟨rfl, hb10⟩
  have hbw10 := hbw9.trans (hb10.mono hbw9.size)
  have hs10 := hbw10.size
  clear CX9 
  have CX10 := hide (unhide CE ev w10 hbw10)
  go_wp2_with fail
  refine (unhide CX10).mono ?_
  rintro e w11 ⟨rfl, hb11⟩
  have hbw11 := hbw10.trans (hb11.mono hbw10.size)
  have hs11 := hbw11.size
  clear CX10 
  have CX11 := hide (unhide CTX w11)
  go_wp2_with fail
  refine (unhide CX11).mono ?_
  rintro e wx ⟨rfl, rfl⟩
  clear CX11
  have CX11 := hide (unhide COf w11 hbw11)
  go_wp2_with fail
  refine (unhide CX11).mono ?_
  rintro e w12 ⟨rfl, hb12⟩
  have hbw12 := hbw11.trans (hb12.mono hbw11.size)
  have hs12 := hbw12.size
  clear CX11 
  have CX12 := hide (unhide CE ev w12 hbw12)
  go_wp2_with fail
  refine (unhide CX12).mono ?_
  rintro e w13 ⟨rfl, hb13⟩
  have hbw13 := hbw12.trans (hb13.mono hbw12.size)
  have hs13 := hbw13.size
  clear CX12 
  have CX13 := hide (unhide COO w13)
  go_wp2_with fail
  refine (unhide CX13).mono ?_
  rintro e w14 ⟨rfl, hb14⟩
  have hbw14 := hbw13.trans (hb14.mono hbw13.size)
  have hs14 := hbw14.size
  clear CX13 
  have C14r := hide (unhide CR w14)
  generalize htb : (⟨t.toArray⟩ : ByteArray) = tb at *
  go_wp2_with fail
  refine (unhide C14r).mono ?_
  rintro e w15 ⟨v15, m15, rfl, ho15, hb15⟩
  have hbw15 := hbw14.trans (hb15.mono hbw14.size)
  have hs15 := hbw15.size
  obtain ⟨A15, c15, rfl⟩ := own_slice ho15
  have hd15 := rd_own ho15
  have C15r := hide (unhide CP w15 hbw15)
  clear ho15 C14r
  go_wp2_with fail
  refine (unhide C15r).mono ?_
  rintro e w16 ⟨v16, m16, rfl, ho16, hb16⟩
  have hbw16 := hbw15.trans (hb16.mono hbw15.size)
  have hs16 := hbw16.size
  obtain ⟨A16, c16, rfl⟩ := own_slice ho16
  have hd16 := rd_own ho16
  have hq16 : m16 ≤ 40 := by rw [← hd16.hlen]; exact HPL.out
  have hda16 := (hd15.below hb16).more hb16.size
  have CEl := hide (unhide CE (parseE t) w16 hbw16)
  generalize parseE t = pe at *
  generalize parseL t = pl at *
  clear ho16 C15r hd15
  go_wp2_with fail
  refine (unhide CEl).mono ?_
  rintro e w17 ⟨rfl, hb17⟩
  have hbw17 := hbw16.trans (hb17.mono hbw16.size)
  have hs17 := hbw17.size
  have COl := hide (ops_any A16 A15 m16 m15 c16 c15 pl pl w17 ((hd16.below hb17).more hb17.size) ((hda16.below hb17).more hb17.size) (by omega))
  rw [decide_eq_true (show pl = pl from rfl)] at COl
  clear CEl hd16 hda16
  go_wp2_with fail
  refine (unhide COl).mono ?_
  rintro e w18 ⟨rfl, hb18⟩
  have hbw18 := hbw17.trans (hb18.mono hbw17.size)
  have hs18 := hbw18.size
  go_wp2
  go_ret
  exact ⟨rfl, hbw18⟩
set_option maxRecDepth 100000 in
set_option maxHeartbeats 8000000 in
theorem walk_ok (A : Option Addr) (n c : Nat) (h : List HOp) (tx : Int) (t : List UInt8) (w : World) (hE : Et w) (hM : Mx w) (hr : Rd w w.heap.size 3 A n (cellsH h)) (hn : n ≤ 6000000000000) (ht : t.length ≤ 1048576) (hok : okH h) (htx : 1 ≤ tx ∧ tx ≤ 6) :
    Calls Tryz.prog 3 #[.slice A n c, .int .i64 tx, .string ⟨t.toArray⟩] w fun e w' => e = .returned (.bool true) ∧ Below w.heap.size w w' := by
  have hz0 := hE.pos
  have CE := hide (fun x w1 (hb : Below w.heap.size w w1) => error_same x w1 (hE.below hb hz0))
  have CE0 := hide (fun w1 (hb : Below w.heap.size w w1) => unhide CE 0 w1 hb)
  rw [errV_zero] at CE0
  have HRd := hide (fun w1 (hb : Below w.heap.size w w1) => (hr.below hb).more hb.size)
  have CH := hide (rhistory_any A n c h w hr hn)
  have CK := hide (fun w1 (hb : Below w.heap.size w w1) => check_any A n c h w1 (unhide HRd w1 hb) hn)
  have CR := hide (fun w1 => rread_any t w1 (by omega))
  have CP := hide (fun w1 (hb : Below w.heap.size w w1) => parse_any t w1 (hM.below hb hM.pos) (by omega))
  have CTX := hide (fun w1 => rtx_any tx w1)
  have HPL := Lib.hid (parseL_len t)
  have hn40 : n ≤ 40 := by rw [← hr.hlen]; exact okH_len hok
  have hdn : (doneL h).length ≤ 40 := okH_len (okH_done hok)
  have CRD := hide (fun w1 (hb : Below w.heap.size w w1) => rdeals_any A n c h w1 (unhide HRd w1 hb) (by omega))
  have CRN := hide (fun w1 (hb : Below w.heap.size w w1) => rdone_any A n c h w1 (unhide HRd w1 hb) hok)
  have CRT := hide (fun w1 (hb : Below w.heap.size w w1) => rtext_any A n c h w1 (unhide HRd w1 hb) (okH_right hok) hn40)
  have CDl := hide (fun w1 (hb : Below w.heap.size w w1) => hdeals_any A n c h w1 (unhide HRd w1 hb) hok)
  have CDn := hide (fun w1 (hb : Below w.heap.size w w1) => (done_any A n c h w1 (unhide HRd w1 hb) hn).1 hok)
  have CPr := hide (fun w1 (hb : Below w.heap.size w w1) => print_any A n c h w1 (unhide HRd w1 hb) hok)
  have COf := hide (fun w1 (hb : Below w.heap.size w w1) => of_ok A n c h tx w1 (unhide HRd w1 hb) hok htx)
  have CRO := hide (fun w1 (hb : Below w.heap.size w w1) => rof_any A n c h tx w1 (unhide HRd w1 hb) (by omega))
  rw [show txB tx = true by unfold txB; simp; omega] at CTX
  have hol : (ownL h tx).length ≤ 40 := Nat.le_trans (List.length_filter_le _ _) (okH_len hok)
  have HOL := Lib.hid hol
  have HDL : Hid ((dealsL h).length ≤ 40) := Lib.hid (Nat.le_trans deals_le (okH_len hok))
  have HDN := Lib.hid hdn
  have hst : ((⟨(printL h).toArray⟩ : ByteArray).toList == (⟨(printL h).toArray⟩ : ByteArray).toList) = true := by simp
  have hat : ((checkF h).1 == (checkF h).1) = true := by simp
  rw [show (checkF h).2 = 0 from hok] at CH CK
  rw [errV_zero] at CK
  generalize (⟨(printL h).toArray⟩ : ByteArray) = TB at *
  generalize (checkF h).1 = av at *
  clear hE hM hr hok ht hol hdn
  go_enter Tryz.func3, Tryz.ntmps3
  go_wp2_with fail
  refine (unhide CH).mono ?_
  rintro e w1 ⟨rfl, hb1⟩
  have hbw1 := hb1
  have CX1 := hide (unhide CK w1 hbw1)
  go_wp2_with fail
  refine (unhide CX1).mono ?_
  rintro e w2 ⟨rfl, hb2⟩
  have hbw2 := hbw1.trans (hb2.mono hbw1.size)
  have hs2 := hbw2.size
  clear CX1
  have CX2 := hide (unhide CE0 w2 hbw2)
  go_wp2_with fail
  refine (unhide CX2).mono ?_
  rintro e w3 ⟨rfl, hb3⟩
  have hbw3 := hbw2.trans (hb3.mono hbw2.size)
  have hs3 := hbw3.size
  clear CX2 
  have CX3 := hide (unhide CRD w3 hbw3)
  go_wp2_with fail
  refine (unhide CX3).mono ?_
  rintro e w4 ⟨v3, rfl, hoD, hb4⟩
  have hbw4 := hbw3.trans (hb4.mono hbw3.size)
  have hs4 := hbw4.size
  clear CX3 
  obtain ⟨AD, cD, rfl⟩ := own_slice hoD
  have hdD := rd_own hoD
  have HD0 := hide (fun w' (hb : Below w4.heap.size w4 w') => (hdD.below hb).more hb.size)
  clear hoD hdD
  have CX4 := hide (unhide CRN w4 hbw4)
  go_wp2_with fail
  refine (unhide CX4).mono ?_
  rintro e w5 ⟨AN, mN, cN, rfl, hoN, hb5⟩
  have hbw5 := hbw4.trans (hb5.mono hbw4.size)
  have hs5 := hbw5.size
  clear CX4 
  have hdN := rd_own hoN
  have hmN : mN ≤ 40 := by rw [← hdN.hlen]; exact HDN.out
  have HN0 := hide (fun w' (hb : Below w5.heap.size w5 w') => And.intro (unhide HD0 w' (hb5.trans (hb.mono hb5.size))) ((hdN.below hb).more hb.size))
  clear hoN hdN HD0
  have CX5 := hide (unhide CRT w5 hbw5)
  go_wp2_with fail
  refine (unhide CX5).mono ?_
  rintro e w6 ⟨rfl, hb6⟩
  have hbw6 := hbw5.trans (hb6.mono hbw5.size)
  have hs6 := hbw6.size
  clear CX5 
  have HN1 := hide (fun w' (hb : Below w6.heap.size w6 w') => unhide HN0 w' (hb6.trans (hb.mono hb6.size)))
  clear HN0
  have CX6 := hide (unhide CDl w6 hbw6)
  go_wp2_with fail
  refine (unhide CX6).mono ?_
  rintro e w7 ⟨v5, m5, rfl, ho5, hb7⟩
  have hbw7 := hbw6.trans (hb7.mono hbw6.size)
  have hs7 := hbw7.size
  clear CX6 
  have HN2 := hide (fun w' (hb : Below w7.heap.size w7 w') => unhide HN1 w' (hb7.trans (hb.mono hb7.size)))
  clear HN1
  obtain ⟨A5, c5, rfl⟩ := own_slice ho5
  have hd5 := rd_own ho5
  have hm5 : m5 ≤ 40 := by rw [← hd5.ilen]; exact HDL.out
  clear ho5
  have CX7 := hide (unhide CE0 w7 hbw7)
  go_wp2_with fail
  refine (unhide CX7).mono ?_
  rintro e w8 ⟨rfl, hb8⟩
  have hbw8 := hbw7.trans (hb8.mono hbw7.size)
  have hs8 := hbw8.size
  clear CX7 
  have HN3 := hide (fun w' (hb : Below w8.heap.size w8 w') => unhide HN2 w' (hb8.trans (hb.mono hb8.size)))
  clear HN2
  have CX8 := hide (ints_any A5 AD m5 (dealsL h).length c5 cD (dealsL h) (dealsL h) w8 ((hd5.below hb8).more hb8.size) (unhide HN3 w8 (Below.refl _ _)).1 (by omega))
  rw [decide_eq_true (show dealsL h = dealsL h from rfl)] at CX8
  clear hd5
  go_wp2_with fail
  refine (unhide CX8).mono ?_
  rintro e w9 ⟨rfl, hb9⟩
  have hbw9 := hbw8.trans (hb9.mono hbw8.size)
  have hs9 := hbw9.size
  clear CX8
  have HN4 := hide (fun w' (hb : Below w9.heap.size w9 w') => unhide HN3 w' (hb9.trans (hb.mono hb9.size)))
  clear HN3
  have CX9 := hide (unhide CDn w9 hbw9)
  go_wp2_with fail
  refine (unhide CX9).mono ?_
  rintro e w10 ⟨v6, m6, rfl, ho6, hb10⟩
  have hbw10 := hbw9.trans (hb10.mono hbw9.size)
  have hs10 := hbw10.size
  clear CX9 
  have HN5 := hide (fun w' (hb : Below w10.heap.size w10 w') => unhide HN4 w' (hb10.trans (hb.mono hb10.size)))
  clear HN4
  obtain ⟨A6, c6, rfl⟩ := own_slice ho6
  have hd6 := rd_own ho6
  have hm6 : m6 ≤ 40 := by rw [← hd6.hlen]; exact HDN.out
  clear ho6
  have CX10 := hide (unhide CE0 w10 hbw10)
  go_wp2_with fail
  refine (unhide CX10).mono ?_
  rintro e w11 ⟨rfl, hb11⟩
  have hbw11 := hbw10.trans (hb11.mono hbw10.size)
  have hs11 := hbw11.size
  clear CX10 
  have HN6 := hide (fun w' (hb : Below w11.heap.size w11 w') => unhide HN5 w' (hb11.trans (hb.mono hb11.size)))
  clear HN5
  have CX11 := hide (ops_any A6 AN m6 mN c6 cN (doneL h) (doneL h) w11 ((hd6.below hb11).more hb11.size) (unhide HN6 w11 (Below.refl _ _)).2 (by omega))
  rw [decide_eq_true (show doneL h = doneL h from rfl)] at CX11
  clear hd6 HN6
  go_wp2_with fail
  refine (unhide CX11).mono ?_
  rintro e w12 ⟨rfl, hb12⟩
  have hbw12 := hbw11.trans (hb12.mono hbw11.size)
  have hs12 := hbw12.size
  clear CX11
  have CX12 := hide (unhide CPr w12 hbw12)
  go_wp2_with fail
  refine (unhide CX12).mono ?_
  rintro e w13 ⟨rfl, hb13⟩
  have hbw13 := hbw12.trans (hb13.mono hbw12.size)
  have hs13 := hbw13.size
  clear CX12 
  have CX13 := hide (unhide CE0 w13 hbw13)
  go_wp2_with fail
  refine (unhide CX13).mono ?_
  rintro e w14 ⟨rfl, hb14⟩
  have hbw14 := hbw13.trans (hb14.mono hbw13.size)
  have hs14 := hbw14.size
  clear CX13 
  have CX14 := hide (unhide CTX w14)
  go_wp2_with fail
  refine (unhide CX14).mono ?_
  rintro e wx ⟨rfl, rfl⟩
  clear CX14
  have CX14 := hide (unhide CRO w14 hbw14)
  go_wp2_with fail
  refine (unhide CX14).mono ?_
  rintro e w15 ⟨vO, mO, rfl, hoO, hlO, hb15⟩
  have hbw15 := hbw14.trans (hb15.mono hbw14.size)
  have hs15 := hbw15.size
  clear CX14 
  obtain ⟨AO, cO, rfl⟩ := own_slice hoO
  have hdO := rd_own hoO
  clear hoO
  have CX15 := hide (unhide COf w15 hbw15)
  go_wp2_with fail
  refine (unhide CX15).mono ?_
  rintro e w16 ⟨vP, mP, rfl, hoP, hb16⟩
  have hbw16 := hbw15.trans (hb16.mono hbw15.size)
  have hs16 := hbw16.size
  clear CX15 
  obtain ⟨AP, cP, rfl⟩ := own_slice hoP
  have hdP := rd_own hoP
  have hmP : mP ≤ 40 := by rw [← hdP.hlen]; exact HOL.out
  have hdO2 := (hdO.below hb16).more hb16.size
  clear hoP hdO
  have CX16 := hide (unhide CE0 w16 hbw16)
  go_wp2_with fail
  refine (unhide CX16).mono ?_
  rintro e w17 ⟨rfl, hb17⟩
  have hbw17 := hbw16.trans (hb17.mono hbw16.size)
  have hs17 := hbw17.size
  clear CX16 
  have CX17 := hide (ops_any AP AO mP mO cP cO (ownL h tx) (ownL h tx) w17 ((hdP.below hb17).more hb17.size) ((hdO2.below hb17).more hb17.size) (by omega))
  rw [decide_eq_true (show ownL h tx = ownL h tx from rfl)] at CX17
  clear hdP hdO2
  go_wp2_with fail
  refine (unhide CX17).mono ?_
  rintro e w18 ⟨rfl, hb18⟩
  have hbw18 := hbw17.trans (hb18.mono hbw17.size)
  have hs18 := hbw18.size
  clear CX17
  have C18r := hide (unhide CR w18)
  generalize htb : (⟨t.toArray⟩ : ByteArray) = tb at *
  go_wp2_with fail
  refine (unhide C18r).mono ?_
  rintro e w19 ⟨v19, m19, rfl, ho19, hb19⟩
  have hbw19 := hbw18.trans (hb19.mono hbw18.size)
  have hs19 := hbw19.size
  obtain ⟨A19, c19, rfl⟩ := own_slice ho19
  have hd19 := rd_own ho19
  have C19r := hide (unhide CP w19 hbw19)
  clear ho19 C18r
  go_wp2_with fail
  refine (unhide C19r).mono ?_
  rintro e w20 ⟨v20, m20, rfl, ho20, hb20⟩
  have hbw20 := hbw19.trans (hb20.mono hbw19.size)
  have hs20 := hbw20.size
  obtain ⟨A20, c20, rfl⟩ := own_slice ho20
  have hd20 := rd_own ho20
  have hq20 : m20 ≤ 40 := by rw [← hd20.hlen]; exact HPL.out
  have hda20 := (hd19.below hb20).more hb20.size
  have CEl := hide (unhide CE (parseE t) w20 hbw20)
  generalize parseE t = pe at *
  generalize parseL t = pl at *
  clear ho20 C19r hd19
  go_wp2_with fail
  refine (unhide CEl).mono ?_
  rintro e w21 ⟨rfl, hb21⟩
  have hbw21 := hbw20.trans (hb21.mono hbw20.size)
  have hs21 := hbw21.size
  have COl := hide (ops_any A20 A19 m20 m19 c20 c19 pl pl w21 ((hd20.below hb21).more hb21.size) ((hda20.below hb21).more hb21.size) (by omega))
  rw [decide_eq_true (show pl = pl from rfl)] at COl
  clear CEl hd20 hda20
  go_wp2_with fail
  refine (unhide COl).mono ?_
  rintro e w22 ⟨rfl, hb22⟩
  have hbw22 := hbw21.trans (hb22.mono hbw21.size)
  have hs22 := hbw22.size
  go_wp2
  go_ret
  exact ⟨rfl, hbw22⟩
set_option maxRecDepth 100000 in
set_option maxHeartbeats 8000000 in
theorem walk_range (A : Option Addr) (n c : Nat) (h : List HOp) (tx : Int) (t : List UInt8) (w : World) (hE : Et w) (hM : Mx w) (hr : Rd w w.heap.size 3 A n (cellsH h)) (hn : n ≤ 6000000000000) (ht : t.length ≤ 1048576) (hok : okH h) (htx : ¬ (1 ≤ tx ∧ tx ≤ 6)) :
    Calls Tryz.prog 3 #[.slice A n c, .int .i64 tx, .string ⟨t.toArray⟩] w fun e w' => e = .returned (.bool true) ∧ Below w.heap.size w w' := by
  have hz0 := hE.pos
  have CE := hide (fun x w1 (hb : Below w.heap.size w w1) => error_same x w1 (hE.below hb hz0))
  have CE0 := hide (fun w1 (hb : Below w.heap.size w w1) => unhide CE 0 w1 hb)
  rw [errV_zero] at CE0
  have HRd := hide (fun w1 (hb : Below w.heap.size w w1) => (hr.below hb).more hb.size)
  have CH := hide (rhistory_any A n c h w hr hn)
  have CK := hide (fun w1 (hb : Below w.heap.size w w1) => check_any A n c h w1 (unhide HRd w1 hb) hn)
  have CR := hide (fun w1 => rread_any t w1 (by omega))
  have CP := hide (fun w1 (hb : Below w.heap.size w w1) => parse_any t w1 (hM.below hb hM.pos) (by omega))
  have CTX := hide (fun w1 => rtx_any tx w1)
  have HPL := Lib.hid (parseL_len t)
  have hn40 : n ≤ 40 := by rw [← hr.hlen]; exact okH_len hok
  have hdn : (doneL h).length ≤ 40 := okH_len (okH_done hok)
  have CRD := hide (fun w1 (hb : Below w.heap.size w w1) => rdeals_any A n c h w1 (unhide HRd w1 hb) (by omega))
  have CRN := hide (fun w1 (hb : Below w.heap.size w w1) => rdone_any A n c h w1 (unhide HRd w1 hb) hok)
  have CRT := hide (fun w1 (hb : Below w.heap.size w w1) => rtext_any A n c h w1 (unhide HRd w1 hb) (okH_right hok) hn40)
  have CDl := hide (fun w1 (hb : Below w.heap.size w w1) => hdeals_any A n c h w1 (unhide HRd w1 hb) hok)
  have CDn := hide (fun w1 (hb : Below w.heap.size w w1) => (done_any A n c h w1 (unhide HRd w1 hb) hn).1 hok)
  have CPr := hide (fun w1 (hb : Below w.heap.size w w1) => print_any A n c h w1 (unhide HRd w1 hb) hok)
  have COf := hide (fun w1 (hb : Below w.heap.size w w1) => of_range A n c h tx w1 (unhide HRd w1 hb) hok htx)
  rw [show txB tx = false by unfold txB; simp; omega] at CTX
  have COO := hide (fun w1 => ops_any none none 0 0 0 0 [] [] w1 Rd.nil Rd.nil (by omega))
  rw [decide_eq_true (show ([] : List HOp) = [] from rfl)] at COO
  have hol : (ownL h tx).length ≤ 40 := Nat.le_trans (List.length_filter_le _ _) (okH_len hok)
  have HOL := Lib.hid hol
  have HDL : Hid ((dealsL h).length ≤ 40) := Lib.hid (Nat.le_trans deals_le (okH_len hok))
  have HDN := Lib.hid hdn
  have hst : ((⟨(printL h).toArray⟩ : ByteArray).toList == (⟨(printL h).toArray⟩ : ByteArray).toList) = true := by simp
  have hat : ((checkF h).1 == (checkF h).1) = true := by simp
  rw [show (checkF h).2 = 0 from hok] at CH CK
  rw [errV_zero] at CK
  generalize (⟨(printL h).toArray⟩ : ByteArray) = TB at *
  generalize (checkF h).1 = av at *
  clear hE hM hr hok ht hol hdn
  go_enter Tryz.func3, Tryz.ntmps3
  go_wp2_with fail
  refine (unhide CH).mono ?_
  rintro e w1 ⟨rfl, hb1⟩
  have hbw1 := hb1
  have CX1 := hide (unhide CK w1 hbw1)
  go_wp2_with fail
  refine (unhide CX1).mono ?_
  rintro e w2 ⟨rfl, hb2⟩
  have hbw2 := hbw1.trans (hb2.mono hbw1.size)
  have hs2 := hbw2.size
  clear CX1
  have CX2 := hide (unhide CE0 w2 hbw2)
  go_wp2_with fail
  refine (unhide CX2).mono ?_
  rintro e w3 ⟨rfl, hb3⟩
  have hbw3 := hbw2.trans (hb3.mono hbw2.size)
  have hs3 := hbw3.size
  clear CX2 
  have CX3 := hide (unhide CRD w3 hbw3)
  go_wp2_with fail
  refine (unhide CX3).mono ?_
  rintro e w4 ⟨v3, rfl, hoD, hb4⟩
  have hbw4 := hbw3.trans (hb4.mono hbw3.size)
  have hs4 := hbw4.size
  clear CX3 
  obtain ⟨AD, cD, rfl⟩ := own_slice hoD
  have hdD := rd_own hoD
  have HD0 := hide (fun w' (hb : Below w4.heap.size w4 w') => (hdD.below hb).more hb.size)
  clear hoD hdD
  have CX4 := hide (unhide CRN w4 hbw4)
  go_wp2_with fail
  refine (unhide CX4).mono ?_
  rintro e w5 ⟨AN, mN, cN, rfl, hoN, hb5⟩
  have hbw5 := hbw4.trans (hb5.mono hbw4.size)
  have hs5 := hbw5.size
  clear CX4 
  have hdN := rd_own hoN
  have hmN : mN ≤ 40 := by rw [← hdN.hlen]; exact HDN.out
  have HN0 := hide (fun w' (hb : Below w5.heap.size w5 w') => And.intro (unhide HD0 w' (hb5.trans (hb.mono hb5.size))) ((hdN.below hb).more hb.size))
  clear hoN hdN HD0
  have CX5 := hide (unhide CRT w5 hbw5)
  go_wp2_with fail
  refine (unhide CX5).mono ?_
  rintro e w6 ⟨rfl, hb6⟩
  have hbw6 := hbw5.trans (hb6.mono hbw5.size)
  have hs6 := hbw6.size
  clear CX5 
  have HN1 := hide (fun w' (hb : Below w6.heap.size w6 w') => unhide HN0 w' (hb6.trans (hb.mono hb6.size)))
  clear HN0
  have CX6 := hide (unhide CDl w6 hbw6)
  go_wp2_with fail
  refine (unhide CX6).mono ?_
  rintro e w7 ⟨v5, m5, rfl, ho5, hb7⟩
  have hbw7 := hbw6.trans (hb7.mono hbw6.size)
  have hs7 := hbw7.size
  clear CX6 
  have HN2 := hide (fun w' (hb : Below w7.heap.size w7 w') => unhide HN1 w' (hb7.trans (hb.mono hb7.size)))
  clear HN1
  obtain ⟨A5, c5, rfl⟩ := own_slice ho5
  have hd5 := rd_own ho5
  have hm5 : m5 ≤ 40 := by rw [← hd5.ilen]; exact HDL.out
  clear ho5
  have CX7 := hide (unhide CE0 w7 hbw7)
  go_wp2_with fail
  refine (unhide CX7).mono ?_
  rintro e w8 ⟨rfl, hb8⟩
  have hbw8 := hbw7.trans (hb8.mono hbw7.size)
  have hs8 := hbw8.size
  clear CX7 
  have HN3 := hide (fun w' (hb : Below w8.heap.size w8 w') => unhide HN2 w' (hb8.trans (hb.mono hb8.size)))
  clear HN2
  have CX8 := hide (ints_any A5 AD m5 (dealsL h).length c5 cD (dealsL h) (dealsL h) w8 ((hd5.below hb8).more hb8.size) (unhide HN3 w8 (Below.refl _ _)).1 (by omega))
  rw [decide_eq_true (show dealsL h = dealsL h from rfl)] at CX8
  clear hd5
  go_wp2_with fail
  refine (unhide CX8).mono ?_
  rintro e w9 ⟨rfl, hb9⟩
  have hbw9 := hbw8.trans (hb9.mono hbw8.size)
  have hs9 := hbw9.size
  clear CX8
  have HN4 := hide (fun w' (hb : Below w9.heap.size w9 w') => unhide HN3 w' (hb9.trans (hb.mono hb9.size)))
  clear HN3
  have CX9 := hide (unhide CDn w9 hbw9)
  go_wp2_with fail
  refine (unhide CX9).mono ?_
  rintro e w10 ⟨v6, m6, rfl, ho6, hb10⟩
  have hbw10 := hbw9.trans (hb10.mono hbw9.size)
  have hs10 := hbw10.size
  clear CX9 
  have HN5 := hide (fun w' (hb : Below w10.heap.size w10 w') => unhide HN4 w' (hb10.trans (hb.mono hb10.size)))
  clear HN4
  obtain ⟨A6, c6, rfl⟩ := own_slice ho6
  have hd6 := rd_own ho6
  have hm6 : m6 ≤ 40 := by rw [← hd6.hlen]; exact HDN.out
  clear ho6
  have CX10 := hide (unhide CE0 w10 hbw10)
  go_wp2_with fail
  refine (unhide CX10).mono ?_
  rintro e w11 ⟨rfl, hb11⟩
  have hbw11 := hbw10.trans (hb11.mono hbw10.size)
  have hs11 := hbw11.size
  clear CX10 
  have HN6 := hide (fun w' (hb : Below w11.heap.size w11 w') => unhide HN5 w' (hb11.trans (hb.mono hb11.size)))
  clear HN5
  have CX11 := hide (ops_any A6 AN m6 mN c6 cN (doneL h) (doneL h) w11 ((hd6.below hb11).more hb11.size) (unhide HN6 w11 (Below.refl _ _)).2 (by omega))
  rw [decide_eq_true (show doneL h = doneL h from rfl)] at CX11
  clear hd6 HN6
  go_wp2_with fail
  refine (unhide CX11).mono ?_
  rintro e w12 ⟨rfl, hb12⟩
  have hbw12 := hbw11.trans (hb12.mono hbw11.size)
  have hs12 := hbw12.size
  clear CX11
  have CX12 := hide (unhide CPr w12 hbw12)
  go_wp2_with fail
  refine (unhide CX12).mono ?_
  rintro e w13 ⟨rfl, hb13⟩
  have hbw13 := hbw12.trans (hb13.mono hbw12.size)
  have hs13 := hbw13.size
  clear CX12 
  have CX13 := hide (unhide CE0 w13 hbw13)
  go_wp2_with fail
  refine (unhide CX13).mono ?_
  rintro e w14 ⟨rfl, hb14⟩
  have hbw14 := hbw13.trans (hb14.mono hbw13.size)
  have hs14 := hbw14.size
  clear CX13 
  have CX14 := hide (unhide CTX w14)
  go_wp2_with fail
  refine (unhide CX14).mono ?_
  rintro e wx ⟨rfl, rfl⟩
  clear CX14
  have CX14 := hide (unhide COf w14 hbw14)
  go_wp2_with fail
  refine (unhide CX14).mono ?_
  rintro e w15 ⟨rfl, hb15⟩
  have hbw15 := hbw14.trans (hb15.mono hbw14.size)
  have hs15 := hbw15.size
  clear CX14 
  have CX15 := hide (unhide CE 1 w15 hbw15)
  go_wp2_with fail
  refine (unhide CX15).mono ?_
  rintro e w16 ⟨rfl, hb16⟩
  have hbw16 := hbw15.trans (hb16.mono hbw15.size)
  have hs16 := hbw16.size
  clear CX15 
  have CX16 := hide (unhide COO w16)
  go_wp2_with fail
  refine (unhide CX16).mono ?_
  rintro e w17 ⟨rfl, hb17⟩
  have hbw17 := hbw16.trans (hb17.mono hbw16.size)
  have hs17 := hbw17.size
  clear CX16 
  have C17r := hide (unhide CR w17)
  generalize htb : (⟨t.toArray⟩ : ByteArray) = tb at *
  go_wp2_with fail
  refine (unhide C17r).mono ?_
  rintro e w18 ⟨v18, m18, rfl, ho18, hb18⟩
  have hbw18 := hbw17.trans (hb18.mono hbw17.size)
  have hs18 := hbw18.size
  obtain ⟨A18, c18, rfl⟩ := own_slice ho18
  have hd18 := rd_own ho18
  have C18r := hide (unhide CP w18 hbw18)
  clear ho18 C17r
  go_wp2_with fail
  refine (unhide C18r).mono ?_
  rintro e w19 ⟨v19, m19, rfl, ho19, hb19⟩
  have hbw19 := hbw18.trans (hb19.mono hbw18.size)
  have hs19 := hbw19.size
  obtain ⟨A19, c19, rfl⟩ := own_slice ho19
  have hd19 := rd_own ho19
  have hq19 : m19 ≤ 40 := by rw [← hd19.hlen]; exact HPL.out
  have hda19 := (hd18.below hb19).more hb19.size
  have CEl := hide (unhide CE (parseE t) w19 hbw19)
  generalize parseE t = pe at *
  generalize parseL t = pl at *
  clear ho19 C18r hd18
  go_wp2_with fail
  refine (unhide CEl).mono ?_
  rintro e w20 ⟨rfl, hb20⟩
  have hbw20 := hbw19.trans (hb20.mono hbw19.size)
  have hs20 := hbw20.size
  have COl := hide (ops_any A19 A18 m19 m18 c19 c18 pl pl w20 ((hd19.below hb20).more hb20.size) ((hda19.below hb20).more hb20.size) (by omega))
  rw [decide_eq_true (show pl = pl from rfl)] at COl
  clear CEl hd19 hda19
  go_wp2_with fail
  refine (unhide COl).mono ?_
  rintro e w21 ⟨rfl, hb21⟩
  have hbw21 := hbw20.trans (hb21.mono hbw20.size)
  have hs21 := hbw21.size
  go_wp2
  go_ret
  exact ⟨rfl, hbw21⟩
theorem walk (A : Option Addr) (n c : Nat) (h : List HOp) (tx : Int) (t : List UInt8) (w : World) (hE : Et w) (hM : Mx w) (hr : Rd w w.heap.size 3 A n (cellsH h)) (bn : n * 24 ≤ 140737488351232) (ht : t.length ≤ 1048576) :
    Calls Tryz.prog 3 #[.slice A n c, .int .i64 tx, .string ⟨t.toArray⟩] w fun e w' => e = .returned (.bool true) ∧ Below w.heap.size w w' := by
  by_cases hok : okH h
  · by_cases htx : 1 ≤ tx ∧ tx ≤ 6
    · exact walk_ok A n c h tx t w hE hM hr (by omega) ht hok htx
    · exact walk_range A n c h tx t w hE hM hr (by omega) ht hok htx
  · exact walk_no A n c h tx t w hE hM hr (by omega) ht hok

theorem bytes_ops : Tryz.prog.bytesOf 50 = 24 := by kernel_rfl
theorem bulk_string {H : Type} {a c : DataW H} {l : List UInt8} (hk : Rows.uptoSmall H [a, c, .lit (.string l)] = true) : l.length ≤ 1048576 := by
  have h := of_decide_eq_true hk
  simp only [Rows.uptoBulkAll, Rows.uptoBulk] at h
  omega

/-! ### The row. -/
theorem reads (os : Os) {H : Type} (enc : TypeId × Value → H) : ∃ places, DataW.whole enc Tryz.prog ((laidWorld3 os).forCall (fun _ _ => 0) ⟨#[], #[.slice none 0 0, .int .i64 0, .string ⟨#[]⟩], []⟩).memory Tryz.f3.params.toList Rows.historyTellsSpec.vars false #[Value.slice none 0 0, Value.int .i64 0, Value.string ⟨#[]⟩].toList 8 = some ([.nil, .lit (.int .i64 0), .lit (.string [])], [], places) :=
  ⟨[], by kernel_rfl⟩
set_option maxRecDepth 100000 in
theorem lifted (os : Os) (started : os.Started) (H : Type) (enc : TypeId × Value → H) (F : Stop.Interp) :
    ReturnsInHanded {} Tryz.checked os 3 .any ((Rows.OpenSpec.upto Rows.historyTellsSpec).preRow enc Tryz.prog Tryz.f3 Rows.historyTellsUptoRow.domain false Rows.historyTellsUptoRow.laid) (((Rows.OpenSpec.upto Rows.historyTellsSpec).at F).post enc Tryz.prog Tryz.f3 false true false false) := by
  obtain ⟨places, hx⟩ := reads os enc
  refine returnsInHanded_of_row (C := Tryz.checked) (s := Rows.OpenSpec.upto Rows.historyTellsSpec) dOwn started (by kernel_rfl) Tryz.func3
    (witness_row_atRef (enc := enc) (C := Tryz.checked) false (laidWorld3 os) #[.slice none 0 0, .int .i64 0, .string ⟨#[]⟩] rfl (by kernel_rfl) (by kernel_rfl) (by kernel_rfl)
      (OpenSpec.preRow_of_cond 8 hx (by kernel_rfl) (fun k hk => by cases hk; kernel_rfl) (by kernel_rfl) (laidWorld3_met os _))) ?_
  intro W base args ds gs before hval0 hW _ hcnd hsz0 hL hsh _
  have hval : ∀ (j : Nat) t v, Tryz.f3.params[j]? = some t → args[j]? = some v → Value.okWide Tryz.prog W .any base t v := hval0
  have hW' := hW
  obtain ⟨p, q, hA0, hV, rfl, hfz, hnd⟩ := hW
  have hA : DataW.TrodAll enc Tryz.prog W 0 (fun _ => true) true Tryz.f3.params.toList args.toList ds p := hA0
  have hsz : (DataW.weightsEach Tryz.prog (Tryz.f3.params.toList ++ Rows.historyTellsSpec.plain.varTypes Tryz.prog) (ds ++ gs)).all (· ≤ reachBytes) = true := hsz0
  have hbk := hcnd _ rfl
  rw [Tryz.params3] at hA hval hsz
  obtain ⟨v0, vs0, d0, ds0, p0, q0, hargs, rfl, rfl, h0, r0⟩ := trodAll_cons hA
  obtain ⟨v1, vs1, d1, ds1, p1, q1, rfl, rfl, rfl, h1, r1⟩ := trodAll_cons r0
  obtain ⟨v2, vs2, d2, ds2, p2, q2, rfl, rfl, rfl, h2, r2⟩ := trodAll_cons r1
  obtain ⟨rfl, rfl, rfl⟩ := trodAll_nil r2
  obtain rfl : args = #[v0, v1, v2] := by cases args; simp_all
  obtain ⟨rfl, rfl⟩ := trodVars_none hV
  simp only [List.append_nil] at hW'
  have hk0 := h0
  have hlt0 : ∀ x ∈ p0, x.block < W.heap.size := fun x hx => hW'.lt x (by simp [hx])
  obtain ⟨A0, n0, c0, l0, rfl, rd0, bd0⟩ := open_ops Tryz.underlying22 Tryz.underlying50 Tryz.underlying3 rfl rfl rfl (by kernel_rfl) (by kernel_rfl) (hval 0 22 v0 rfl rfl) h0 (fun e s he => by have := sized_slice hsz (j := 0) (t := 22) (e := 50) rfl (congrArg some he) Tryz.underlying22; rwa [bytes_ops] at this)
  obtain ⟨a1, rfl, rfl, rfl, w1⟩ := open_int Tryz.underlying3 (hval 1 3 v1 rfl rfl) h1
  obtain ⟨s2, rfl, rfl, rfl, w2⟩ := Go.ChangeMaps.open_string Tryz.underlying9 (hval 2 9 v2 rfl rfl) h2
  have hb := bulk_string hbk
  obtain ⟨t, rfl⟩ : ∃ t : List UInt8, s2 = ⟨t.toArray⟩ := ⟨s2.data.toList, by cases s2; simp⟩
  clear hA0 hval0
  refine (walk A0 n0 c0 l0 a1 t W (et_of_laid3 hL) (mx_of_shaped hsh) rd0 bd0 (by simpa using hb)).mono fun e W' ⟨he, hg⟩ => ?_
  subst he
  exact ⟨_, rfl, post_slices (pa := _) (pv := []) hW' hg (by simp) (fun _ _ _ => (trodAll_cons_mk (shut_bool Tryz.underlying4 _) trodAll_mk0)) (trodAll_cons_mk (Below.trod laidOut (by kernel_rfl) (of_decide_eq_true (by kernel_rfl)) hk0 hg hlt0) (trodAll_cons_mk (shut_int Tryz.underlying3 w1) (trodAll_cons_mk (Go.ChangeMaps.shut_string Tryz.underlying9 w2) trodAll_mk0))) rfl⟩

theorem over : Rows.HistoryTellsUptoSaid :=
  OpenClaim.holds_of_cond 3 Tryz.f3 rfl rfl rfl rfl rfl rfl rfl ⟨rfl, rfl, rfl, rfl, rfl⟩ rfl rfl rfl rfl rfl (by kernel_rfl) Tryz.func3 (by kernel_rfl)
    (of_decide_eq_true (by kernel_rfl)) (by unfold Func.isWrapper; first | (rw [if_pos (by decide +kernel)]; kernel_rfl) | (rw [if_neg (by decide +kernel)]; exact ⟨rfl, rfl⟩))
    (fun os started H enc _ F => by rw [OpenClaim.pre_eq_preRow]; exact lifted os started H enc F)

/-- The statement: the tied card of the second form. -/
theorem proved : Rows.HistoryTellsUptoCardSaid :=
  Claim7.holds_tied_plain_at .later [] _ _ _ _
    over (fun _ h => by cases h) (by kernel_rfl) (fun _ h => by cases h) historyTellsUpto_row_tie rfl ⟨rfl, rfl⟩ (by kernel_rfl) rfl
    (fun f fn hf hfn => by
      obtain rfl : f = 3 := Option.some.inj ((show Tryz.prog.funcNamed "locklane/lanelaw1.HistoryTells" = some 3 by kernel_rfl).symm.trans hf) |>.symm
      obtain rfl : fn = Tryz.f3 := (Option.some.inj (Tryz.func3.symm.trans hfn)).symm
      exact ⟨by kernel_rfl, fun j t ht => by
        rw [Tryz.params3] at ht
        have hm : t ∈ [22, 3, 9] := by have := Array.mem_of_getElem? ht; simpa using this
        have hall : ([22, 3, 9].all fun u => !Tryz.prog.wantsStandIn u) = true := by kernel_rfl
        exact (show Tryz.prog.wantsStandIn t = false by simpa using List.all_eq_true.1 hall t hm)⟩)
    (by kernel_rfl)
#print axioms proved
end Go.Proofs.YtcdinhmdeaplgaaGreatDoor.historyTells

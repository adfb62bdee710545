
/-
  CONTRACTS of serial.OrderOf, Order, Is, history.Of.
-/
import Derived.Test.YtkpnpkikonlmpaaGreatDoorM2
import Derived.Test.YtkpnpkikonlmpaaGreatDoorEdgesOf

namespace Go.Proofs.YtkpnpkikonlmpaaGreatDoor
open Go.RowKit

def ordE (h : List HOp) : Int := if (checkF h).2 ≠ 0 then (checkF h).2 else match orderOf h with | some _ => 0 | none => 8
def ordL (h : List HOp) : List Int := if (checkF h).2 ≠ 0 then [] else (orderOf h).getD []
theorem ord_some {h : List HOp} (hk : okH h) {o : List Int} (ho : orderOf h = some o) : ordE h = 0 ∧ ordL h = o := by
  unfold ordE ordL
  rw [if_neg (fun e => e hk), if_neg (fun e => e hk), ho]
  exact ⟨rfl, rfl⟩
theorem ord_none {h : List HOp} (hk : okH h) (ho : orderOf h = none) : ordE h = 8 ∧ ordL h = [] := by
  unfold ordE ordL
  rw [if_neg (fun e => e hk), if_neg (fun e => e hk), ho]
  exact ⟨rfl, rfl⟩
theorem ord_bad {h : List HOp} (hk : ¬ okH h) : ordE h = (checkF h).2 ∧ ordL h = [] := by
  unfold ordE ordL
  rw [if_pos (show (checkF h).2 ≠ 0 from hk), if_pos (show (checkF h).2 ≠ 0 from hk)]
  exact ⟨rfl, rfl⟩
theorem doneL_len (h : List HOp) : (doneL h).length ≤ h.length := by
  have := List.length_filter_le (fun o : HOp => (flagsF h).getD o.tx.toNat false) h
  unfold doneL; omega
def OrdPost (h : List HOp) (w : World) (e : Ending) (w' : World) : Prop :=
  ∃ v k r L, e = .returned (.tuple #[v, .bool r]) ∧ w'.ownsRow w.heap.size 3 1 v k (cellsI L) ∧ ((orderOf h = some L ∧ r = true) ∨ (orderOf h = none ∧ r = false ∧ L = [])) ∧ Below w.heap.size w w'

set_option maxRecDepth 100000 in
set_option maxHeartbeats 4000000 in
theorem orderOf_any (A : Option Addr) (n cap : Nat) (h : List HOp) (w : World) (hr : Rd w w.heap.size 3 A n (cellsH h)) (hok : okH h) :
    Calls Tryz.prog 33 #[.slice A n cap] w (OrdPost h w) := by
  have hn : n ≤ 40 := by rw [← hr.hlen]; exact okH_len hok
  have hdl : (doneL h).length ≤ 40 := Nat.le_trans (doneL_len h) (okH_len hok)
  have C0 := hide (doneOf_any A n cap h w hr (by omega) (okH_tx hok))
  have CE := hide (fun w1 (hb : Below w.heap.size w w1) => edgesOf_any A n cap h w1 ((hr.below hb).more hb.size) hn (okH_tx hok))
  have HF : Hid (orderOf h = topF (edgesF h) (dealsL (doneL h))) := Lib.hid rfl
  have HD := Lib.hid hdl
  clear hr hok hdl
  generalize doneL h = D at *
  generalize edgesF h = E at *
  go_enter Tryz.func33, Tryz.ntmps33
  go_wp2_with fail
  refine (unhide C0).mono ?_
  rintro e w1 ⟨A1, m1, c1, rfl, ho1, hb1⟩
  have hd1 := rd_own ho1
  have hm1 : m1 ≤ 40 := by rw [← hd1.hlen]; exact HD.out
  have C1 := hide (dealsOf_any A1 m1 c1 D w1 hd1 (by omega))
  clear C0 ho1 hd1
  go_wp2_with fail
  refine (unhide C1).mono ?_
  rintro e w2 ⟨v2, m2, rfl, ho2, hm2, hb2⟩
  obtain ⟨A2, c2, rfl⟩ := own_slice ho2
  have hbw2 := hb1.trans (hb2.mono hb1.size)
  have hd2 := rd_own ho2
  have C2 := hide (unhide CE w2 hbw2)
  clear C1 ho2 hb2 CE hb1
  go_wp2_with fail
  refine (unhide C2).mono ?_
  rintro e w3 ⟨v3, m3, rfl, ho3, hm3, hb3⟩
  obtain ⟨A3, c3, rfl⟩ := own_slice ho3
  have hbw3 := hbw2.trans (hb3.mono hbw2.size)
  have hd3 := rd_own ho3
  have C3 := hide (gsort_any A2 m2 c2 (dealsL D) A3 m3 c3 E w3 ((hd2.below hb3).more hb3.size) hd3 (by omega) (by omega))
  clear C2 ho3 hb3 hd2 hd3 hbw2
  go_wp2_with fail
  refine (unhide C3).mono ?_
  rintro e w4 ⟨v4, k4, r4, L4, rfl, ho4, hcs, hb4⟩
  have HC := Lib.hid hcs
  have ho5 := own_mono ho4 hbw3.size
  have hbw4 := hbw3.trans (hb4.mono hbw3.size)
  clear hcs C3 ho4 hb4 hbw3
  go_wp2
  go_ret2
  refine ⟨v4, k4, r4, L4, rfl, ho5, ?_, hbw4⟩
  rw [HF.out]
  exact HC.out

set_option maxRecDepth 100000 in
set_option maxHeartbeats 4000000 in
theorem sorder_any (A : Option Addr) (n cap : Nat) (h : List HOp) (w : World) (hr : Rd w w.heap.size 3 A n (cellsH h)) (hm : n ≤ 6000000000000) :
    Calls Tryz.prog 16 #[.slice A n cap] w fun e w' => ∃ v k, e = .returned (.tuple #[v, errV (ordE h)]) ∧ w'.ownsRow w.heap.size 3 1 v k (cellsI (ordL h)) ∧ Below w.heap.size w w' := by
  have C0 := hide (right_h A n cap h w hr hm)
  by_cases hok : okH h
  · have CO := hide (fun w1 (hb : Below w.heap.size w w1) => orderOf_any A n cap h w1 ((hr.below hb).more hb.size) hok)
    rw [show (checkF h).2 = 0 from hok, errV_zero] at C0
    have HS := Lib.hid (fun o => ord_some hok (o := o))
    have HN := Lib.hid (ord_none hok)
    clear hr hok
    generalize ordE h = E at *
    generalize ordL h = L at *
    go_enter Tryz.func16, Tryz.ntmps16
    go_wp2_with fail
    refine (unhide C0).mono ?_
    rintro e w1 ⟨rfl, hb1⟩
    have C1 := hide (unhide CO w1 hb1)
    clear C0 CO
    go_wp2_with fail
    refine (unhide C1).mono ?_
    rintro e w2 ⟨v2, k2, r2, L2, rfl, ho2, hcs, hb2⟩
    obtain ⟨A2, c2, rfl⟩ := own_slice ho2
    have hbw2 := hb1.trans (hb2.mono hb1.size)
    have ho3 := own_mono ho2 hb1.size
    clear C1 ho2 hb2 hb1
    rcases hcs with ⟨ht, rfl⟩ | ⟨ht, rfl, rfl⟩
    · have HH := Lib.hid (HS.out _ ht)
      clear ht HS HN
      go_wp2
      go_ret2
      exact ⟨_, _, by rw [HH.out.1]; rfl, by rw [HH.out.2]; exact ho3, hbw2⟩
    · have HH := Lib.hid (HN.out ht)
      clear ht HS HN
      go_wp2
      go_ret2
      exact ⟨_, 0, by rw [HH.out.1]; rfl, by rw [HH.out.2]; exact World.ownsRow_nil _ _ _ _, hbw2⟩
  · have HB := Lib.hid (ord_bad hok)
    rw [HB.out.1, HB.out.2]
    rw [ne_errV (show (checkF h).2 ≠ 0 from hok)] at C0 ⊢
    generalize (checkF h).2 = ev at *
    clear HB hok hr
    go_enter Tryz.func16, Tryz.ntmps16
    go_wp2_with fail
    refine (unhide C0).mono ?_
    rintro e w1 ⟨rfl, hb1⟩
    go_wp2
    go_ret2
    exact ⟨_, 0, rfl, World.ownsRow_nil _ _ _ _, hb1⟩

/-! ### Is each deal in one piece? -/
theorem nat_beq (a b : Nat) : decide (a = b) = ((a : Int) == (b : Int)) := by
  rw [Bool.eq_iff_iff]; simp; omega
def isV (h : List HOp) : Bool := decide ((checkF h).2 = 0) && isF (doneL h)
set_option maxRecDepth 100000 in
set_option maxHeartbeats 4000000 in
theorem is_any (A : Option Addr) (n cap : Nat) (h : List HOp) (w : World) (hr : Rd w w.heap.size 3 A n (cellsH h)) (hm : n ≤ 6000000000000) :
    Calls Tryz.prog 17 #[.slice A n cap] w fun e w' => e = .returned (.tuple #[.bool (isV h), errV (checkF h).2]) ∧ Below w.heap.size w w' := by
  have C0 := hide (right_h A n cap h w hr hm)
  by_cases hok : okH h
  · have hn : n ≤ 40 := by rw [← hr.hlen]; exact okH_len hok
    have hdl : (doneL h).length ≤ 40 := Nat.le_trans (doneL_len h) (okH_len hok)
    have CD := hide (fun w1 (hb : Below w.heap.size w w1) => doneOf_any A n cap h w1 ((hr.below hb).more hb.size) (by omega) (okH_tx hok))
    have HV : Hid (isV h = decide (pcsN 0 (doneL h) = (dealsL (doneL h)).length)) := Lib.hid (by unfold isV; rw [show (checkF h).2 = 0 from hok]; rfl)
    rw [show (checkF h).2 = 0 from hok, errV_zero] at C0 ⊢
    have HD := Lib.hid hdl
    clear hr hok hdl
    generalize isV h = R at *
    generalize doneL h = D at *
    go_enter Tryz.func17, Tryz.ntmps17
    go_wp2_with fail
    refine (unhide C0).mono ?_
    rintro e w1 ⟨rfl, hb1⟩
    have C1 := hide (unhide CD w1 hb1)
    clear C0 CD
    go_wp2_with fail
    refine (unhide C1).mono ?_
    rintro e w2 ⟨A2, m2, c2, rfl, ho2, hb2⟩
    have hbw2 := hb1.trans (hb2.mono hb1.size)
    have hd2 := rd_own ho2
    have hm2 : m2 ≤ 40 := by rw [← hd2.hlen]; exact HD.out
    have HL := Lib.hid hd2.hlen
    have K2 := hide (fun w' (hb : Below w2.heap.size w2 w') => And.intro (hbw2.trans (hb.mono hbw2.size)) ((hd2.below hb).more hb.size))
    clear C1 ho2 hb2 hb1 hbw2 hd2
    go_wp2
    go_loopw [5, 6, 18] (fun s5 s6 s18 wr => ∃ (k p : Nat) (l : Int), k ≤ m2 ∧ p ≤ k ∧ s5 = .int .i64 p ∧ s6 = .int .i64 l ∧ s18 = .int .i64 k ∧ Hid (pcsN 0 D = p + pcsN l (D.drop k)) ∧ Below w2.heap.size w2 wr) (fun _ _ s18 _ => m2 - (intOf s18).toNat)
    case atStart => exact ⟨0, 0, 0, Nat.zero_le _, Nat.le_refl _, rfl, rfl, rfl, Lib.hid (by simp), Below.refl _ _⟩
    case round =>
      obtain ⟨k, p, l, hk, hp, rfl, rfl, rfl, HE, hbx⟩ := hrel
      obtain ⟨hbw, hd⟩ := unhide K2 wr hbx
      by_cases hlt : k < m2
      · obtain ⟨b, off, o, he, hb, ho, c0, c1, c2'⟩ := hd.op (k := k) hlt
        cases he
        have HS := Lib.hid (pcsN_step (p := l) (drop_at ho))
        clear ho
        obtain ⟨o1, o2, o3⟩ := o
        simp only at c0 c1 c2' HS
        have hz := hbx.size
        have hb3 : Below w2.heap.size w2 (wr.alloc (.cells #[.int .i64 o1, .int .i64 o2, .int .i64 o3] 37)) := hbx.alloc hz _
        by_cases ho : o1 = l
        · have HE2 : Hid (pcsN 0 D = (p : Nat) + pcsN o1 (D.drop (k + 1))) := Lib.hid (by rw [HE.out, HS.out, if_pos ho]; omega)
          have t1 : (o1 != l) = false := by simp [ho]
          clear HE HS ho
          go_wp2
          go_roundw
          case rel => exact ⟨k + 1, p, o1, by omega, by omega, rfl, rfl, by go_num, HE2, hb3⟩
          case measure => simp [intOf]; omega
        · have HE2 : Hid (pcsN 0 D = ((p + 1 : Nat)) + pcsN o1 (D.drop (k + 1))) := Lib.hid (by rw [HE.out, HS.out, if_neg ho]; omega)
          have t1 : (o1 != l) = true := by simp [ho]
          clear HE HS ho
          go_wp2
          go_roundw
          case rel => exact ⟨k + 1, p + 1, o1, by omega, by omega, by go_num, rfl, by go_num, HE2, hb3⟩
          case measure => simp [intOf]; omega
      · have HP : Hid (pcsN 0 D = p) := Lib.hid (by rw [HE.out, drop_end (by rw [HL.out]; omega)]; rfl)
        have C2 := hide (dealsOf_any A2 m2 c2 D wr hd (by omega))
        clear HE hd
        go_wp2_with fail
        refine (unhide C2).mono ?_
        rintro e w4 ⟨v4, m4, rfl, ho4, hm4, hb4⟩
        obtain ⟨A4, c4, rfl⟩ := own_slice ho4
        have HL4 := Lib.hid (rd_own ho4).ilen
        have hbw4 := hbw.trans (hb4.mono hbw.size)
        clear C2 ho4 hb4
        go_wp2
        go_ret2
        exact ⟨by rw [HV.out, HP.out, HL4.out, nat_beq]; rfl, hbw4⟩
  · have HV : Hid (isV h = false) := Lib.hid (by unfold isV; rw [decide_eq_false (show ¬ (checkF h).2 = 0 from hok)]; rfl)
    rw [HV.out]
    rw [ne_errV (show (checkF h).2 ≠ 0 from hok)] at C0 ⊢
    generalize (checkF h).2 = ev at *
    clear HV hok hr
    go_enter Tryz.func17, Tryz.ntmps17
    go_wp2_with fail
    refine (unhide C0).mono ?_
    rintro e w1 ⟨rfl, hb1⟩
    go_wp2
    go_ret2
    exact ⟨rfl, hb1⟩
end Go.Proofs.YtkpnpkikonlmpaaGreatDoor

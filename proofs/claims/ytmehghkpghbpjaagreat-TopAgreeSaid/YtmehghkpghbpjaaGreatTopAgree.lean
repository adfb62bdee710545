
/-
  PROVED: lanetop.TopAgree returns true, for every history: of deals that come one behind the other by rising numbers all runs do all, and see the same. No condition beyond the form's own reach.
-/
import Derived.Test.YtmehghkpghbpjaaGreatStrS
import Derived.Test.YtmehghkpghbpjaaGreatQ14
import Derived.Test.YtmehghkpghbpjaaGreatQ43
import Derived.Test.YtmehghkpghbpjaaGreatQ40
import Derived.Test.YtmehghkpghbpjaaGreatQ4
import Derived.Test.YtmehghkpghbpjaaGreatQ28
import Derived.Test.YtmehghkpghbpjaaGreatQ44
import Derived.Test.YtmehghkpghbpjaaGreatOutSame
import Derived.Test.YtmehghkpghbpjaaGreatQ19
import Derived.Test.YtmehghkpghbpjaaGreatPieces
import Derived.Test.YtmehghkpghbpjaaGreatQ37

namespace Go.Proofs.YtmehghkpghbpjaaGreat.topAgree
open Go.ChangeShapes Go.WideShapes Go.ChangeAt Go.RowKit Go.Proofs.YtmehghkpghbpjaaGreat

def OutR (w' : World) (B1 B2 : Option Addr) (q1 q2 b : Nat) (o : List Int) (seen : List HOp) (last : List Int) : Prop := Rd w' w'.heap.size 1 B1 q1 (cellsI o) ∧ Rd w' w'.heap.size 3 B2 q2 (cellsH seen) ∧ Rd w' w'.heap.size 1 (some ⟨b, 0, none⟩) 6 (cellsI last)
theorem OutR.below {w w' : World} {B1 B2 : Option Addr} {q1 q2 b : Nat} {o : List Int} {seen : List HOp} {last : List Int} (h : OutR w B1 B2 q1 q2 b o seen last) (hb : Below w.heap.size w w') : OutR w' B1 B2 q1 q2 b o seen last :=
  ⟨(h.1.below hb).more hb.size, (h.2.1.below hb).more hb.size, (h.2.2.below hb).more hb.size⟩
/-- The plain law, at the serial history of what is done. -/
structure PlainA (S : List HOp) (o last : List Int) (seen : List HOp) : Prop where
  ok : okH S
  v : (playV validR S).dn = o ∧ (playV validR S).last = last ∧ seenOf (playV validR S) = seen
  n : (playV snapR S).dn = o ∧ (playV snapR S).last = last ∧ seenOf (playV snapR S) = seen
  r : ∀ ts, ByNum (playV verR S) ts → ts = o ∧ lastOf (ts.map (dgd (playV verR S))) = last ∧ seenOf { playV verR S with dn := ts } = seen
  mt : Mt S seen (rdsL S)
  len : (rdsL S).length ≤ 40
  stamp : stampF false S = (S, [])
  locks : ∃ s', runL 0 3 S rst0 = some s' ∧ s'.told = S ∧ s'.vic = []
theorem plain {h : List HOp} (hk : okH h) : okH (doneL h) ∧ serE (doneL h) (dealsL (doneL h)) = 0 ∧ (dealsL (doneL h)).length ≤ 6 ∧ ∃ last seen, PlainA (serL (doneL h) (dealsL (doneL h))) (dealsL (doneL h)) last seen := by
  have hkd := okH_done hk
  have hdd := doneL_doneL (okH_tx hk)
  have hse : serE (doneL h) (dealsL (doneL h)) = 0 := serE_of hkd (dealsL_nodup _) (fun t => by rw [hdd])
  refine ⟨hkd, hse, dealsL_len (okH_tx hkd), ?_⟩
  rw [serL_of hse, hdd]
  obtain ⟨last, seen, A⟩ := agree hk
  obtain ⟨s', h1, h2, h3⟩ := calm_run (way := 0) (N := 3) (Nat.le_refl _) _ [] rst0 rfl (fun _ => rfl) (fun _ => rfl) (okH_txB A.ok) A.calm
  have hr : rdsL (alongL (doneL h) (dealsL (doneL h))) = (lookF (alongL (doneL h) (dealsL (doneL h)))).1 := by
    unfold rdsL
    rw [if_pos (show (checkF _).2 = 0 from A.ok), A.done]
  exact ⟨last, seen, A.ok, A.v, A.n, A.r, by rw [hr]; exact A.mt, by rw [hr]; exact A.len, A.stamp, s', h1, by rw [h2]; rfl, by rw [h3]; rfl⟩

set_option maxRecDepth 100000 in
set_option maxHeartbeats 8000000 in
theorem walk (A : Option Addr) (n c : Nat) (h : List HOp) (w : World) (hr : Rd w w.heap.size 3 A n (cellsH h)) (hn : n * 24 ≤ 140737488351232) :
    Calls Tryz.prog 4 #[.slice A n c] w fun e w' => e = .returned (.bool true) ∧ Below w.heap.size w w' := by
  have hm : n ≤ 6000000000000 := by omega
  have C0 := hide (one_any w)
  by_cases hok : okH h
  rotate_left
  · have CN := hide (fun w1 (hb : Below w.heap.size w w1) => (done_any A n c h w1 ((hr.below hb).more hb.size) hm).2 hok)
    rw [ne_errV (show (checkF h).2 ≠ 0 from hok)] at CN
    generalize (checkF h).2 = ev at *
    clear hr hok
    go_enter Tryz.func4, Tryz.ntmps4
    go_wp2_with fail
    refine (unhide C0).mono ?_
    rintro e w1 ⟨rfl, hb1⟩
    go_wp2_with fail
    refine (unhide CN w1 hb1).mono ?_
    rintro e w2 ⟨rfl, hb2⟩
    have hbw2 := hb1.trans (hb2.mono hb1.size)
    go_wp2
    go_ret
    exact ⟨rfl, hbw2⟩
  have CD := hide (fun w1 (hb : Below w.heap.size w w1) => (done_any A n c h w1 ((hr.below hb).more hb.size) hm).1 hok)
  obtain ⟨hkd, hse, ho6, last, seen, P⟩ := plain hok
  have hd40 := okH_len hkd
  have CL := hide (fun A2 n2 c2 w1 (hd : Rd w1 w1.heap.size 3 A2 n2 (cellsH (doneL h))) => hdeals_any A2 n2 c2 (doneL h) w1 hd hkd)
  have CR := hide (fun A2 n2 c2 B2 m2 d2 w1 (hd : Rd w1 w1.heap.size 3 A2 n2 (cellsH (doneL h))) (hd2 : Rd w1 w1.heap.size 1 B2 m2 (cellsI (dealsL (doneL h)))) (hn2 : n2 ≤ 40) (hm2 : m2 ≤ 6) => serial_any A2 B2 n2 m2 c2 d2 (doneL h) (dealsL (doneL h)) w1 hd hd2 (by omega) (by omega))
  rw [hse, errV_zero] at CR
  have HD40 := Lib.hid hd40
  have HO6 := Lib.hid ho6
  clear hr hok hkd hse ho6 hd40
  generalize serL (doneL h) (dealsL (doneL h)) = S at *
  generalize dealsL (doneL h) = o at *
  generalize doneL h = D at *
  have hs40 := okH_len P.ok
  obtain ⟨v1, v2, v3⟩ := P.v
  obtain ⟨n1, n2, n3⟩ := P.n
  obtain ⟨s', l1, l2, l3⟩ := P.locks
  have CV := hide (fun A2 m2 c2 w1 (hd : Rd w1 w1.heap.size 3 A2 m2 (cellsH S)) (hm2 : m2 ≤ 240) => valid_run A2 m2 c2 S w1 hd (by omega) P.ok)
  rw [v1, v2, v3] at CV
  have CS := hide (fun A2 m2 c2 w1 (hd : Rd w1 w1.heap.size 3 A2 m2 (cellsH S)) (hm2 : m2 ≤ 240) => snap_run A2 m2 c2 S w1 hd (by omega) P.ok)
  rw [n1, n2, n3] at CS
  have CW := hide (fun A2 m2 c2 w1 (hd : Rd w1 w1.heap.size 3 A2 m2 (cellsH S)) (hm2 : m2 ≤ 240) => (ver_run A2 m2 c2 S w1 hd (by omega) P.ok).mono (R' := fun e w' => OutC w1 w' e o seen last) (by
    rintro e w' ⟨ts, H, hO⟩
    obtain ⟨r1, r2, r3⟩ := P.r ts H
    subst r1
    rw [r2, r3] at hO
    exact hO))
  have CT := hide (fun A2 m2 c2 w1 (hd : Rd w1 w1.heap.size 3 A2 m2 (cellsH S)) => stamp_any A2 m2 c2 S false w1 hd P.ok)
  rw [P.stamp] at CT
  have CU := hide (fun A2 m2 c2 w1 (hd : Rd w1 w1.heap.size 3 A2 m2 (cellsH S)) => strict_any A2 m2 c2 S 0 w1 hd P.ok (by omega) (by omega) 3 s' l1 (by rw [l2]; omega) (by rw [l3]; exact Nat.zero_le _))
  rw [l2, l3] at CU
  have CX := hide (fun A2 m2 c2 w1 (hd : Rd w1 w1.heap.size 3 A2 m2 (cellsH S)) (hm2 : m2 ≤ 240) => vreads_any A2 m2 c2 S w1 hd (by omega))
  rw [show (checkF S).2 = 0 from P.ok, errV_zero] at CX
  have HMT := hide (And.intro P.mt (And.intro P.len hs40))
  clear P v1 v2 v3 n1 n2 n3 l1 l2 l3 hs40
  generalize rdsL S = X at *
  go_enter Tryz.func4, Tryz.ntmps4
  go_wp2_with fail
  refine (unhide C0).mono ?_
  rintro e w1 ⟨rfl, hb1⟩
  go_wp2_with fail
  refine (unhide CD w1 hb1).mono ?_
  rintro e w2 ⟨v2, m2, rfl, ho2, hb2⟩
  obtain ⟨A2, c2, rfl⟩ := own_slice ho2
  have hbw2 := hb1.trans (hb2.mono hb1.size)
  have HD := hide (fun w' (hb : Below w2.heap.size w2 w') => rd_own (own_below ho2 hb (Nat.le_refl _)))
  have hm2 : m2 ≤ 40 := by have := (rd_own ho2).hlen; have := HD40.out; omega
  have C1 := hide (unhide CL A2 m2 c2 w2 (unhide HD w2 (Below.refl _ _)))
  clear ho2 hb1 hb2 CD CL C0
  go_wp2_with fail
  refine (unhide C1).mono ?_
  rintro e w3 ⟨v3, m3, rfl, ho3, hb3⟩
  obtain ⟨A3, c3, rfl⟩ := own_slice ho3
  have HO := hide (fun w' (hb : Below w3.heap.size w3 w') => rd_own (own_below ho3 hb (Nat.le_refl _)))
  have hm3 : m3 ≤ 6 := by have := own_ilen ho3; have := HO6.out; omega
  have C2 := hide (unhide CR A2 m2 c2 A3 m3 c3 w3 (unhide HD w3 hb3) (unhide HO w3 (Below.refl _ _)) hm2 hm3)
  have hbw3 := hbw2.trans (hb3.mono hbw2.size)
  clear ho3 hb3 C1 CR HD hbw2
  go_wp2_with fail
  refine (unhide C2).mono ?_
  rintro e w4 ⟨v4, m4, rfl, ho4, hm4, hb4⟩
  obtain ⟨A4, c4, rfl⟩ := own_slice ho4
  have HS := hide (fun w' (hb : Below w4.heap.size w4 w') => And.intro (rd_own (own_below ho4 hb (Nat.le_refl _))) (unhide HO w' (hb4.trans (hb.mono hb4.size))))
  have hbw4 := hbw3.trans (hb4.mono hbw3.size)
  have C3 := hide (unhide CV A4 m4 c4 w4 (unhide HS w4 (Below.refl _ _)).1 hm4)
  clear ho4 hb4 C2 HO hbw3 CV
  go_wp2_with fail
  refine (unhide C3).mono ?_
  rintro e w5 ⟨B1, bc1, B2, bc2, bb, bn1, bn2, rfl, p1, p2, p3, hb5, _⟩
  have O5 : OutR w5 B1 B2 bn1 bn2 bb o seen last := ⟨p1, p2, p3⟩
  have hx5 : Below w5.heap.size w5 (w5.alloc (.cells #[.slice B1 bn1 bc1, .slice B2 bn2 bc2, .slice (some ⟨bb, 0, none⟩) 6 6] 40)) := (Below.refl _ _).alloc (Nat.le_refl _) _
  have F5 := hide (fun w' (hb : Below (w5.alloc (.cells #[.slice B1 bn1 bc1, .slice B2 bn2 bc2, .slice (some ⟨bb, 0, none⟩) 6 6] 40)).heap.size (w5.alloc (.cells #[.slice B1 bn1 bc1, .slice B2 bn2 bc2, .slice (some ⟨bb, 0, none⟩) 6 6] 40)) w') => And.intro (unhide HS w' (hb5.trans ((hx5.trans (hb.mono hx5.size)).mono hb5.size))) (And.intro ((Blk.new w5 40 [.slice B1 bn1 bc1, .slice B2 bn2 bc2, .slice (some ⟨bb, 0, none⟩) 6 6]).below hb (by simp)) (O5.below (hx5.trans (hb.mono hx5.size)))))
  have hbn1 : bn1 ≤ 6 := by have h1 := p1.ilen; have h2 := HO6.out; omega
  have hbn2 : bn2 ≤ 40 := by have h1 := p2.hlen; have h2 := (unhide HMT).1.len; have h3 := (unhide HMT).2.1; omega
  have hbx5 := (hbw4.trans (hb5.mono hbw4.size)).trans (hx5.mono (hbw4.trans (hb5.mono hbw4.size)).size)
  have C4 := hide (unhide CS A4 m4 c4 (w5.alloc (.cells #[.slice B1 bn1 bc1, .slice B2 bn2 bc2, .slice (some ⟨bb, 0, none⟩) 6 6] 40)) (unhide F5 (w5.alloc (.cells #[.slice B1 bn1 bc1, .slice B2 bn2 bc2, .slice (some ⟨bb, 0, none⟩) 6 6] 40)) (Below.refl _ _)).1.1 hm4)
  clear O5 p1 p2 p3 C3 hb5 HS hbw4 CS hx5
  go_wp2_with fail
  refine (unhide C4).mono ?_
  rintro e w6 ⟨C1, cc1, C2, cc2, cb, cn1, cn2, rfl, p1, p2, p3, hb6, _⟩
  have O6 : OutR w6 C1 C2 cn1 cn2 cb o seen last := ⟨p1, p2, p3⟩
  have hx6 : Below w6.heap.size w6 (w6.alloc (.cells #[.slice C1 cn1 cc1, .slice C2 cn2 cc2, .slice (some ⟨cb, 0, none⟩) 6 6] 40)) := (Below.refl _ _).alloc (Nat.le_refl _) _
  have F6 := hide (fun w' (hb : Below (w6.alloc (.cells #[.slice C1 cn1 cc1, .slice C2 cn2 cc2, .slice (some ⟨cb, 0, none⟩) 6 6] 40)).heap.size (w6.alloc (.cells #[.slice C1 cn1 cc1, .slice C2 cn2 cc2, .slice (some ⟨cb, 0, none⟩) 6 6] 40)) w') => And.intro (unhide F5 w' (hb6.trans ((hx6.trans (hb.mono hx6.size)).mono hb6.size))) (And.intro ((Blk.new w6 40 [.slice C1 cn1 cc1, .slice C2 cn2 cc2, .slice (some ⟨cb, 0, none⟩) 6 6]).below hb (by simp)) (O6.below (hx6.trans (hb.mono hx6.size)))))
  have hbx6 := (hbx5.trans (hb6.mono hbx5.size)).trans (hx6.mono (hbx5.trans (hb6.mono hbx5.size)).size)
  have C5 := hide (unhide CW A4 m4 c4 (w6.alloc (.cells #[.slice C1 cn1 cc1, .slice C2 cn2 cc2, .slice (some ⟨cb, 0, none⟩) 6 6] 40)) (unhide F6 (w6.alloc (.cells #[.slice C1 cn1 cc1, .slice C2 cn2 cc2, .slice (some ⟨cb, 0, none⟩) 6 6] 40)) (Below.refl _ _)).1.1.1 hm4)
  clear O6 p1 p2 p3 C4 hb6 F5 hbx5 CW hx6
  go_wp2_with fail
  refine (unhide C5).mono ?_
  rintro e w7 ⟨D1, dc1, D2, dc2, db, dn1, dn2, rfl, p1, p2, p3, hb7, _⟩
  have O7 : OutR w7 D1 D2 dn1 dn2 db o seen last := ⟨p1, p2, p3⟩
  have hx7 : Below w7.heap.size w7 (w7.alloc (.cells #[.slice D1 dn1 dc1, .slice D2 dn2 dc2, .slice (some ⟨db, 0, none⟩) 6 6] 40)) := (Below.refl _ _).alloc (Nat.le_refl _) _
  have F7 := hide (fun w' (hb : Below (w7.alloc (.cells #[.slice D1 dn1 dc1, .slice D2 dn2 dc2, .slice (some ⟨db, 0, none⟩) 6 6] 40)).heap.size (w7.alloc (.cells #[.slice D1 dn1 dc1, .slice D2 dn2 dc2, .slice (some ⟨db, 0, none⟩) 6 6] 40)) w') => And.intro (unhide F6 w' (hb7.trans ((hx7.trans (hb.mono hx7.size)).mono hb7.size))) (And.intro ((Blk.new w7 40 [.slice D1 dn1 dc1, .slice D2 dn2 dc2, .slice (some ⟨db, 0, none⟩) 6 6]).below hb (by simp)) (O7.below (hx7.trans (hb.mono hx7.size)))))
  have hbx7 := (hbx6.trans (hb7.mono hbx6.size)).trans (hx7.mono (hbx6.trans (hb7.mono hbx6.size)).size)
  have C6 := hide (unhide CT A4 m4 c4 (w7.alloc (.cells #[.slice D1 dn1 dc1, .slice D2 dn2 dc2, .slice (some ⟨db, 0, none⟩) 6 6] 40)) (unhide F7 (w7.alloc (.cells #[.slice D1 dn1 dc1, .slice D2 dn2 dc2, .slice (some ⟨db, 0, none⟩) 6 6] 40)) (Below.refl _ _)).1.1.1.1)
  clear O7 p1 p2 p3 C5 hb7 F6 hbx6 CT hx7
  go_wp2_with fail
  refine (unhide C6).mono ?_
  rintro e w8 ⟨v8, u8, m8, q8, rfl, ho8, hp8, hb8⟩
  obtain ⟨A8, c8, rfl⟩ := own_slice ho8
  obtain ⟨B8, d8, rfl⟩ := own_slice hp8
  obtain rfl : q8 = 0 := by have := own_ilen hp8; simpa using this.symm
  have HT := hide (fun w' (hb : Below w8.heap.size w8 w') => And.intro (rd_own (own_below ho8 hb (Nat.le_refl _))) (unhide F7 w' (hb8.trans (hb.mono hb8.size))))
  have C7 := hide (unhide CU A4 m4 c4 w8 (unhide HT w8 (Below.refl _ _)).2.1.1.1.1)
  have hbw8 := hbx7.trans (hb8.mono hbx7.size)
  clear ho8 hp8 hb8 C6 F7 hbx7 CU
  go_wp2_with fail
  refine (unhide C7).mono ?_
  rintro e w9 ⟨v9, u9, rfl, ho9, hp9, hb9⟩
  obtain ⟨A9, c9, rfl⟩ := own_slice ho9
  obtain ⟨B9, d9, rfl⟩ := own_slice hp9
  have HU := hide (fun w' (hb : Below w9.heap.size w9 w') => And.intro (rd_own (own_below ho9 hb (Nat.le_refl _))) (unhide HT w' (hb9.trans (hb.mono hb9.size))))
  have C8 := hide (unhide CX A4 m4 c4 w9 (unhide HU w9 (Below.refl _ _)).2.2.1.1.1.1 hm4)
  have hbw9 := hbw8.trans (hb9.mono hbw8.size)
  obtain ⟨ns, hns⟩ : ∃ ns, S.length = ns := ⟨_, rfl⟩
  have hns40 : ns ≤ 40 := by have := (unhide HMT).2.2; omega
  rw [hns] at HU
  rw [hns]
  rw [show ([] : List Int).length = 0 from rfl]
  clear ho9 hp9 hb9 C7 HT hbw8 CX hns
  go_wp2_with fail
  refine (unhide C8).mono ?_
  rintro e w10 ⟨v10, m10, rfl, ho10, hb10⟩
  obtain ⟨A10, c10, rfl⟩ := own_slice ho10
  have HV := hide (fun w' (hb : Below w10.heap.size w10 w') => And.intro (rd_own (own_below ho10 hb (Nat.le_refl _))) (unhide HU w' (hb10.trans (hb.mono hb10.size))))
  have hbw10 := hbw9.trans (hb10.mono hbw9.size)
  have hz10 : m10 = bn2 := by
    have h0 := unhide HV w10 (Below.refl _ _)
    have h1 := h0.1.dlen
    have h2 := h0.2.2.2.1.1.2.2.2.1.hlen
    have h3 := (unhide HMT).1.len
    omega
  subst hz10
  clear ho10 hb10 C8 HU hbw9
  obtain ⟨hX, hA9, hA8, ⟨⟨⟨hS4, hO3⟩, hB, y1, y2, y3⟩, hC, z1, z2, z3⟩, hE, u1, u2, u3⟩ := unhide HV w10 (Below.refl _ _)
  have eb0 := hB.cellS (i := 0) (v := .slice B1 bn1 bc1) rfl
  have eb1 := hB.cellS (i := 1) (v := .slice B2 m10 bc2) rfl
  have eb2 := hB.cellS (i := 2) (v := .slice (some ⟨bb, 0, none⟩) 6 6) rfl
  have ec0 := hC.cellS (i := 0) (v := .slice C1 cn1 cc1) rfl
  have ec1 := hC.cellS (i := 1) (v := .slice C2 cn2 cc2) rfl
  have ec2 := hC.cellS (i := 2) (v := .slice (some ⟨cb, 0, none⟩) 6 6) rfl
  have C9 := hide (outcome_true B1 B2 (some ⟨bb, 0, none⟩) C1 C2 (some ⟨cb, 0, none⟩) bn1 m10 6 bc1 bc2 6 cn1 cn2 6 cc1 cc2 6 o seen last w10 y1 y2 y3 z1 z2 z3 (by omega) (by omega) (by omega))
  clear hX hA9 hA8 hS4 hO3 hB y1 y2 y3 hC z1 z2 z3 hE u1 u2 u3
  go_wp2_with fail
  refine (unhide C9).mono ?_
  rintro e w11 ⟨rfl, hb11⟩
  obtain ⟨hX, hA9, hA8, ⟨⟨⟨hS4, hO3⟩, hB, y1, y2, y3⟩, hC, z1, z2, z3⟩, hE, u1, u2, u3⟩ := unhide HV w11 hb11
  have fb0 := hB.cellS (i := 0) (v := .slice B1 bn1 bc1) rfl
  have fb1 := hB.cellS (i := 1) (v := .slice B2 m10 bc2) rfl
  have fb2 := hB.cellS (i := 2) (v := .slice (some ⟨bb, 0, none⟩) 6 6) rfl
  have fd0 := hE.cellS (i := 0) (v := .slice D1 dn1 dc1) rfl
  have fd1 := hE.cellS (i := 1) (v := .slice D2 dn2 dc2) rfl
  have fd2 := hE.cellS (i := 2) (v := .slice (some ⟨db, 0, none⟩) 6 6) rfl
  have C10 := hide (outcome_true B1 B2 (some ⟨bb, 0, none⟩) D1 D2 (some ⟨db, 0, none⟩) bn1 m10 6 bc1 bc2 6 dn1 dn2 6 dc1 dc2 6 o seen last w11 y1 y2 y3 u1 u2 u3 (by omega) (by omega) (by omega))
  clear hX hA9 hA8 hS4 hO3 hB y1 y2 y3 hC z1 z2 z3 hE u1 u2 u3
  clear eb0 eb1 eb2 ec0 ec1 ec2 C9
  go_wp2_with fail
  refine (unhide C10).mono ?_
  rintro e w12 ⟨rfl, hb12⟩
  have hb1012 := hb11.trans (hb12.mono hb11.size)
  obtain ⟨hX, hA9, hA8, ⟨⟨⟨hS4, hO3⟩, hB, y1, y2, y3⟩, hC, z1, z2, z3⟩, hE, u1, u2, u3⟩ := unhide HV w12 hb1012
  have gb0 := hB.cellS (i := 0) (v := .slice B1 bn1 bc1) rfl
  have gb1 := hB.cellS (i := 1) (v := .slice B2 m10 bc2) rfl
  have gb2 := hB.cellS (i := 2) (v := .slice (some ⟨bb, 0, none⟩) 6 6) rfl
  have C11 := hide (ints_any B1 A3 bn1 m3 bc1 c3 o o w12 y1 hO3 (by omega))
  rw [decide_eq_true (rfl : o = o)] at C11
  clear hX hA9 hA8 hS4 hO3 hB y1 y2 y3 hC z1 z2 z3 hE u1 u2 u3
  clear fb0 fb1 fb2 fd0 fd1 fd2 C10 hb11 hb12
  go_wp2_with fail
  refine (unhide C11).mono ?_
  rintro e w13 ⟨rfl, hb13⟩
  have hb1013 := hb1012.trans (hb13.mono hb1012.size)
  obtain ⟨hX, hA9, hA8, ⟨⟨⟨hS4, hO3⟩, hB, y1, y2, y3⟩, hC, z1, z2, z3⟩, hE, u1, u2, u3⟩ := unhide HV w13 hb1013
  have hb0 := hB.cellS (i := 0) (v := .slice B1 bn1 bc1) rfl
  have hb1 := hB.cellS (i := 1) (v := .slice B2 m10 bc2) rfl
  have hb2 := hB.cellS (i := 2) (v := .slice (some ⟨bb, 0, none⟩) 6 6) rfl
  obtain rfl : ns = m8 := by have h1 := hA8.hlen; have h2 := hA9.hlen; omega
  have C12 := hide (ops_any A8 A4 ns m4 c8 c4 S S w13 hA8 hS4 (by omega))
  rw [decide_eq_true (rfl : S = S)] at C12
  clear hX hA9 hA8 hS4 hO3 hB y1 y2 y3 hC z1 z2 z3 hE u1 u2 u3
  clear gb0 gb1 gb2 C11 hb1012 hb13
  go_wp2_with fail
  refine (unhide C12).mono ?_
  rintro e w14 ⟨rfl, hb14⟩
  have hb1014 := hb1013.trans (hb14.mono hb1013.size)
  obtain ⟨hX, hA9, hA8, ⟨⟨⟨hS4, hO3⟩, hB, y1, y2, y3⟩, hC, z1, z2, z3⟩, hE, u1, u2, u3⟩ := unhide HV w14 hb1014
  have ib0 := hB.cellS (i := 0) (v := .slice B1 bn1 bc1) rfl
  have ib1 := hB.cellS (i := 1) (v := .slice B2 m10 bc2) rfl
  have ib2 := hB.cellS (i := 2) (v := .slice (some ⟨bb, 0, none⟩) 6 6) rfl
  have C13 := hide (ops_any A9 A4 ns m4 c9 c4 S S w14 hA9 hS4 (by omega))
  rw [decide_eq_true (rfl : S = S)] at C13
  clear hX hA9 hA8 hS4 hO3 hB y1 y2 y3 hC z1 z2 z3 hE u1 u2 u3
  clear hb0 hb1 hb2 C12 hb1013 hb14
  go_wp2_with fail
  refine (unhide C13).mono ?_
  rintro e w15 ⟨rfl, hb15⟩
  have hb1015 := hb1014.trans (hb15.mono hb1014.size)
  obtain ⟨hX, hA9, hA8, ⟨⟨⟨hS4, hO3⟩, hB, y1, y2, y3⟩, hC, z1, z2, z3⟩, hE, u1, u2, u3⟩ := unhide HV w15 hb1015
  have jb0 := hB.cellS (i := 0) (v := .slice B1 bn1 bc1) rfl
  have jb1 := hB.cellS (i := 1) (v := .slice B2 m10 bc2) rfl
  have jb2 := hB.cellS (i := 2) (v := .slice (some ⟨bb, 0, none⟩) 6 6) rfl
  have HRD := hide (And.intro hX (And.intro y2 hS4))
  have hbw15 := hbw10.trans (hb1015.mono hbw10.size)
  have hS4l := hS4.hlen
  have hlen4 := Lib.hid hS4l
  clear hS4l
  clear hX hA9 hA8 hS4 hO3 hB y1 y2 y3 hC z1 z2 z3 hE u1 u2 u3
  clear ib0 ib1 ib2 C13 hb1014 hb15 hb1015 HV hbw10
  go_wp2
  go_loopw [24] (fun s24 wr => ∃ i : Nat, i ≤ m10 ∧ s24 = .int .i64 i ∧ (∃ d : Nat, wr = w15.drewN d)) (fun s24 _ => m10 - (intOf s24).toNat)
  case atStart => exact ⟨0, Nat.zero_le _, rfl, 0, rfl⟩
  case round =>
    obtain ⟨i, hi, rfl, nd, rfl⟩ := hrel
    by_cases hlt : i < m10
    · obtain ⟨hX, y2, hS4⟩ := unhide HRD
      obtain ⟨b2, off2, q, he2, hlt2, hq, q0, q1, q2⟩ := y2.op (k := i) hlt
      cases he2
      obtain ⟨b5, off5, p, he5, hlt5, hp, r0, r1⟩ := hX.pr (k := i) hlt
      cases he5
      obtain ⟨t1, t2, oo, hoo, t3⟩ := (unhide HMT).1.at hq hp
      obtain ⟨p1, p2⟩ := p
      simp only at t1 t2 hoo r0 r1
      obtain ⟨j, rfl⟩ : ∃ j : Nat, p1 = (j : Int) := ⟨p1.toNat, by omega⟩
      rw [Int.toNat_natCast] at hoo
      have hj : j < m4 := by rw [← hlen4.out]; exact (List.getElem?_eq_some_iff.1 hoo).1
      obtain ⟨b4, off4, o4, he4, hlt4, ho4, s0, s1, s2⟩ := hS4.op (k := j) hj
      cases he4
      obtain rfl : o4 = oo := by rw [hoo] at ho4; exact (Option.some.inj ho4).symm
      obtain ⟨qa, qb, qc⟩ := q
      obtain ⟨oa, ob, oc⟩ := o4
      simp only at t1 t3 q0 q1 q2 s0 s1 s2
      obtain rfl := t1
      obtain rfl := t3
      have hj0 : (0 : Int) ≤ (j : Int) := by omega
      have hj1 : ¬ (j : Int) < 0 := by omega
      have hj2 : ¬ (m4 : Int) ≤ (j : Int) := by omega
      have hj3 : (j : Int) < (m4 : Int) := by omega
      have hi3 : (i : Int) < (m10 : Int) := by omega
      have k0 : w15.cell? ⟨w5.heap.size, 1, none⟩ = some (.slice (some ⟨b2, off2, none⟩) m10 bc2) := jb1
      have k1 : w15.cell? ⟨b2, off2 + i * 3 + 1, none⟩ = some (.int .i64 qb) := q1
      have k2 : w15.cell? ⟨b2, off2 + i * 3 + 2, none⟩ = some (.int .i64 qc) := q2
      have k3 : w15.cell? ⟨b5, off5 + i * 2, none⟩ = some (.int .i64 (j : Int)) := r0
      have k4 : w15.cell? ⟨b5, off5 + i * 2 + 1, none⟩ = some (.int .i64 qc) := r1
      have k5 : w15.cell? ⟨b4, off4 + j * 3 + 2, none⟩ = some (.int .i64 qb) := s2
      clear hq hp hoo ho4 hX y2 hS4 q0 q1 q2 r0 r1 s0 s1 s2 HMT HRD
      go_wp2
      go_quiet (fail)
      go_wp2
      go_roundw
      case rel => exact ⟨i + 1, by omega, by go_num, nd + nq, by first | rfl | simp [World.drewN] | skip⟩
      case measure => simp [intOf]; omega
    · obtain rfl : i = m10 := by omega
      go_wp2
      go_ret
      exact ⟨rfl, below_drewN hbw15 nd⟩
theorem own : ownKnob Tryz.prog.godebug = none := by kernel_rfl
theorem bytes_ops : Tryz.prog.bytesOf 54 = 24 := by kernel_rfl

/-! ### The row. -/
set_option maxRecDepth 100000 in
theorem lifted (os : Os) (started : os.Started) (H : Type) (enc : TypeId × Value → H) :
    ReturnsInHanded {} Tryz.checked os 4 .any (Rows.topAgreeSpec.pre6 enc Tryz.prog Tryz.f4 Rows.topAgreeRow.domain false) (Rows.topAgreeSpec.post enc Tryz.prog Tryz.f4 false true false false) := by
  refine returnsInHanded_of_change_sized (C := Tryz.checked) own started (by kernel_rfl) Tryz.func4
    (ChangeSpec.witness6 (enc := enc) (C := Tryz.checked) false ⟨#[], #[.slice none 0 0], []⟩ 8 (by kernel_rfl) (by kernel_rfl) (by kernel_rfl) (by kernel_rfl)) ?_
  intro W base args ds gs before hval0 hW hcnd hsz0 _
  have hval : ∀ (j : Nat) t v, Tryz.f4.params[j]? = some t → args[j]? = some v → Value.okWide Tryz.prog W .any base t v := hval0
  have hW' := hW
  obtain ⟨p, q, hA0, hV, rfl, hfz, hnd⟩ := hW
  have hA : DataW.TrodAll enc Tryz.prog W 0 (fun _ => true) true Tryz.f4.params.toList args.toList ds p := hA0
  have hsz : (DataW.weightsEach Tryz.prog (Tryz.f4.params.toList ++ Rows.topAgreeSpec.plain.varTypes Tryz.prog) (ds ++ gs)).all (· ≤ reachBytes) = true := hsz0
  rw [Tryz.params4] at hA hval hsz
  obtain ⟨v0, vs0, d0, ds0, p0, q0, hargs, rfl, rfl, h0, r0⟩ := trodAll_cons hA
  obtain ⟨rfl, rfl, rfl⟩ := trodAll_nil r0
  obtain rfl : args = #[v0] := by cases args; simp_all
  obtain ⟨rfl, rfl⟩ := trodVars_none hV
  simp only [List.append_nil] at hW'
  have hk0 := h0
  have hlt0 : ∀ x ∈ p0, x.block < W.heap.size := fun x hx => hW'.lt x (by simp [hx])
  obtain ⟨A0, n0, c0, l0, rfl, rd0, bd0⟩ := open_ops Tryz.underlying22 Tryz.underlying54 Tryz.underlying3 rfl rfl rfl (by kernel_rfl) (by kernel_rfl) (hval 0 22 v0 rfl rfl) h0 (fun e s he => by have := sized_slice hsz (j := 0) (t := 22) (e := 54) rfl (congrArg some he) Tryz.underlying22; rwa [bytes_ops] at this)
  clear hA0 hval0
  refine (walk A0 n0 c0 l0 W rd0 bd0).mono fun e W' ⟨he, hg⟩ => ?_
  subst he
  exact ⟨_, rfl, post_slices (pa := _) (pv := []) hW' hg (by simp) (fun _ _ _ => (trodAll_cons_mk (shut_bool Tryz.underlying4 _) trodAll_mk0)) (trodAll_cons_mk (Below.trod laidOut (by kernel_rfl) (of_decide_eq_true (by kernel_rfl)) hk0 hg hlt0) trodAll_mk0) rfl⟩

theorem over : Rows.topAgreeRow.holds Tryz.pinned (OpenSpec.ofChange Rows.topAgreeSpec) :=
  OpenClaim.holds_of_wide 4 Tryz.f4 rfl rfl rfl rfl rfl rfl rfl ⟨rfl, rfl, rfl, rfl, rfl⟩ rfl rfl rfl rfl rfl (by kernel_rfl) Tryz.func4 (by kernel_rfl)
    (of_decide_eq_true (by kernel_rfl)) (by unfold Func.isWrapper; first | (rw [if_pos (by decide +kernel)]; kernel_rfl) | (rw [if_neg (by decide +kernel)]; exact ⟨rfl, rfl⟩))
    (fun os started H enc _ => lifted os started H enc)

/-- The statement. -/
theorem proved : Rows.TopAgreeSaid :=
  over
#print axioms proved
end Go.Proofs.YtmehghkpghbpjaaGreat.topAgree

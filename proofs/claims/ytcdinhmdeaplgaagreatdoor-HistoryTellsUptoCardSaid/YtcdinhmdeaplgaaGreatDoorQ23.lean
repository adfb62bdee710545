
/-
  CONTRACT of laneref1.Of: a deal's ops.
  CONTRACT of laneref1.Read: a text read as a history; the fault.
-/
import Derived.Test.YtcdinhmdeaplgaaGreatDoorQ10
import Derived.Test.YtcdinhmdeaplgaaGreatDoorQ2
import Derived.Test.YtcdinhmdeaplgaaGreatDoorQ22
import Derived.Test.YtcdinhmdeaplgaaGreatDoorQ21
import Derived.Test.YtcdinhmdeaplgaaGreatDoorQ7
import Derived.Deep.DeepCutAuto

namespace Go.Proofs.YtcdinhmdeaplgaaGreatDoor
open Go.RowKit

/-! ### A deal's ops. -/
theorem ownL_snoc {h : List HOp} {k : Nat} {o : HOp} (hk : h[k]? = some o) (t : Int) : ownL (h.take (k + 1)) t = if o.tx = t then ownL (h.take k) t ++ [o] else ownL (h.take k) t := by
  rw [takeSnoc hk, ownL_append]
  unfold ownL
  by_cases e : o.tx = t
  · rw [if_pos e, List.filter_cons_of_pos (by simpa using e)]; rfl
  · rw [if_neg e, List.filter_cons_of_neg (by simpa using e)]; simp
set_option maxRecDepth 100000 in
set_option maxHeartbeats 2000000 in
theorem rof_any (A : Option Addr) (n cap : Nat) (h : List HOp) (tx : Int) (w : World) (hr : Rd w w.heap.size 3 A n (cellsH h)) (hm : n ≤ 1000000) :
    Calls Tryz.prog 16 #[.slice A n cap, .int .i64 tx] w fun e w' => ∃ v m, e = .returned v ∧ w'.ownsRow w.heap.size 50 3 v m (cellsH (ownL h tx)) ∧ m ≤ n ∧ Below w.heap.size w w' := by
  have HL := Lib.hid hr.hlen
  go_enter Tryz.func16, Tryz.ntmps16
  go_wp2
  go_loopw [5, 6] (fun s5 s6 wr => ∃ k m : Nat, k ≤ n ∧ m ≤ k ∧ s6 = .int .i64 k ∧ wr.ownsRow w.heap.size 50 3 s5 m (cellsH (ownL (h.take k) tx)) ∧ Below w.heap.size w wr) (fun _ s6 _ => n - (intOf s6).toNat)
  case atStart => exact ⟨0, 0, Nat.zero_le _, Nat.le_refl _, rfl, World.ownsRow_nil _ _ _ _, Below.refl _ _⟩
  case round =>
    obtain ⟨k, m, hk, hmk, rfl, ho5, hbw⟩ := hrel
    obtain ⟨A5, c5, rfl⟩ := own_slice ho5
    by_cases hlt : k < n
    · obtain ⟨b, off, o, he, hb, ho, c0, c1, c2⟩ := (hr.below hbw).op (k := k) (by omega)
      cases he
      have HS := Lib.hid (ownL_snoc ho tx)
      clear ho
      have hz := hbw.size
      by_cases ht : o.tx = tx
      · have HS2 : Hid (ownL (h.take (k + 1)) tx = ownL (h.take k) tx ++ [o]) := Lib.hid (by rw [HS.out, if_pos ht])
        obtain ⟨o1, o2, o3⟩ := o
        simp only at c0 c1 c2 ht
        subst ht
        clear HS
        go_wp2_with (at_builtin; refine wpList_app rfl (.tmp 20) (.tmp 25) _ rfl w.heap.size slt_op (n := m) (xs := cellsH (ownL (h.take k) o1)) (m := 1) (news := cellsH [⟨o1, o2, o3⟩]) rfl (own_alloc ho5 _) rfl (rd_new' _ _ (cellsH [⟨o1, o2, o3⟩]) (by simp) rfl) (oneH _) (by omega) (by simp; omega) ?_; intro v6 w6 hown6 hg6 hb6 hat6 hne6)
        have hb6' := (hbw.alloc hz (.cells (cellsH [⟨o1, o2, o3⟩]).toArray 50)).trans hb6
        rw [← cellsH_append, ← HS2.out] at hown6
        go_roundw
        case rel => exact ⟨k + 1, m + 1, by omega, by omega, by go_num, hown6, hb6'⟩
        case measure => simp [intOf]; omega
      · have HS2 : Hid (ownL (h.take (k + 1)) tx = ownL (h.take k) tx) := Lib.hid (by rw [HS.out, if_neg ht])
        have htb : (o.tx == tx) = false := by simpa using ht
        clear HS ht
        go_wp2
        go_roundw
        case rel => exact ⟨k + 1, m, by omega, by omega, by go_num, by rw [HS2.out]; exact ho5, hbw⟩
        case measure => simp [intOf]; omega
    · have HT : Hid (h.take k = h) := Lib.hid (List.take_of_length_le (by rw [HL.out]; omega))
      go_wp2
      go_ret
      exact ⟨_, _, rfl, by rw [HT.out] at ho5; exact ho5, by omega, hbw⟩

end Go.Proofs.YtcdinhmdeaplgaaGreatDoor


namespace Go.Proofs.YtcdinhmdeaplgaaGreatDoor
open Go.RowKit

theorem printL_one (o : HOp) : printL [o] = textL o := inter_one _ _
set_option maxRecDepth 100000 in
set_option maxHeartbeats 4000000 in
theorem rread_any (s : List UInt8) (w : World) (hs : s.length ≤ 4000000000) :
    Calls Tryz.prog 18 #[.string ⟨s.toArray⟩] w fun e w' => ∃ v m, e = .returned (.tuple #[v, .int .i64 (parseE s)]) ∧ w'.ownsRow w.heap.size 50 3 v m (cellsH (parseL s)) ∧ Below w.heap.size w w' := by
  by_cases h0 : s = []
  · subst h0
    go_enter Tryz.func18, Tryz.ntmps18
    go_wp2
    go_ret2
    exact ⟨_, 0, rfl, World.ownsRow_nil _ _ _ _, Below.refl _ _⟩
  have hne : (⟨s.toArray⟩ : ByteArray).toList.isEmpty = false := by
    rw [show (⟨s.toArray⟩ : ByteArray).toList = s by rw [ByteArray.toList_eq]]
    cases s with
    | nil => exact absurd rfl h0
    | cons _ _ => rfl
  have CC := hide (rcut_any s 32 w hs)
  have hlen := cutL_len 32 s
  have hE : parseE s = match wordsF (cutL 32 s) with
    | none => 2
    | some h => (checkF h).2 := by unfold parseE; rw [if_neg h0]; rfl
  have hL : parseL s = match wordsF (cutL 32 s) with
    | none => []
    | some h => if (checkF h).2 = 0 then h else [] := by unfold parseL; rw [if_neg h0]; rfl
  have HEL := Lib.hid (And.intro hE hL)
  clear hE hL h0
  generalize (⟨s.toArray⟩ : ByteArray) = sb at *
  generalize cutL 32 s = ws at *
  generalize parseE s = E at *
  generalize parseL s = L at *
  obtain ⟨nw, hnw⟩ : ∃ nw, ws.length = nw := ⟨_, rfl⟩
  rw [hnw] at hlen CC
  have hnw2 : nw ≤ 4000000001 := by omega
  have HNW := Lib.hid hnw
  clear hnw hs hlen
  go_enter Tryz.func18, Tryz.ntmps18
  go_wp2_with fail
  refine (unhide CC).mono ?_
  rintro e w1 ⟨v1, rfl, ho1, hb1⟩
  obtain ⟨A1, c1, rfl⟩ := own_slice ho1
  have HRW := hide (rd_own ho1)
  have hz1 := hb1.size
  clear ho1 CC
  go_wp2
  go_loopw [4, 6] (fun s4 s6 wr => ∃ (i : Nat) (H : List HOp), i ≤ nw ∧ s6 = .int .i64 i ∧ wr.ownsRow w1.heap.size 50 3 s4 i (cellsH H) ∧ Hid (wordsF (ws.take i) = some H) ∧ Below w1.heap.size w1 wr) (fun _ s6 _ => nw - (intOf s6).toNat)
  case atStart => exact ⟨0, [], Nat.zero_le _, rfl, World.ownsRow_nil _ _ _ _, Lib.hid (by rw [List.take_zero]; rfl), Below.refl _ _⟩
  case round =>
    obtain ⟨i, H, hi, rfl, hown, HW, hbr⟩ := hrel
    obtain ⟨A4, c4, rfl⟩ := own_slice hown
    have hzr := hbr.size
    by_cases hlt : i < nw
    · have hltI : (i : Int) < (nw : Int) := by omega
      obtain ⟨b, off, x, he, hb, hx, q0⟩ := (((unhide HRW).below hbr).more hbr.size).str (k := i) hlt
      cases he
      have HX := Lib.hid hx
      have hxb : b < wr.heap.size := hb
      obtain ⟨wo, rfl⟩ : ∃ wo : World, wo = wr := ⟨_, rfl⟩
      clear hx
      obtain ⟨wa, hwa⟩ : ∃ wa, wa = wo.alloc (.cells #[.int .i64 0, .int .i64 0, .int .i64 0] 50) := ⟨_, rfl⟩
      have hBa : Blk wa wo.heap.size 50 [.int .i64 0, .int .i64 0, .int .i64 0] := by rw [hwa]; exact Blk.new wo 50 [.int .i64 0, .int .i64 0, .int .i64 0]
      have hba : Below wo.heap.size wo wa := by rw [hwa]; exact (Below.refl _ _).alloc (Nat.le_refl _) _
      have q1 : wa.cell? ⟨b, off + i, none⟩ = some (.string ⟨x.toArray⟩) := (hba.cell (p := ⟨b, off + i, none⟩) hxb).trans q0
      obtain ⟨xb, hxb'⟩ : ∃ xb : ByteArray, (⟨x.toArray⟩ : ByteArray) = xb := ⟨_, rfl⟩
      obtain ⟨lx, hlx⟩ : ∃ lx, x.length = lx := ⟨_, rfl⟩
      have hsz : xb.size = lx := by rw [← hxb']; exact hlx
      have HXB := Lib.hid (And.intro hxb' hlx)
      rw [hxb'] at q0 q1
      clear hxb' hlx
      go_upto_region 9 with fail
      rw [← hwa]
      clear hwa
      go_cut [33] (fun s33 wx => ∃ q : Bool, s33 = .bool q ∧ Hid (q = true ↔ (lx = 2 ∨ lx = 5)) ∧ wx = wa)
      case first =>
        by_cases h2 : lx = 2
        · have g2 : ((lx : Int) == 2) = true := by rw [h2]; rfl
          have HH := Lib.hid h2
          clear h2
          go_wp2
          go_meet
          case rel => exact ⟨true, rfl, Lib.hid ⟨fun _ => .inl HH.out, fun _ => rfl⟩, rfl⟩
        · have g2 : ((lx : Int) == 2) = false := by simp; omega
          by_cases h5 : lx = 5
          · have g5 : ((lx : Int) == 5) = true := by rw [h5]; rfl
            have HH := Lib.hid h5
            clear h5 h2
            go_wp2
            go_meet
            case rel => exact ⟨true, rfl, Lib.hid ⟨fun _ => .inr HH.out, fun _ => rfl⟩, rfl⟩
          · have g5 : ((lx : Int) == 5) = false := by simp; omega
            have HH := Lib.hid (And.intro h2 h5)
            clear h5 h2
            go_wp2
            go_meet
            case rel => exact ⟨false, rfl, Lib.hid ⟨fun h => (by cases h), fun h => h.elim (fun h => absurd h HH.out.1) (fun h => absurd h HH.out.2)⟩, rfl⟩
      case rest =>
        obtain ⟨q, rfl, HQ, hwq⟩ := hcut
        subst hwq
        obtain ⟨wq, hwq⟩ : ∃ wq : World, wq = wc := ⟨_, rfl⟩
        subst hwq
        go_upto_if 33 with fail
        go_cut [] (fun wx => Blk wx wo.heap.size 50 [.int .i64 (guessF x).tx, .int .i64 (guessF x).what, .int .i64 (guessF x).item] ∧ Below wo.heap.size wo wx)
        case first =>
          have c0 := hBa.cellS (i := 0) (v := .int .i64 0) rfl
          have c1' := hBa.cellS (i := 1) (v := .int .i64 0) rfl
          have c2' := hBa.cellS (i := 2) (v := .int .i64 0) rfl
          have f0 := hBa.frozen 0
          have f1 := hBa.frozen 1
          have f2 := hBa.frozen 2
          have HBQ := hide (And.intro hBa hba)
          clear hBa
          cases q
          · have hn := HQ.out
            have HG : Hid (guessF x = ⟨0, 0, 0⟩) := Lib.hid (by
              unfold guessF
              rw [if_neg (by rw [HXB.out.2]; intro h; have := hn.2 h; cases this)])
            clear hn
            go_wp2
            go_meet
            case rel => exact ⟨by rw [HG.out]; exact (unhide HBQ).1, (unhide HBQ).2⟩
          · have hn := HQ.out.1 rfl
            have hx4 : (∃ p0 p1, x = [p0, p1]) ∨ (∃ p0 p1 p2 p3 p4, x = [p0, p1, p2, p3, p4]) := by
              have hl := HXB.out.2
              match x, hl with
              | [p0, p1], _ => exact .inl ⟨_, _, rfl⟩
              | [p0, p1, p2, p3, p4], _ => exact .inr ⟨_, _, _, _, _, rfl⟩
              | [], h => simp at h; omega
              | [_], h => simp at h; omega
              | [_, _, _], h => simp at h; omega
              | [_, _, _, _], h => simp at h; omega
              | _ :: _ :: _ :: _ :: _ :: _ :: _, h => simp at h; omega
            rcases hx4 with ⟨p0, p1, hx4⟩ | ⟨p0, p1, p2, p3, p4, hx4⟩
            · subst hx4
              obtain ⟨e1, e2⟩ := HXB.out
              have e2' : 2 = lx := e2
              subst e2'
              have h0' : 0 < xb.size := by omega
              have h1' : 1 < xb.size := by omega
              have v0 : (xb[0]'h0') = p0 := by subst e1; rfl
              have v1 : (xb[1]'h1') = p1 := by subst e1; rfl
              obtain ⟨k0, hk0⟩ : ∃ k0, (xb[0]'h0').toNat = k0 := ⟨_, rfl⟩
              obtain ⟨k1, hk1⟩ : ∃ k1, (xb[1]'h1').toNat = k1 := ⟨_, rfl⟩
              have l1 : k1 < 256 := by rw [← hk1]; exact UInt8.toNat_lt _
              have r0 : p0.toNat = k0 := by rw [← v0, hk0]
              have HG : Hid (guessF [p0, p1] = ⟨(k1 : Int) - 48, whatG p0, 0⟩) := Lib.hid (by
                rw [← hk1, v1]
                rfl)
              have HW0 := Lib.hid r0
              clear e1 e2 v0 v1 r0 hn HXB HQ
              have h5 : k0 = 114 ∨ (k0 ≠ 114 ∧ k0 = 119) ∨ (k0 ≠ 114 ∧ k0 ≠ 119 ∧ k0 = 99) ∨ (k0 ≠ 114 ∧ k0 ≠ 119 ∧ k0 ≠ 99 ∧ k0 = 97) ∨ (k0 ≠ 114 ∧ k0 ≠ 119 ∧ k0 ≠ 99 ∧ k0 ≠ 97) := by omega
              rcases h5 with h | ⟨n1, h⟩ | ⟨n1, n2, h⟩ | ⟨n1, n2, n3, h⟩ | ⟨n1, n2, n3, n4⟩
              · have HWG : Hid (whatG p0 = 1) := Lib.hid (by
                  unfold whatG
                  rw [if_pos (UInt8.toNat_inj.1 (by rw [HW0.out, h]; rfl))])
                have t1 : ((k0 : Int) == 114) = true := by rw [h]; rfl
                clear h
                go_wp2
                go_meet
                case rel => exact ⟨by rw [HG.out, HWG.out]; exact ((unhide HBQ).1.put 0 _).put 1 _, ((unhide HBQ).2.setCell (Nat.le_refl _) _).setCell (Nat.le_refl _) _⟩
              · have HWG : Hid (whatG p0 = 2) := Lib.hid (by
                  unfold whatG
                  rw [if_neg (fun e => n1 (by rw [← HW0.out, e]; rfl))]
                  rw [if_pos (UInt8.toNat_inj.1 (by rw [HW0.out, h]; rfl))])
                have t1 : ((k0 : Int) == 114) = false := by simp; omega
                have t2 : ((k0 : Int) == 119) = true := by rw [h]; rfl
                clear h n1
                go_wp2
                go_meet
                case rel => exact ⟨by rw [HG.out, HWG.out]; exact ((unhide HBQ).1.put 0 _).put 1 _, ((unhide HBQ).2.setCell (Nat.le_refl _) _).setCell (Nat.le_refl _) _⟩
              · have HWG : Hid (whatG p0 = 3) := Lib.hid (by
                  unfold whatG
                  rw [if_neg (fun e => n1 (by rw [← HW0.out, e]; rfl))]
                  rw [if_neg (fun e => n2 (by rw [← HW0.out, e]; rfl))]
                  rw [if_pos (UInt8.toNat_inj.1 (by rw [HW0.out, h]; rfl))])
                have t1 : ((k0 : Int) == 114) = false := by simp; omega
                have t2 : ((k0 : Int) == 119) = false := by simp; omega
                have t3 : ((k0 : Int) == 99) = true := by rw [h]; rfl
                clear h n1 n2
                go_wp2
                go_meet
                case rel => exact ⟨by rw [HG.out, HWG.out]; exact ((unhide HBQ).1.put 0 _).put 1 _, ((unhide HBQ).2.setCell (Nat.le_refl _) _).setCell (Nat.le_refl _) _⟩
              · have HWG : Hid (whatG p0 = 4) := Lib.hid (by
                  unfold whatG
                  rw [if_neg (fun e => n1 (by rw [← HW0.out, e]; rfl))]
                  rw [if_neg (fun e => n2 (by rw [← HW0.out, e]; rfl))]
                  rw [if_neg (fun e => n3 (by rw [← HW0.out, e]; rfl))]
                  rw [if_pos (UInt8.toNat_inj.1 (by rw [HW0.out, h]; rfl))])
                have t1 : ((k0 : Int) == 114) = false := by simp; omega
                have t2 : ((k0 : Int) == 119) = false := by simp; omega
                have t3 : ((k0 : Int) == 99) = false := by simp; omega
                have t4 : ((k0 : Int) == 97) = true := by rw [h]; rfl
                clear h n1 n2 n3
                go_wp2
                go_meet
                case rel => exact ⟨by rw [HG.out, HWG.out]; exact ((unhide HBQ).1.put 0 _).put 1 _, ((unhide HBQ).2.setCell (Nat.le_refl _) _).setCell (Nat.le_refl _) _⟩
              · have HWG : Hid (whatG p0 = 0) := Lib.hid (by
                  unfold whatG
                  rw [if_neg (fun e => n1 (by rw [← HW0.out, e]; rfl))]
                  rw [if_neg (fun e => n2 (by rw [← HW0.out, e]; rfl))]
                  rw [if_neg (fun e => n3 (by rw [← HW0.out, e]; rfl))]
                  rw [if_neg (fun e => n4 (by rw [← HW0.out, e]; rfl))])
                have t1 : ((k0 : Int) == 114) = false := by simp; omega
                have t2 : ((k0 : Int) == 119) = false := by simp; omega
                have t3 : ((k0 : Int) == 99) = false := by simp; omega
                have t4 : ((k0 : Int) == 97) = false := by simp; omega
                clear n1 n2 n3 n4
                go_wp2
                go_meet
                case rel => exact ⟨by rw [HG.out, HWG.out]; exact (unhide HBQ).1.put 0 _, (unhide HBQ).2.setCell (Nat.le_refl _) _⟩
            · subst hx4
              obtain ⟨e1, e2⟩ := HXB.out
              have e2' : 5 = lx := e2
              subst e2'
              have h0' : 0 < xb.size := by omega
              have h1' : 1 < xb.size := by omega
              have h3' : 3 < xb.size := by omega
              have v0 : (xb[0]'h0') = p0 := by subst e1; rfl
              have v1 : (xb[1]'h1') = p1 := by subst e1; rfl
              have v3 : (xb[3]'h3') = p3 := by subst e1; rfl
              obtain ⟨k0, hk0⟩ : ∃ k0, (xb[0]'h0').toNat = k0 := ⟨_, rfl⟩
              obtain ⟨k1, hk1⟩ : ∃ k1, (xb[1]'h1').toNat = k1 := ⟨_, rfl⟩
              obtain ⟨k3, hk3⟩ : ∃ k3, (xb[3]'h3').toNat = k3 := ⟨_, rfl⟩
              have l1 : k1 < 256 := by rw [← hk1]; exact UInt8.toNat_lt _
              have l3 : k3 < 256 := by rw [← hk3]; exact UInt8.toNat_lt _
              have r0 : p0.toNat = k0 := by rw [← v0, hk0]
              have HG : Hid (guessF [p0, p1, p2, p3, p4] = ⟨(k1 : Int) - 48, whatG p0, (k3 : Int) - 96⟩) := Lib.hid (by
                rw [← hk1, ← hk3, v1, v3]
                rfl)
              have HW0 := Lib.hid r0
              clear e1 e2 v0 v1 v3 r0 hn HXB HQ
              have h5 : k0 = 114 ∨ (k0 ≠ 114 ∧ k0 = 119) ∨ (k0 ≠ 114 ∧ k0 ≠ 119 ∧ k0 = 99) ∨ (k0 ≠ 114 ∧ k0 ≠ 119 ∧ k0 ≠ 99 ∧ k0 = 97) ∨ (k0 ≠ 114 ∧ k0 ≠ 119 ∧ k0 ≠ 99 ∧ k0 ≠ 97) := by omega
              rcases h5 with h | ⟨n1, h⟩ | ⟨n1, n2, h⟩ | ⟨n1, n2, n3, h⟩ | ⟨n1, n2, n3, n4⟩
              · have HWG : Hid (whatG p0 = 1) := Lib.hid (by
                  unfold whatG
                  rw [if_pos (UInt8.toNat_inj.1 (by rw [HW0.out, h]; rfl))])
                have t1 : ((k0 : Int) == 114) = true := by rw [h]; rfl
                clear h
                go_wp2
                go_meet
                case rel => exact ⟨by rw [HG.out, HWG.out]; exact (((unhide HBQ).1.put 0 _).put 1 _).put 2 _, (((unhide HBQ).2.setCell (Nat.le_refl _) _).setCell (Nat.le_refl _) _).setCell (Nat.le_refl _) _⟩
              · have HWG : Hid (whatG p0 = 2) := Lib.hid (by
                  unfold whatG
                  rw [if_neg (fun e => n1 (by rw [← HW0.out, e]; rfl))]
                  rw [if_pos (UInt8.toNat_inj.1 (by rw [HW0.out, h]; rfl))])
                have t1 : ((k0 : Int) == 114) = false := by simp; omega
                have t2 : ((k0 : Int) == 119) = true := by rw [h]; rfl
                clear h n1
                go_wp2
                go_meet
                case rel => exact ⟨by rw [HG.out, HWG.out]; exact (((unhide HBQ).1.put 0 _).put 1 _).put 2 _, (((unhide HBQ).2.setCell (Nat.le_refl _) _).setCell (Nat.le_refl _) _).setCell (Nat.le_refl _) _⟩
              · have HWG : Hid (whatG p0 = 3) := Lib.hid (by
                  unfold whatG
                  rw [if_neg (fun e => n1 (by rw [← HW0.out, e]; rfl))]
                  rw [if_neg (fun e => n2 (by rw [← HW0.out, e]; rfl))]
                  rw [if_pos (UInt8.toNat_inj.1 (by rw [HW0.out, h]; rfl))])
                have t1 : ((k0 : Int) == 114) = false := by simp; omega
                have t2 : ((k0 : Int) == 119) = false := by simp; omega
                have t3 : ((k0 : Int) == 99) = true := by rw [h]; rfl
                clear h n1 n2
                go_wp2
                go_meet
                case rel => exact ⟨by rw [HG.out, HWG.out]; exact (((unhide HBQ).1.put 0 _).put 1 _).put 2 _, (((unhide HBQ).2.setCell (Nat.le_refl _) _).setCell (Nat.le_refl _) _).setCell (Nat.le_refl _) _⟩
              · have HWG : Hid (whatG p0 = 4) := Lib.hid (by
                  unfold whatG
                  rw [if_neg (fun e => n1 (by rw [← HW0.out, e]; rfl))]
                  rw [if_neg (fun e => n2 (by rw [← HW0.out, e]; rfl))]
                  rw [if_neg (fun e => n3 (by rw [← HW0.out, e]; rfl))]
                  rw [if_pos (UInt8.toNat_inj.1 (by rw [HW0.out, h]; rfl))])
                have t1 : ((k0 : Int) == 114) = false := by simp; omega
                have t2 : ((k0 : Int) == 119) = false := by simp; omega
                have t3 : ((k0 : Int) == 99) = false := by simp; omega
                have t4 : ((k0 : Int) == 97) = true := by rw [h]; rfl
                clear h n1 n2 n3
                go_wp2
                go_meet
                case rel => exact ⟨by rw [HG.out, HWG.out]; exact (((unhide HBQ).1.put 0 _).put 1 _).put 2 _, (((unhide HBQ).2.setCell (Nat.le_refl _) _).setCell (Nat.le_refl _) _).setCell (Nat.le_refl _) _⟩
              · have HWG : Hid (whatG p0 = 0) := Lib.hid (by
                  unfold whatG
                  rw [if_neg (fun e => n1 (by rw [← HW0.out, e]; rfl))]
                  rw [if_neg (fun e => n2 (by rw [← HW0.out, e]; rfl))]
                  rw [if_neg (fun e => n3 (by rw [← HW0.out, e]; rfl))]
                  rw [if_neg (fun e => n4 (by rw [← HW0.out, e]; rfl))])
                have t1 : ((k0 : Int) == 114) = false := by simp; omega
                have t2 : ((k0 : Int) == 119) = false := by simp; omega
                have t3 : ((k0 : Int) == 99) = false := by simp; omega
                have t4 : ((k0 : Int) == 97) = false := by simp; omega
                clear n1 n2 n3 n4
                go_wp2
                go_meet
                case rel => exact ⟨by rw [HG.out, HWG.out]; exact ((unhide HBQ).1.put 0 _).put 2 _, ((unhide HBQ).2.setCell (Nat.le_refl _) _).setCell (Nat.le_refl _) _⟩
        case rest =>
          obtain ⟨hBc, hbc⟩ := hcut
          obtain ⟨wd, hwd⟩ : ∃ wd : World, wd = wc := ⟨_, rfl⟩
          subst hwd
          obtain ⟨gg, hgg⟩ : ∃ gg, guessF x = gg := ⟨_, rfl⟩
          rw [hgg] at hBc
          have HGX := Lib.hid hgg
          clear hgg hBa hba q1 HQ
          obtain ⟨g1, g2, g3⟩ := gg
          simp only at hBc
          have d0 := hBc.cellS (i := 0) (v := .int .i64 g1) rfl
          have d1 := hBc.cellS (i := 1) (v := .int .i64 g2) rfl
          have d2 := hBc.cellS (i := 2) (v := .int .i64 g3) rfl
          have hxc : wd.cell? ⟨b, off + i, none⟩ = some (.string xb) := (hbc.cell (p := ⟨b, off + i, none⟩) hxb).trans q0
          have hownd := own_below hown hbc (Nat.le_refl _)
          have hbd : Below w1.heap.size w1 wd := hbr.trans (hbc.mono hzr)
          have hzd := hbd.size
          have hzc := hbc.size
          clear hown
          have CR := hide (rright_any (some ⟨wd.heap.size, 0, none⟩) 1 1 [⟨g1, g2, g3⟩] (wd.alloc (.cells (cellsH [⟨g1, g2, g3⟩]).toArray 50)) ((rd_new' wd 50 (size := 3) (n := 1) (cellsH [⟨g1, g2, g3⟩]) rfl rfl).more (by simp)) (by omega))
          have hb2 : Below wd.heap.size wd (wd.alloc (.cells (cellsH [⟨g1, g2, g3⟩]).toArray 50)) := (Below.refl _ _).alloc (Nat.le_refl _) _
          have HMEM : Hid (x ∈ ws) := Lib.hid (List.mem_of_getElem? HX.out)
          by_cases hz : (checkF [⟨g1, g2, g3⟩]).2 = 0
          · have hro := okH_right (show okH [⟨g1, g2, g3⟩] from hz)
            rw [hz] at CR
            have HZ := Lib.hid hz
            clear hz
            go_wp2_with fail
            refine (unhide CR).mono ?_
            rintro e w3 ⟨rfl, hb3⟩
            have hb3w := hb2.trans (hb3.mono hb2.size)
            have hBe := hBc.below hb3w hBc.lt
            have d0 := hBe.cellS (i := 0) (v := .int .i64 g1) rfl
            have d1 := hBe.cellS (i := 1) (v := .int .i64 g2) rfl
            have d2 := hBe.cellS (i := 2) (v := .int .i64 g3) rfl
            have hxd : b < wd.heap.size := by omega
            have hxc := (hb3w.cell (p := ⟨b, off + i, none⟩) hxd).trans hxc
            have hown3 := own_below hownd hb3w (Nat.le_refl _)
            have hbd3 := hbd.trans (hb3w.mono hzd)
            have hzd3 := hbd3.size
            have hlt3 : wo.heap.size < w3.heap.size := hBe.lt
            have hxd3 : b < w3.heap.size := by omega
            have CT := hide (rtext_any (some ⟨w3.heap.size, 0, none⟩) 1 1 [⟨g1, g2, g3⟩] (w3.alloc (.cells (cellsH [⟨g1, g2, g3⟩]).toArray 50)) ((rd_new' w3 50 (size := 3) (n := 1) (cellsH [⟨g1, g2, g3⟩]) rfl rfl).more (by simp)) hro (by omega))
            have hb4 : Below w3.heap.size w3 (w3.alloc (.cells (cellsH [⟨g1, g2, g3⟩]).toArray 50)) := (Below.refl _ _).alloc (Nat.le_refl _) _
            obtain ⟨tb, htb⟩ : ∃ tb : ByteArray, (⟨(printL [⟨g1, g2, g3⟩]).toArray⟩ : ByteArray) = tb := ⟨_, rfl⟩
            rw [htb] at CT
            have HTB := Lib.hid htb
            clear CR hb2 hb3 hBc hownd hbd htb hro hb3w
            go_wp2_with fail
            refine (unhide CT).mono ?_
            rintro e w5 ⟨rfl, hb5⟩
            have hb5w := hb4.trans (hb5.mono hb4.size)
            have hBe5 := hBe.below hb5w hBe.lt
            have d0 := hBe5.cellS (i := 0) (v := .int .i64 g1) rfl
            have d1 := hBe5.cellS (i := 1) (v := .int .i64 g2) rfl
            have d2 := hBe5.cellS (i := 2) (v := .int .i64 g3) rfl
            have hxc := (hb5w.cell (p := ⟨b, off + i, none⟩) hxd3).trans hxc
            have hown5 := own_below hown3 hb5w (Nat.le_refl _)
            have hbd5 := hbd3.trans (hb5w.mono hzd3)
            have hzd5 := hbd5.size
            clear CT hb4 hb5 hBe hown3 hbd3 hb5w
            by_cases hte : tb = xb
            · have HWX : Hid (wordF x = some ⟨g1, g2, g3⟩) := Lib.hid (by
                have e : x = textL ⟨g1, g2, g3⟩ := by
                  have h1 : (⟨(printL [⟨g1, g2, g3⟩]).toArray⟩ : ByteArray) = ⟨x.toArray⟩ := by rw [HTB.out, HXB.out.1]; exact hte
                  rw [printL_one] at h1
                  injection h1 with h1
                  exact (List.toArray_inj h1).symm
                rw [← HGX.out]
                exact guess_yes (by rw [HGX.out]; exact HZ.out) (by rw [HGX.out]; exact e.symm))
              clear HTB
              subst hte
              have HSN := Lib.hid (wordsF_snoc HW.out HWX.out)
              go_wp2_with (at_builtin; (refine wpList_app rfl (.tmp 86) (.tmp 88) _ rfl w1.heap.size slt_op (n := i) (xs := cellsH H) (m := 1) (news := cellsH [⟨g1, g2, g3⟩]) rfl (own_alloc hown5 _) rfl (rd_new' _ _ (cellsH [⟨g1, g2, g3⟩]) (by simp) rfl) (oneH _) (by omega) (by simp; omega) ?_; intro v6 w6 hown6 hg6 hb6 hat6 hne6))
              rw [← cellsH_append] at hown6
              have hb7 : Below w1.heap.size w1 w6 := (hbd5.alloc hzd5 _).trans hb6
              go_roundw
              case rel => exact ⟨i + 1, H ++ [⟨g1, g2, g3⟩], by omega, by go_num, hown6, Lib.hid (by rw [List.take_add_one, HX.out]; exact HSN.out), hb7⟩
              case measure => simp [intOf]; omega
            · have ht2 : (tb.toList == xb.toList) = false := beq_eq_false_iff_ne.2 (fun e => hte (ByteArray.ext (Array.toList_inj.1 (by rwa [ByteArray.toList_eq, ByteArray.toList_eq] at e))))
              have HNO : Hid (wordsF ws = none) := Lib.hid (wordsF_bad HMEM.out (guess_no (.inr (by
                rw [HGX.out]
                intro e
                refine hte ?_
                rw [← HTB.out, ← HXB.out.1, ← e, printL_one]))))
              go_wp2
              go_ret2
              exact ⟨.slice none 0 0, 0, by rw [HEL.out.1, HNO.out]; rfl, by rw [HEL.out.2, HNO.out]; exact World.ownsRow_nil _ _ _ _, hb1.trans (hbd5.mono hz1)⟩
          · have HNO : Hid (wordsF ws = none) := Lib.hid (wordsF_bad HMEM.out (guess_no (.inl (by rw [HGX.out]; exact hz))))
            generalize (checkF [⟨g1, g2, g3⟩]).2 = er at *
            have hz2 : (er == 0) = false := by simp [hz]
            go_wp2_with fail
            refine (unhide CR).mono ?_
            rintro e w3 ⟨rfl, hb3⟩
            have hb3w := hbd.trans ((hb2.trans (hb3.mono hb2.size)).mono hzd)
            go_wp2
            go_ret2
            exact ⟨.slice none 0 0, 0, by rw [HEL.out.1, HNO.out]; rfl, by rw [HEL.out.2, HNO.out]; exact World.ownsRow_nil _ _ _ _, hb1.trans (hb3w.mono hz1)⟩
    · obtain rfl : i = nw := by omega
      have HWS : Hid (wordsF ws = some H) := Lib.hid (by have := HW.out; rwa [List.take_of_length_le (by rw [HNW.out]; exact Nat.le_refl _)] at this)
      have CRR := hide (rright_any A4 i c4 H wr (rd_own hown) (by omega))
      have hE2 : E = (checkF H).2 := by rw [HEL.out.1, HWS.out]
      have hL2 : L = if (checkF H).2 = 0 then H else [] := by rw [HEL.out.2, HWS.out]
      clear HW HWS HEL
      by_cases hz : (checkF H).2 = 0
      · rw [if_pos hz] at hL2
        rw [hz] at CRR hE2
        subst hL2 hE2
        clear hz
        go_wp2_with fail
        refine (unhide CRR).mono ?_
        rintro e w3 ⟨rfl, hb3⟩
        go_wp2
        go_ret2
        exact ⟨_, i, rfl, own_mono (own_below hown hb3 (Nat.le_refl _)) hz1, hb1.trans ((hbr.trans (hb3.mono hzr)).mono hz1)⟩
      · rw [if_neg hz] at hL2
        rw [← hE2] at CRR hz
        subst hL2
        have hz2 : (E == 0) = false := by simp [hz]
        clear hE2
        go_wp2_with fail
        refine (unhide CRR).mono ?_
        rintro e w3 ⟨rfl, hb3⟩
        go_wp2
        go_ret2
        exact ⟨.slice none 0 0, 0, rfl, World.ownsRow_nil _ _ _ _, hb1.trans ((hbr.trans (hb3.mono hzr)).mono hz1)⟩
end Go.Proofs.YtcdinhmdeaplgaaGreatDoor


/-
  CONTRACTS of the table within laneref2.Runner (printed by wip/mkslock.py from XRLock4): CONTRACT of the reference's laneref1.Table.For.
  CONTRACTS of the table within laneref2.Runner (printed by wip/mkslock.py from XRLock5): CONTRACT of the reference's laneref1.Table.Free.
-/
import Derived.Test.YtbccnafdfeempaaGreatDoorRLock4
import Derived.Test.YtbccnafdfeempaaGreatDoorQ29
import Derived.Test.YtbccnafdfeempaaGreatDoorQ28

namespace Go.Proofs.YtbccnafdfeempaaGreatDoor
open Go.RowKit
variable {p0 : Value} {ps : List Value}

set_option maxRecDepth 100000 in
set_option maxHeartbeats 2000000 in
theorem sfor_any (lo g : Nat) (v1 v2 : Value) (H W : List HOp) (l : HOp) (w : World) (T : TabRn p0 ps w lo g v1 v2 H W) (hh : H.length ≤ 200000) (hw : W.length ≤ 200000) :
    Calls Tryz.prog 33 #[.pointer (some ⟨g, 1, none⟩), l.val] w fun e w' => ∃ v, e = .returned v ∧ w'.ownsRow w.heap.size 3 1 v (forF ⟨H, W⟩ l).length (cellsI (forF ⟨H, W⟩ l)) ∧ Below w.heap.size w w' := by
  obtain ⟨A1, c1, rfl⟩ := own_slice T.held
  obtain ⟨A2, c2, rfl⟩ := own_slice T.waits
  have hb0 : Below w.heap.size w (w.alloc (.cells #[.int .i64 l.tx, .int .i64 l.what, .int .i64 l.item] 67)) := (Below.refl _ _).alloc (Nat.le_refl _) _
  have hB0 := Blk.new w 67 [.int .i64 l.tx, .int .i64 l.what, .int .i64 l.item]
  have CO := hide (fun (y : HOp) w1 => rlodds_any y l w1)
  obtain ⟨l1, l2, l3⟩ := l
  unfold HOp.val at CO ⊢
  simp only at hb0 hB0
  have HBB := hide (fun w1 (hb : Below (w.alloc (.cells #[.int .i64 l1, .int .i64 l2, .int .i64 l3] 67)).heap.size (w.alloc (.cells #[.int .i64 l1, .int .i64 l2, .int .i64 l3] 67)) w1) => hB0.below hb hB0.lt)
  have hz0 : (w.alloc (.cells #[.int .i64 l1, .int .i64 l2, .int .i64 l3] 67)).heap.size = w.heap.size + 1 := by simp
  have HZ := Lib.hid hz0
  have HB0 := hide hb0
  obtain ⟨nh, hnh⟩ : ∃ nh, H.length = nh := ⟨_, rfl⟩
  obtain ⟨nw, hnw⟩ : ∃ nw, W.length = nw := ⟨_, rfl⟩
  have HNH := Lib.hid hnh
  have HNW := Lib.hid hnw
  have hgl := T.blk.lt
  have HT := hide (fun w' (hb : Below w.heap.size w w') => T.below hb)
  rw [hnh] at hh
  rw [hnw] at hw
  clear hnh hnw hz0 hB0 hb0 T
  go_enter Tryz.func33, Tryz.ntmps33
  go_wp2
  generalize w.alloc (.cells #[.int .i64 l1, .int .i64 l2, .int .i64 l3] 67) = w0 at *
  have hbr : Below w0.heap.size w0 w0 := Below.refl _ _
  go_loopw [5, 6, 7] (fun s5 s6 _ wr => ∃ (k n5 : Nat) (acc : List Int), k ≤ nh ∧ n5 ≤ k ∧ s6 = .int .i64 k ∧ wr.ownsRow w0.heap.size 3 1 s5 n5 (cellsI acc) ∧ Hid (acc = sortS ltI (forR (H.take k) ⟨l1, l2, l3⟩)) ∧ Below w0.heap.size w0 wr) (fun _ s6 _ _ => nh - (intOf s6).toNat)
  case atStart => exact ⟨0, 0, [], Nat.zero_le _, Nat.le_refl _, rfl, World.ownsRow_nil _ _ _ _, Lib.hid rfl, hbr⟩
  case round =>
    clear hbr
    obtain ⟨k, n5, acc, hk, hn5, rfl, ho5, HA, hbw⟩ := hrel
    obtain ⟨A5, c5, rfl⟩ := own_slice ho5
    have hz := HZ.out
    have hbw0 := (unhide HB0).trans (hbw.mono (by omega))
    have hTr := unhide HT wr hbw0
    have hblk := hTr.blk
    rw [HNH.out, HNW.out] at hblk
    have k0 := hblk.cellS (i := 1) (v := .slice A1 nh c1) rfl
    by_cases hlt : k < nh
    · have hrd := rd_own hTr.held
      rw [HNH.out] at hrd
      obtain ⟨b, off, y, he, hb, hy, e0, e1, e2⟩ := hrd.op (k := k) hlt
      have HS := Lib.hid (forR_take (l := ⟨l1, l2, l3⟩) hy)
      have CO2 := hide (unhide CO y wr.drew)
      obtain ⟨qq, hqq⟩ : ∃ qq : Bool, loddsB y ⟨l1, l2, l3⟩ = qq := ⟨_, rfl⟩
      rw [hqq] at CO2
      rw [hqq] at HS
      obtain ⟨y1, y2, y3⟩ := y
      simp only at e0 e1 e2 CO2 HS
      obtain ⟨m0, m1, m2⟩ := ocells' (unhide HBB wr hbw)
      have n0 : (0 : Int) ≤ (k : Int) := by omega
      have n1 : (k : Int) < (nh : Int) := by omega
      have HHB := hide (fun w9 (hb9 : Below wr.drew.heap.size wr.drew w9) => (Below.refl wr.heap.size wr).drew.trans hb9)
      have HE0 := hide (fun w9 (hb9 : Below wr.heap.size wr w9) => Eq.trans (hb9.cell (by exact hb)) e0)
      have HO5 := hide (fun w9 (hb9 : Below wr.heap.size wr w9) => own_below ho5 hb9 (Nat.le_refl _))
      have HBL := hide (fun w9 (hb9 : Below wr.heap.size wr w9) => hblk.below hb9 hblk.lt)
      have HBW := hide (fun w9 (hb9 : Below wr.heap.size wr w9) => hbw.trans (hb9.mono hbw.size))
      clear hqq hy hrd hTr hblk ho5 hbw hbw0
      subst he
      go_wp2
      go_still_tail 8, (by kernel_rfl)
      change wpList _ _ _ _ _ wr.drew
      go_wp2_with fail
      refine (unhide CO2).mono ?_
      rintro e w9 ⟨rfl, hb9⟩
      have hd9 := unhide HHB _ hb9
      have f0 := unhide HE0 _ hd9
      have ho9 := unhide HO5 _ hd9
      have hBl9 := unhide HBL _ hd9
      have hbw9 := unhide HBW _ hd9
      have j0 := hBl9.cellS (i := 1) (v := .slice (some ⟨b, off, none⟩) nh c1) rfl
      clear k0 e0 e1 e2 m0 m1 m2 hb9 CO2 hBl9
      cases qq
      · have HA2 : Hid (acc = sortS ltI (forR (H.take (k + 1)) ⟨l1, l2, l3⟩)) := Lib.hid (by rw [HS.out]; simpa using HA.out)
        go_wp2
        go_roundw
        case rel => exact ⟨k + 1, n5, acc, by omega, by omega, by go_num, ho9, HA2, hbw9⟩
        case measure => simp [intOf]; omega
      · have HA2 : Hid (insS ltI y1 acc = sortS ltI (forR (H.take (k + 1)) ⟨l1, l2, l3⟩)) := Lib.hid (by rw [HS.out, if_pos rfl, sortS_snoc, ← HA.out])
        have hal := (rd_own ho9).ilen
        have hil := insS_le y1 acc
        have CP := hide (rput_any A5 n5 c5 acc y1 w9 (rd_own ho9) (by omega))
        have hs9 := hbw9.size
        clear ho9
        go_wp2_with fail
        refine (unhide CP).mono ?_
        rintro e w11 ⟨v, rfl, ho11, hb11⟩
        have ho12 := own_mono ho11 hs9
        have hbw11 := hbw9.trans (hb11.mono hs9)
        clear ho11 hb11 CP f0 j0
        go_wp2
        go_roundw
        case rel => exact ⟨k + 1, _, _, by omega, by omega, by go_num, ho12, HA2, hbw11⟩
        case measure => simp [intOf]; omega
    · have HA1 : Hid (acc = sortS ltI (forR (H ++ W.take 0) ⟨l1, l2, l3⟩)) := Lib.hid (by
        have h1 := HA.out
        rw [List.take_of_length_le (l := H) (by rw [HNH.out]; omega)] at h1
        rw [List.take_zero, List.append_nil]; exact h1)
      have hn9 : n5 ≤ nh + 0 := by omega
      clear HA hTr hblk hbw0
      go_wp2
      obtain ⟨wo, rfl⟩ : ∃ wo : World, wo = wr := ⟨_, rfl⟩
      go_loopw [5, 8, 9] (fun s5 s8 _ wr => ∃ (k n5 : Nat) (acc : List Int), k ≤ nw ∧ n5 ≤ nh + k ∧ s8 = .int .i64 k ∧ wr.ownsRow w0.heap.size 3 1 s5 n5 (cellsI acc) ∧ Hid (acc = sortS ltI (forR (H ++ W.take k) ⟨l1, l2, l3⟩)) ∧ Hid (∀ x ∈ W.take k, notTx l1 x = true) ∧ Below w0.heap.size w0 wr) (fun _ s8 _ _ => nw - (intOf s8).toNat)
      case atStart => exact ⟨0, n5, acc, Nat.zero_le _, hn9, rfl, ho5, HA1, Lib.hid (fun x hx => by simp at hx), hbw⟩
      case round =>
        clear ho5 HA1 hbw hn9 k0 hn5 hlt hk
        obtain ⟨k, n5, acc, hk, hn5, rfl, ho5, HA, HN, hbw⟩ := hrel
        obtain ⟨A5, c5, rfl⟩ := own_slice ho5
        have hbw0 := (unhide HB0).trans (hbw.mono (by omega))
        have hTr := unhide HT wr hbw0
        have hblk := hTr.blk
        rw [HNH.out, HNW.out] at hblk
        have k1 := hblk.cellS (i := 2) (v := .slice A2 nw c2) rfl
        obtain ⟨m0, m1, m2⟩ := ocells' (unhide HBB wr hbw)
        have HEND := hide (fun (h2 : W.length ≤ k ∨ ∃ x, W[k]? = some x ∧ notTx l1 x = false) => (show forF ⟨H, W⟩ ⟨l1, l2, l3⟩ = acc from by
          have h1 := takeWhile_take HN.out h2
          unfold forF
          rw [show (⟨l1, l2, l3⟩ : HOp).tx = l1 from rfl, show (⟨H, W⟩ : LTab).W = W from rfl, h1]
          exact HA.out.symm))
        have HOW := hide (fun q => (show (wr.drewN q).ownsRow w.heap.size 3 1 (.slice A5 n5 c5) n5 (cellsI acc) ∧ Below w.heap.size w (wr.drewN q) from ⟨own_mono ho5 (by omega), below_drewN hbw0 q⟩))
        by_cases hlt : k < nw
        · have hrd := rd_own hTr.waits
          rw [HNW.out] at hrd
          obtain ⟨b, off, y, he, hb, hy, e0, e1, e2⟩ := hrd.op (k := k) hlt
          have n0 : (0 : Int) ≤ (k : Int) := by omega
          have n1 : (k : Int) < (nw : Int) := by omega
          have n2 : decide ((k : Int) < (nw : Int)) = true := decide_eq_true n1
          by_cases hyt : y.tx = l1
          · have HF := Lib.hid (unhide HEND (.inr ⟨y, hy, by unfold notTx; rw [hyt]; simp⟩))
            obtain ⟨y1, y2, y3⟩ := y
            simp only at e0 e1 e2 hyt
            have t1 : (y1 == l1) = true := by simp [hyt]
            have t2 : (y1 != l1) = false := by simp [hyt]
            have t3 : (!(y1 == l1)) = false := by simp [hyt]
            clear hyt hy hrd hTr hblk hbw hbw0 ho5 HEND
            subst he
            go_wp2
            go_quiet (fail)
            go_wp2
            go_ret
            obtain ⟨h1, h2⟩ := unhide HOW nq
            refine ⟨_, rfl, ?_, h2⟩
            rw [HF.out, (rd_own h1).ilen]; exact h1
          · have HN2 : Hid (∀ x ∈ W.take (k + 1), notTx l1 x = true) := Lib.hid (all_take hy (by unfold notTx; simp [hyt]) HN.out)
            have HS := Lib.hid (forR_take (l := ⟨l1, l2, l3⟩) hy)
            have CO2 := hide (fun w9 => unhide CO y w9)
            obtain ⟨qq, hqq⟩ : ∃ qq : Bool, loddsB y ⟨l1, l2, l3⟩ = qq := ⟨_, rfl⟩
            rw [hqq] at CO2
            rw [hqq] at HS
            have hnt : ¬ y.tx = l1 := hyt
            obtain ⟨y1, y2, y3⟩ := y
            simp only at e0 e1 e2 CO2 HS hnt
            have t1 : (y1 == l1) = false := by simp [hnt]
            have t2 : (y1 != l1) = true := by simp [hnt]
            have t3 : (!(y1 == l1)) = true := by simp [hnt]
            have HHB := hide (fun q w9 (hb9 : Below (wr.drewN q).drew.heap.size (wr.drewN q).drew w9) => (below_drewN (Below.refl wr.heap.size wr) q).drew.trans hb9)
            have HE0 := hide (fun w9 (hb9 : Below wr.heap.size wr w9) => Eq.trans (hb9.cell (by exact hb)) e0)
            have HO5 := hide (fun w9 (hb9 : Below wr.heap.size wr w9) => own_below ho5 hb9 (Nat.le_refl _))
            have HBL := hide (fun w9 (hb9 : Below wr.heap.size wr w9) => hblk.below hb9 hblk.lt)
            have HBW := hide (fun w9 (hb9 : Below wr.heap.size wr w9) => hbw.trans (hb9.mono hbw.size))
            clear hqq hyt hnt hy hrd hTr hblk hbw hbw0 ho5 HEND HOW
            subst he
            go_wp2
            go_quiet (fail)
            go_wp2
            have HHQ := hide (unhide HHB nq)
            have k1q : (wr.drewN nq).cell? ⟨g, 2, none⟩ = some (.slice (some ⟨b, off, none⟩) nw c2) := k1
            have e0q := (show (wr.drewN nq).cell? _ = _ from e0)
            have e1q := (show (wr.drewN nq).cell? _ = _ from e1)
            have e2q := (show (wr.drewN nq).cell? _ = _ from e2)
            have m0q := (show (wr.drewN nq).cell? _ = _ from m0)
            have m1q := (show (wr.drewN nq).cell? _ = _ from m1)
            have m2q := (show (wr.drewN nq).cell? _ = _ from m2)
            clear k1 e0 e1 e2 m0 m1 m2 HHB
            generalize wr.drewN nq = wq at *
            go_still_tail 8, (by kernel_rfl)
            change wpList _ _ _ _ _ wq.drew
            go_wp2_with fail
            refine (unhide CO2 _).mono ?_
            rintro e w9 ⟨rfl, hb9⟩
            have hd9 := unhide HHQ _ hb9
            have f0 := unhide HE0 _ hd9
            have ho9 := unhide HO5 _ hd9
            have hBl9 := unhide HBL _ hd9
            have hbw9 := unhide HBW _ hd9
            have j1 := hBl9.cellS (i := 2) (v := .slice (some ⟨b, off, none⟩) nw c2) rfl
            clear k1q e0q e1q e2q m0q m1q m2q hb9 CO2 hBl9 HHQ
            cases qq
            · have HA2 : Hid (acc = sortS ltI (forR (H ++ W.take (k + 1)) ⟨l1, l2, l3⟩)) := Lib.hid (by rw [forR_app, HS.out, ← List.append_assoc, ← forR_app]; simpa using HA.out)
              go_wp2
              go_roundw
              case rel => exact ⟨k + 1, n5, acc, by omega, by omega, by go_num, ho9, HA2, HN2, hbw9⟩
              case measure => simp [intOf]; omega
            · have HA2 : Hid (insS ltI y1 acc = sortS ltI (forR (H ++ W.take (k + 1)) ⟨l1, l2, l3⟩)) := Lib.hid (by rw [forR_app, HS.out, if_pos rfl, ← List.append_assoc, sortS_snoc, ← forR_app, ← HA.out])
              have hal := (rd_own ho9).ilen
              have hil := insS_le y1 acc
              have CP := hide (rput_any A5 n5 c5 acc y1 w9 (rd_own ho9) (by omega))
              have hs9 := hbw9.size
              clear ho9
              go_wp2_with fail
              refine (unhide CP).mono ?_
              rintro e w11 ⟨v, rfl, ho11, hb11⟩
              have ho12 := own_mono ho11 hs9
              have hbw11 := hbw9.trans (hb11.mono hs9)
              clear ho11 hb11 CP f0 j1
              go_wp2
              go_roundw
              case rel => exact ⟨k + 1, _, _, by omega, by omega, by go_num, ho12, HA2, HN2, hbw11⟩
              case measure => simp [intOf]; omega
        · have HF := Lib.hid (unhide HEND (.inl (by rw [HNW.out]; omega)))
          have n2 : decide ((k : Int) < (nw : Int)) = false := decide_eq_false (by omega)
          clear hTr hblk hbw hbw0 ho5 HEND
          go_wp2
          go_quiet (fail)
          go_wp2
          go_ret
          obtain ⟨h1, h2⟩ := unhide HOW nq
          refine ⟨_, rfl, ?_, h2⟩
          rw [HF.out, (rd_own h1).ilen]; exact h1
end Go.Proofs.YtbccnafdfeempaaGreatDoor


namespace Go.Proofs.YtbccnafdfeempaaGreatDoor
open Go.RowKit
variable {p0 : Value} {ps : List Value}

/-- The table in the midst of Free: all three rows are new. -/
structure FreeRn (p0 : Value) (ps : List Value) (w wr : World) (lo g : Nat) (v1 v2 vO vR : Value) (sH sL sO R : List HOp) : Prop where
  tab : TabRn p0 ps wr lo g v1 v2 sH sL
  out : wr.ownsRow w.heap.size 67 3 vO sO.length (cellsH sO)
  rest : wr.ownsRow w.heap.size 67 3 vR R.length (cellsH R)
  new1 : ∀ k, v1.ownBlock = some k → w.heap.size ≤ k
  new2 : ∀ k, v2.ownBlock = some k → w.heap.size ≤ k
  ne1 : ∀ k, v1.ownBlock = some k → vO.ownBlock ≠ some k
  ne2 : ∀ k, v2.ownBlock = some k → vO.ownBlock ≠ some k
  nr1 : ∀ k, vR.ownBlock = some k → v1.ownBlock ≠ some k
  nr2 : ∀ k, vR.ownBlock = some k → v2.ownBlock ≠ some k
  nrO : ∀ k, vR.ownBlock = some k → vO.ownBlock ≠ some k
  chg : Chg (fun k => k = g) w wr
section
variable {w wr wx : World} {lo g : Nat} {v1 v2 vO vR : Value} {sH sL sO R : List HOp}
theorem FreeRn.below (h : FreeRn p0 ps w wr lo g v1 v2 vO vR sH sL sO R) (hb : Below wr.heap.size wr wx) : FreeRn p0 ps w wx lo g v1 v2 vO vR sH sL sO R :=
  ⟨h.tab.below hb, own_below h.out hb (Nat.le_refl _), own_below h.rest hb (Nat.le_refl _), h.new1, h.new2, h.ne1, h.ne2, h.nr1, h.nr2, h.nrO, h.chg.then_below hb⟩
theorem FreeRn.hold (h : FreeRn p0 ps w wr lo g v1 v2 vO vR sH sL sO R) {v1' : Value} {sH' : List HOp} (T : TabRn p0 ps wx lo g v1' v2 sH' sL) (hc : Chg (fun k => k = g ∨ v1.ownBlock = some k) wr wx) (hn : v1'.ownBlock = v1.ownBlock ∨ ∃ k, v1'.ownBlock = some k ∧ wr.heap.size ≤ k) : FreeRn p0 ps w wx lo g v1' v2 vO vR sH' sL sO R := by
  have hsz := h.chg.size
  have ho : ∀ k, vO.ownBlock = some k → ¬ (k = g ∨ v1.ownBlock = some k) := fun k hk e => by
    rcases e with rfl | e
    · exact blk_no_row h.tab.blk h.out (by decide) hk
    · exact h.ne1 k e hk
  have hr : ∀ k, vR.ownBlock = some k → ¬ (k = g ∨ v1.ownBlock = some k) := fun k hk e => by
    rcases e with rfl | e
    · exact blk_no_row h.tab.blk h.rest (by decide) hk
    · exact h.nr1 k hk e
  refine ⟨T, own_chg h.out hc ho, own_chg h.rest hc hr, ?_, h.new2, ne_comm' (ne_grown h.out (ne_comm' h.ne1) hn), h.ne2, ne_grown h.rest h.nr1 hn, h.nr2, h.nrO, h.chg.next hc (fun k hk => ?_)⟩
  · intro k hk
    rcases hn with e | ⟨j, e, hj⟩
    · exact h.new1 k (e.symm.trans hk)
    · rw [e] at hk; injection hk with hk; omega
  · rcases hk with rfl | e
    · exact .inl rfl
    · exact .inr (h.new1 k e)
theorem FreeRn.outs (h : FreeRn p0 ps w wr lo g v1 v2 vO vR sH sL sO R) {l : HOp} {vO' : Value} (ho : wx.ownsRow w.heap.size 67 3 vO' (sO.length + 1) (cellsH (sO ++ [l]))) (hg : wr.grownBy wx vO.ownBlock) (hn : vO'.ownBlock = vO.ownBlock ∨ vO'.ownBlock = some wr.heap.size) : FreeRn p0 ps w wx lo g v1 v2 vO' vR sH sL (sO ++ [l]) R := by
  have hn' : vO'.ownBlock = vO.ownBlock ∨ ∃ k, vO'.ownBlock = some k ∧ wr.heap.size ≤ k := hn.imp id fun e => ⟨_, e, Nat.le_refl _⟩
  exact ⟨⟨blk_kept' h.tab.blk h.out (by decide) hg, own_kept' h.tab.held hg h.ne1, own_kept' h.tab.waits hg h.ne2, h.tab.ne, h.tab.lo⟩, by rw [List.length_append]; exact ho, own_kept' h.rest hg h.nrO, h.new1, h.new2, ne_grown h.tab.held h.ne1 hn', ne_grown h.tab.waits h.ne2 hn', h.nr1, h.nr2, ne_grown h.rest h.nrO hn', h.chg.grown hg (fun k hk => .inr (h.out.lt k hk).1)⟩
theorem FreeRn.lefts (h : FreeRn p0 ps w wr lo g v1 v2 vO vR sH sL sO R) {l : HOp} {v2' : Value} (ho : wx.ownsRow lo 67 3 v2' (sL.length + 1) (cellsH (sL ++ [l]))) (hg : wr.grownBy wx v2.ownBlock) (hn : v2'.ownBlock = v2.ownBlock ∨ v2'.ownBlock = some wr.heap.size) : FreeRn p0 ps w (wx.setCell ⟨g, 2, none⟩ v2') lo g v1 v2' vO vR sH (sL ++ [l]) sO R := by
  have hsz := h.chg.size
  have hn' : v2'.ownBlock = v2.ownBlock ∨ ∃ k, v2'.ownBlock = some k ∧ wr.heap.size ≤ k := hn.imp id fun e => ⟨_, e, Nat.le_refl _⟩
  have hB := blk_kept' h.tab.blk h.tab.waits (by decide) hg
  refine ⟨⟨hB.put 2 _, own_set_blk (own_kept' h.tab.held hg h.tab.ne) hB (by decide) 2 _, ?_, ne_grown h.tab.held h.tab.ne hn', h.tab.lo⟩, own_set_blk (own_kept' h.out hg (ne_comm' h.ne2)) hB (by decide) 2 _, own_set_blk (own_kept' h.rest hg h.nr2) hB (by decide) 2 _, h.new1, ?_, h.ne1, ne_comm' (ne_grown h.out (ne_comm' h.ne2) hn'), h.nr1, ne_grown h.rest h.nr2 hn', h.nrO, (h.chg.grown hg (fun k hk => .inr (h.new2 k hk))).set (p := ⟨g, 2, none⟩) (.inl rfl) _⟩
  · rw [List.length_append]; exact own_set_blk ho hB (by decide) 2 _
  · intro k hk
    rcases hn' with e | ⟨j, e, hj⟩
    · exact h.new2 k (e.symm.trans hk)
    · rw [e] at hk; injection hk with hk; omega
end
/-- What Free leaves. -/
def FreePostRn (p0 : Value) (ps : List Value) (w : World) (lo g : Nat) (v1 v2 : Value) (H W : List HOp) (tx : Int) (e : Ending) (w' : World) : Prop :=
  ∃ vo v1' v2', e = .returned vo ∧ w'.ownsRow w.heap.size 67 3 vo (freeS ⟨H, W⟩ tx).out.length (cellsH (freeS ⟨H, W⟩ tx).out) ∧ TabRn p0 ps w' lo g v1' v2' (freeT ⟨H, W⟩ tx).H (freeT ⟨H, W⟩ tx).W ∧ KeptQ w w' g v1 v2 v1' v2' ∧ (∀ k, vo.ownBlock = some k → v1'.ownBlock ≠ some k ∧ v2'.ownBlock ≠ some k)
set_option maxRecDepth 100000 in
set_option maxHeartbeats 4000000 in
theorem sfree_any (lo g : Nat) (v1 v2 : Value) (H W : List HOp) (tx : Int) (w : World) (T : TabRn p0 ps w lo g v1 v2 H W) (hh : H.length ≤ 100000) (hw : W.length ≤ 100000) (hlo : lo ≤ w.heap.size) :
    Calls Tryz.prog 28 #[.pointer (some ⟨g, 1, none⟩), .int .i64 tx] w (FreePostRn p0 ps w lo g v1 v2 H W tx) := by
  obtain ⟨A1, c1, rfl⟩ := own_slice T.held
  obtain ⟨A2, c2, rfl⟩ := own_slice T.waits
  have hgl := T.blk.lt
  have HLO := Lib.hid hlo
  have HTL := Lib.hid T.lo
  obtain ⟨nh, hnh⟩ : ∃ nh, H.length = nh := ⟨_, rfl⟩
  obtain ⟨nw, hnw⟩ : ∃ nw, W.length = nw := ⟨_, rfl⟩
  have hrH := rd_own T.held
  have hTW := T.waits
  have hbk := T.blk
  rw [hnh] at hrH hh
  rw [hnw] at hTW hw
  rw [hnh, hnw] at hbk
  have k0 := hbk.cellS (i := 1) (v := .slice A1 nh c1) rfl
  have CWH := hide (rwithout_any A1 nh c1 H tx w hrH (by omega))
  obtain ⟨F1, hF1⟩ : ∃ F1, H.filter (notTx tx) = F1 := ⟨_, rfl⟩
  obtain ⟨F2, hF2⟩ : ∃ F2, W.filter (notTx tx) = F2 := ⟨_, rfl⟩
  have hE : Hid (freeS ⟨H, W⟩ tx = (F2.drop 0).foldl freeStep ⟨F1, [], []⟩) := Lib.hid (by rw [← hF1, ← hF2]; rfl)
  have hl1 : F1.length ≤ nh := by rw [← hF1, ← hnh]; exact List.length_filter_le _ _
  have hl2 : F2.length ≤ nw := by rw [← hF2, ← hnw]; exact List.length_filter_le _ _
  obtain ⟨m2, hm2⟩ : ∃ m2, F2.length = m2 := ⟨_, rfl⟩
  rw [hm2] at hl2
  rw [hF1] at CWH
  have HWR : Hid (W.filter (notTx tx) = F2 ∧ F2.length = m2) := Lib.hid ⟨hF2, hm2⟩
  clear hrH hnh hnw hF1 hF2 hm2 T
  go_enter Tryz.func28, Tryz.ntmps28
  go_wp2_with fail
  refine (unhide CWH).mono ?_
  rintro e w1 ⟨vH, rfl, hoH, hb1⟩
  obtain ⟨A3, c3, rfl⟩ := own_slice hoH
  have hbk1 := hbk.below hb1 hbk.lt
  have hoW1 := own_below hTW hb1 (Nat.le_refl _)
  have j0 := hbk1.cellS (i := 1) (v := .slice A1 nh c1) rfl
  have jf := hbk1.frozen 1
  have hbk2 := hbk1.put 1 (.slice A3 F1.length c3)
  have hoH2 := own_set_blk hoH hbk1 (by decide) 1 (.slice A3 F1.length c3)
  have hoW2 := own_set_blk hoW1 hbk1 (by decide) 1 (.slice A3 F1.length c3)
  have i1 := hbk2.cellS (i := 2) (v := .slice A2 nw c2) rfl
  have hc2 : Chg (fun k => k = g) w (w1.setCell ⟨g, 1, none⟩ (.slice A3 F1.length c3)) := (Chg.of_below (S := fun k => k = g) hb1).set (p := ⟨g, 1, none⟩) (.inl rfl) _
  have hlt1 : ∀ k, (Value.slice A3 F1.length c3).ownBlock = some k → w.heap.size ≤ k ∧ k < (w1.setCell ⟨g, 1, none⟩ (.slice A3 F1.length c3)).heap.size := fun k hk => by
    have h1 := hoH.lt k hk
    exact ⟨h1.1, by simpa [World.setCell] using h1.2⟩
  have HLT1 := Lib.hid hlt1
  clear hlt1 hTW hbk hb1 hoH hoW1 hbk1 k0 CWH
  go_wp2_with fail
  generalize w1.setCell ⟨g, 1, none⟩ (.slice A3 F1.length c3) = w2 at *
  refine (rwithout_any A2 nw c2 W tx w2 (rd_own hoW2) (by omega)).mono ?_
  rintro e w3 ⟨vR, rfl, hoR, hb3⟩
  rw [HWR.out.1] at hoR
  have hR2 := HWR.out.2
  obtain ⟨AR, cR, rfl⟩ := own_slice hoR
  rw [hR2]
  rw [hR2] at hoR
  have hbk3 := hbk2.below hb3 hbk2.lt
  have hoH3 := own_below hoH2 hb3 (Nat.le_refl _)
  have q1 := hbk3.cellS (i := 2) (v := .slice A2 nw c2) rfl
  have qf := hbk3.frozen 2
  have hz2 := hc2.size
  have HF0 : FreeRn p0 ps w (w3.setCell ⟨g, 2, none⟩ (.slice none 0 0)) lo g (.slice A3 F1.length c3) (.slice none 0 0) (.slice none 0 0) (.slice AR m2 cR) F1 [] [] F2 := by
    refine ⟨⟨hbk3.put 2 _, own_set_blk (own_mono hoH3 HLO.out) hbk3 (by decide) 2 _, World.ownsRow_nil _ _ _ _, fun k _ hk => (by cases hk), HTL.out⟩, World.ownsRow_nil _ _ _ _, ?_, fun k hk => (HLT1.out k hk).1, fun k hk => (by cases hk), fun k _ hk => (by cases hk), fun k hk => (by cases hk), fun k hk h => ?_, fun k _ hk => (by cases hk), fun k _ hk => (by cases hk), (hc2.then_below hb3).set (p := ⟨g, 2, none⟩) (.inl rfl) _⟩
    · rw [hR2]
      exact own_set_blk (own_mono hoR hz2) hbk3 (by decide) 2 _
    · have h1 := (HLT1.out k h).2
      have h2 := (hoR.lt k hk).1
      omega
  have HNL : Hid (F1.length ≤ 100000 + 0 ∧ ([] : List HOp).length ≤ 0 ∧ ([] : List HOp).length ≤ 0) := Lib.hid ⟨by omega, by simp, by simp⟩
  have hmm : m2 ≤ 100000 := by omega
  have HR2 := Lib.hid hR2
  clear hoR hbk3 hoH3 hbk2 hoH2 hoW2 hc2 HLT1 hb3 i1 hR2 HWR hl1 hl2
  go_wp2
  go_loopw [6, 7, 8, 9] (fun s6 s7 _ _ wr => ∃ (k : Nat) (sH sL sO : List HOp) (v1' v2' : Value), k ≤ m2 ∧ s7 = .int .i64 k ∧ FreeRn p0 ps w wr lo g v1' v2' s6 (.slice AR m2 cR) sH sL sO F2 ∧ Hid (freeS ⟨H, W⟩ tx = (F2.drop k).foldl freeStep ⟨sH, sL, sO⟩) ∧ Hid (sH.length ≤ 100000 + k ∧ sL.length ≤ k ∧ sO.length ≤ k)) (fun _ s7 _ _ _ => m2 - (intOf s7).toNat)
  case atStart => exact ⟨0, F1, [], [], _, _, Nat.zero_le _, rfl, HF0, hE, HNL⟩
  case round =>
    clear HF0 hE HNL q1 qf
    obtain ⟨k, sH, sL, sO, v1', v2', hk, rfl, hF, HE, HLN⟩ := hrel
    obtain ⟨A1', c1', rfl⟩ := own_slice hF.tab.held
    obtain ⟨AL, cL, rfl⟩ := own_slice hF.tab.waits
    obtain ⟨AO, cO, rfl⟩ := own_slice hF.out
    by_cases hlt : k < m2
    · have hrest := hF.rest
      rw [HR2.out] at hrest
      obtain ⟨b, off, l, he, hb, hl, e0, e1, e2⟩ := (rd_own hrest).op (k := k) hlt
      have HS : Hid (freeS ⟨H, W⟩ tx = (F2.drop (k + 1)).foldl freeStep (freeStep ⟨sH, sL, sO⟩ l)) := Lib.hid (by rw [HE.out, drop_at hl]; rfl)
      cases he
      obtain ⟨l1, l2, l3⟩ := l
      simp only at e0 e1 e2
      have n0 : (0 : Int) ≤ (k : Int) := by omega
      have n1 : (k : Int) < (m2 : Int) := by omega
      have HE3 := hide (fun (w' : World) (h : w'.ownsRow w.heap.size 67 3 (.slice (some ⟨b, off, none⟩) m2 cR) F2.length (cellsH F2)) => show w'.cell? ⟨b, off + k * 3, none⟩ = some (.int .i64 l1) ∧ w'.cell? ⟨b, off + k * 3 + 1, none⟩ = some (.int .i64 l2) ∧ w'.cell? ⟨b, off + k * 3 + 2, none⟩ = some (.int .i64 l3) from by
        rw [HR2.out] at h
        obtain ⟨b', off', l', he', hb', hl', x0, x1, x2⟩ := (rd_own h).op (k := k) hlt
        cases he'
        obtain rfl : l' = ⟨l1, l2, l3⟩ := Option.some.inj (hl'.symm.trans hl)
        exact ⟨x0, x1, x2⟩)
      obtain ⟨nH, hnH⟩ : ∃ nH, sH.length = nH := ⟨_, rfl⟩
      obtain ⟨nL, hnL⟩ : ∃ nL, sL.length = nL := ⟨_, rfl⟩
      obtain ⟨nO, hnO⟩ : ∃ nO, sO.length = nO := ⟨_, rfl⟩
      have hlens := HLN.out
      have hsz := hF.chg.size
      rw [hnH, hnL, hnO] at hlens hF
      rw [hnO]
      obtain ⟨z1, z2, z3⟩ := hlens
      have HNH2 := Lib.hid hnH
      have HNL2 := Lib.hid hnL
      have HNO2 := Lib.hid hnO
      have k0 := hF.tab.blk.cellS (i := 1) (v := .slice A1' nH c1') rfl
      have hoH := hF.tab.held
      have hoL := hF.tab.waits
      rw [hnH] at hoH
      rw [hnL] at hoL
      have hrH := rd_own hoH
      have hrL := rd_own hoL
      clear hoH hoL
      have CH := hide (clear0_any A1' nH c1' sH ⟨l1, l2, l3⟩ wr.drew hrH (by omega))
      have CL := hide (fun w' (hb : Below wr.heap.size wr w') => clear0_any AL nL cL sL ⟨l1, l2, l3⟩ w' ((hrL.below hb).more hb.size) (by omega))
      unfold HOp.val at CH CL
      obtain ⟨p1, hp1⟩ : ∃ p1 : Bool, freeB sH ⟨l1, l2, l3⟩ = p1 := ⟨_, rfl⟩
      obtain ⟨p2, hp2⟩ : ∃ p2 : Bool, freeB sL ⟨l1, l2, l3⟩ = p2 := ⟨_, rfl⟩
      rw [hp1] at CH
      rw [hp2] at CL
      have HP1 := Lib.hid hp1
      have HP2 := Lib.hid hp2
      have HFB := hide (fun w' (hb : Below wr.heap.size wr w') => hF.below hb)
      have hlow : lo ≤ wr.heap.size := Nat.le_trans HLO.out hsz
      clear hrH hrL hp1 hp2 hF hrest hl hnH hnL hnO HE HLN hb
      go_wp2
      go_still_tail 8, (by kernel_rfl)
      change wpList _ _ _ _ _ wr.drew
      go_wp2_with fail
      refine (unhide CH).mono ?_
      rintro e w5 ⟨rfl, hb5⟩
      have hd5 : Below wr.heap.size wr w5 := ((Below.refl wr.heap.size wr).drew).trans hb5
      have hF5 := unhide HFB w5 hd5
      have k1 := hF5.tab.blk.cellS (i := 2) (v := .slice AL nL cL) rfl
      obtain ⟨x0, x1, x2⟩ := unhide HE3 w5 hF5.rest
      have CL6 := hide (unhide CL w5.drew hd5.drew)
      clear hb5 k0 e0 e1 e2 CH CL hF5
      go_wp2
      go_still_tail 8, (by kernel_rfl)
      change wpList _ _ _ _ _ w5.drew
      go_wp2_with fail
      refine (unhide CL6).mono ?_
      rintro e w6 ⟨rfl, hb6⟩
      have hd6 : Below wr.heap.size wr w6 := (hd5.drew).trans (hb6.mono (show wr.heap.size ≤ w5.drew.heap.size from hd5.size))
      have hF6 := unhide HFB w6 hd6
      obtain ⟨y0, y1, y2⟩ := unhide HE3 w6 hF6.rest
      have hlo6 : lo ≤ w6.heap.size := Nat.le_trans hlow hd6.size
      clear k1 x0 x1 x2 CL6 hb6 hd5 hd6 HFB
      cases p1
      · have HST := Lib.hid (freeStep_no1 (sL := sL) (sO := sO) HP1.out)
        have h1c : ∀ u ∈ cellsH [⟨l1, l2, l3⟩], u.oneCell' = true := oneH _
        have hblk6 := hF6.tab.blk
        have hwait6 := hF6.tab.waits
        rw [HNL2.out] at hwait6
        have hg6 := hblk6.lt
        have k1 := hblk6.cellS (i := 2) (v := .slice AL nL cL) rfl
        have kf := hblk6.frozen 2
        have k1a := (World.cell?_alloc_lt w6 (.cells #[.int .i64 l1, .int .i64 l2, .int .i64 l3] 67) ⟨g, 2, none⟩ hg6).trans k1
        have hs6 := hF6.chg.size
        have HF6 := hide (hF6.below (((Below.refl w6.heap.size w6).drew).alloc (Nat.le_refl _) (.cells (cellsH [⟨l1, l2, l3⟩]).toArray 67)))
        clear hF6
        go_wp2_with fail
        go_region_law (first | ((refine step_app2 rfl (.tmp 73) (.tmp 78) _ rfl lo slt_lock (n := nL) (xs := cellsH sL) (m := 1) (news := cellsH [⟨l1, l2, l3⟩]) rfl (own_alloc hwait6.drew _) rfl (rd_new' _ _ (cellsH [⟨l1, l2, l3⟩]) (by simp) rfl) h1c (by omega) (by simp; omega) ?_; intro v7 w7 hown7 hg7 hat7; obtain ⟨A7, c7, rfl⟩ := own_slice hown7; have hBk7 := (hblk6.drew.alloc (.cells (cellsH [⟨l1, l2, l3⟩]).toArray 67)).other (own_alloc hwait6.drew _) (by decide) hg7; have p0 := hBk7.cellS (i := 2) (v := .slice AL nL cL) rfl; have p1 := hBk7.frozen 2)))
        all_goals
          have hF8 := (unhide HF6).lefts (l := ⟨l1, l2, l3⟩) (v2' := .slice A7 (nL + 1) c7) (by rw [HNL2.out, cellsH_append]; simpa using hown7) hg7 hat7
          have HE8 : Hid (freeS ⟨H, W⟩ tx = (F2.drop (k + 1)).foldl freeStep ⟨sH, sL ++ [⟨l1, l2, l3⟩], sO⟩) := Lib.hid (by rw [HS.out, HST.out])
          have HN8 : Hid (sH.length ≤ 100000 + (k + 1) ∧ (sL ++ [(⟨l1, l2, l3⟩ : HOp)]).length ≤ k + 1 ∧ sO.length ≤ k + 1) := Lib.hid (by
            have h2 := HNH2.out
            have h3 := HNL2.out
            have h4 := HNO2.out
            rw [List.length_append]; simp; omega)
          go_wp2
          go_roundw
          case rel => exact ⟨k + 1, _, _, _, _, _, by omega, by go_num, hF8, HE8, HN8⟩
          case measure => simp [intOf]; omega
      · cases p2
        · have HST := Lib.hid (freeStep_no2 (sO := sO) HP1.out HP2.out)
          have h1c : ∀ u ∈ cellsH [⟨l1, l2, l3⟩], u.oneCell' = true := oneH _
          have hblk6 := hF6.tab.blk
          have hwait6 := hF6.tab.waits
          rw [HNL2.out] at hwait6
          have hg6 := hblk6.lt
          have k1 := hblk6.cellS (i := 2) (v := .slice AL nL cL) rfl
          have kf := hblk6.frozen 2
          have k1a := (World.cell?_alloc_lt w6 (.cells #[.int .i64 l1, .int .i64 l2, .int .i64 l3] 67) ⟨g, 2, none⟩ hg6).trans k1
          have hs6 := hF6.chg.size
          have HF6 := hide (hF6.below (((Below.refl w6.heap.size w6).drew).alloc (Nat.le_refl _) (.cells (cellsH [⟨l1, l2, l3⟩]).toArray 67)))
          clear hF6
          go_wp2_with fail
          go_region_law (first | ((refine step_app2 rfl (.tmp 73) (.tmp 78) _ rfl lo slt_lock (n := nL) (xs := cellsH sL) (m := 1) (news := cellsH [⟨l1, l2, l3⟩]) rfl (own_alloc hwait6.drew _) rfl (rd_new' _ _ (cellsH [⟨l1, l2, l3⟩]) (by simp) rfl) h1c (by omega) (by simp; omega) ?_; intro v7 w7 hown7 hg7 hat7; obtain ⟨A7, c7, rfl⟩ := own_slice hown7; have hBk7 := (hblk6.drew.alloc (.cells (cellsH [⟨l1, l2, l3⟩]).toArray 67)).other (own_alloc hwait6.drew _) (by decide) hg7; have p0 := hBk7.cellS (i := 2) (v := .slice AL nL cL) rfl; have p1 := hBk7.frozen 2)))
          all_goals
            have hF8 := (unhide HF6).lefts (l := ⟨l1, l2, l3⟩) (v2' := .slice A7 (nL + 1) c7) (by rw [HNL2.out, cellsH_append]; simpa using hown7) hg7 hat7
            have HE8 : Hid (freeS ⟨H, W⟩ tx = (F2.drop (k + 1)).foldl freeStep ⟨sH, sL ++ [⟨l1, l2, l3⟩], sO⟩) := Lib.hid (by rw [HS.out, HST.out])
            have HN8 : Hid (sH.length ≤ 100000 + (k + 1) ∧ (sL ++ [(⟨l1, l2, l3⟩ : HOp)]).length ≤ k + 1 ∧ sO.length ≤ k + 1) := Lib.hid (by
              have h2 := HNH2.out
              have h3 := HNL2.out
              have h4 := HNO2.out
              rw [List.length_append]; simp; omega)
            go_wp2
            go_roundw
            case rel => exact ⟨k + 1, _, _, _, _, _, by omega, by go_num, hF8, HE8, HN8⟩
            case measure => simp [intOf]; omega
        · have HST := Lib.hid (freeStep_yes (sO := sO) HP1.out HP2.out)
          have CHo := hide (shold_any lo g _ _ sH sL ⟨l1, l2, l3⟩ w6 hF6.tab (by rw [HNH2.out]; omega) hlo6)
          unfold HOp.val at CHo
          have HF6 := hide hF6
          clear hF6
          go_wp2_with fail
          refine (unhide CHo).mono ?_
          rintro e w7 ⟨v, v1'', rfl, hT7, hc7, hn7⟩
          have hF7 := (unhide HF6).hold hT7 hc7 hn7
          obtain ⟨x0, x1, x2⟩ := unhide HE3 w7 hF7.rest
          have hO7 := hF7.out
          rw [HNO2.out] at hO7
          have hz7 := hF7.chg.size
          have HF7 := hide (hF7.below ((Below.refl w7.heap.size w7).alloc (Nat.le_refl _) (.cells (cellsH [⟨l1, l2, l3⟩]).toArray 67)))
          clear y0 y1 y2 CHo hT7 hc7 hn7 hF7 HF6
          go_wp2_with (at_builtin; (refine wpList_app rfl (.tmp 62) (.tmp 67) _ rfl w.heap.size slt_lock (n := nO) (xs := cellsH sO) (m := 1) (news := cellsH [⟨l1, l2, l3⟩]) rfl (own_alloc hO7 _) rfl (rd_new' _ _ (cellsH [⟨l1, l2, l3⟩]) (by simp) rfl) (oneH _) (by omega) (by simp; omega) ?_); intro v8 w8 hown8 hg8 hb8 hat8 hne8; obtain ⟨A8, c8, rfl⟩ := own_slice hown8)
          have hF8 := (unhide HF7).outs (l := ⟨l1, l2, l3⟩) (vO' := .slice A8 (nO + 1) c8) (by rw [HNO2.out, cellsH_append]; exact hown8) hg8 hat8
          have HE8 : Hid (freeS ⟨H, W⟩ tx = (F2.drop (k + 1)).foldl freeStep ⟨holdL sH ⟨l1, l2, l3⟩, sL, sO ++ [⟨l1, l2, l3⟩]⟩) := Lib.hid (by rw [HS.out, HST.out])
          have HN8 : Hid ((holdL sH ⟨l1, l2, l3⟩).length ≤ 100000 + (k + 1) ∧ sL.length ≤ k + 1 ∧ (sO ++ [(⟨l1, l2, l3⟩ : HOp)]).length ≤ k + 1) := Lib.hid (by
            have h1 := holdL_len sH ⟨l1, l2, l3⟩
            have h2 := HNH2.out
            have h3 := HNL2.out
            have h4 := HNO2.out
            rw [List.length_append]; simp; omega)
          go_roundw
          case rel => exact ⟨k + 1, _, _, _, _, _, by omega, by go_num, hF8, HE8, HN8⟩
          case measure => simp [intOf]; omega
    · have HEND : Hid (freeS ⟨H, W⟩ tx = ⟨sH, sL, sO⟩) := Lib.hid (by rw [HE.out, drop_end (by rw [HR2.out]; omega)]; rfl)
      have HF := hide hF
      clear hF HE
      go_wp2
      go_ret
      have hF := unhide HF
      have e1 : (freeT ⟨H, W⟩ tx).H = sH := by unfold freeT; rw [HEND.out]
      have e2 : (freeT ⟨H, W⟩ tx).W = sL := by unfold freeT; rw [HEND.out]
      refine ⟨_, _, _, rfl, by rw [HEND.out]; exact hF.out, by rw [e1, e2]; exact hF.tab, ⟨hF.chg.mono (fun k hk => .inl (.inl hk)), ?_, ?_⟩, fun k hk => ⟨fun h => hF.ne1 k h hk, fun h => hF.ne2 k h hk⟩⟩
      · cases hv : (Value.slice A1' sH.length c1').ownBlock with
        | none => exact .inr (.inl rfl)
        | some k => exact .inr (.inr ⟨k, rfl, hF.new1 k hv⟩)
      · cases hv : (Value.slice AL sL.length cL).ownBlock with
        | none => exact .inr (.inl rfl)
        | some k => exact .inr (.inr ⟨k, rfl, hF.new2 k hv⟩)
end Go.Proofs.YtbccnafdfeempaaGreatDoor

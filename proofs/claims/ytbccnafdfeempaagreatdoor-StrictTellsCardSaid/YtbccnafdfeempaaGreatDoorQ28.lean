
/-
  CONTRACT of the reference's laneref1.Table.Free.
  CONTRACTS of the table within laneref2.Runner (printed by wip/mkslock.py from XRLock): CONTRACTS of the reference's laneref1.Lock, clear0, Table.Waiting, without.
-/
import Derived.Test.YtbccnafdfeempaaGreatDoorRLock4
import Derived.Test.YtbccnafdfeempaaGreatDoorQ22
import Derived.StillTailTactics
import Derived.Deep.QuietTactic

namespace Go.Proofs.YtbccnafdfeempaaGreatDoor
open Go.RowKit

/-- The table in the midst of Free: all three rows are new. -/
structure FreeQ (w wr : World) (lo g : Nat) (v1 v2 vO vR : Value) (sH sL sO R : List HOp) : Prop where
  tab : TabQ wr lo g v1 v2 sH sL
  out : wr.ownsRow w.heap.size 67 3 vO sO.length (cellsH sO)
  rest : wr.ownsRow w.heap.size 67 3 vR R.length (cellsH R)
  new1 : ∀ k, v1.ownBlock = some k → w.heap.size ≤ k
  new2 : ∀ k, v2.ownBlock = some k → w.heap.size ≤ k
  ne1 : ∀ k, v1.ownBlock = some k → vO.ownBlock ≠ some k
  ne2 : ∀ k, v2.ownBlock = some k → vO.ownBlock ≠ some k
  nr1 : ∀ k, vR.ownBlock = some k → v1.ownBlock ≠ some k
  nr2 : ∀ k, vR.ownBlock = some k → v2.ownBlock ≠ some k
  nrO : ∀ k, vR.ownBlock = some k → vO.ownBlock ≠ some k
  chg : Chg (fun k => k = g) w wr
theorem own_kept' {wr wx : World} {u v : Value} {base : Nat} {e : TypeId} {size n : Nat} {xs : List Value} (hr : wr.ownsRow base e size v n xs) (hg : wr.grownBy wx u.ownBlock) (hne : ∀ k, v.ownBlock = some k → u.ownBlock ≠ some k) : wx.ownsRow base e size v n xs := hr.kept hg (by
  cases hv : v.ownBlock with
  | none => exact .inl rfl
  | some k => exact .inr fun e => hne k hv e.symm)
theorem blk_kept' {wr wx : World} {u : Value} {g : Nat} {t e : TypeId} {cs : List Value} {base size n : Nat} {xs : List Value} (hB : Blk wr g t cs) (hu : wr.ownsRow base e size u n xs) (hne : t ≠ e) (hg : wr.grownBy wx u.ownBlock) : Blk wx g t cs := hB.grown hg (fun k hk h => blk_no_row hB hu hne (by rw [h]; exact hk))
section
variable {w wr wx : World} {lo g : Nat} {v1 v2 vO vR : Value} {sH sL sO R : List HOp}
theorem FreeQ.below (h : FreeQ w wr lo g v1 v2 vO vR sH sL sO R) (hb : Below wr.heap.size wr wx) : FreeQ w wx lo g v1 v2 vO vR sH sL sO R :=
  ⟨h.tab.below hb, own_below h.out hb (Nat.le_refl _), own_below h.rest hb (Nat.le_refl _), h.new1, h.new2, h.ne1, h.ne2, h.nr1, h.nr2, h.nrO, h.chg.then_below hb⟩
theorem FreeQ.hold (h : FreeQ w wr lo g v1 v2 vO vR sH sL sO R) {v1' : Value} {sH' : List HOp} (T : TabQ wx lo g v1' v2 sH' sL) (hc : Chg (fun k => k = g ∨ v1.ownBlock = some k) wr wx) (hn : v1'.ownBlock = v1.ownBlock ∨ ∃ k, v1'.ownBlock = some k ∧ wr.heap.size ≤ k) : FreeQ w wx lo g v1' v2 vO vR sH' sL sO R := by
  have hsz := h.chg.size
  have ho : ∀ k, vO.ownBlock = some k → ¬ (k = g ∨ v1.ownBlock = some k) := fun k hk e => by
    rcases e with rfl | e
    · exact blk_no_row h.tab.blk h.out (by decide) hk
    · exact h.ne1 k e hk
  have hr : ∀ k, vR.ownBlock = some k → ¬ (k = g ∨ v1.ownBlock = some k) := fun k hk e => by
    rcases e with rfl | e
    · exact blk_no_row h.tab.blk h.rest (by decide) hk
    · exact h.nr1 k hk e
  refine ⟨T, own_chg h.out hc ho, own_chg h.rest hc hr, ?_, h.new2, ne_comm' (ne_grown h.out (ne_comm' h.ne1) hn), h.ne2, ne_grown h.rest h.nr1 hn, h.nr2, h.nrO, h.chg.next hc (fun k hk => ?_)⟩
  · intro k hk
    rcases hn with e | ⟨j, e, hj⟩
    · exact h.new1 k (e.symm.trans hk)
    · rw [e] at hk; injection hk with hk; omega
  · rcases hk with rfl | e
    · exact .inl rfl
    · exact .inr (h.new1 k e)
theorem FreeQ.outs (h : FreeQ w wr lo g v1 v2 vO vR sH sL sO R) {l : HOp} {vO' : Value} (ho : wx.ownsRow w.heap.size 67 3 vO' (sO.length + 1) (cellsH (sO ++ [l]))) (hg : wr.grownBy wx vO.ownBlock) (hn : vO'.ownBlock = vO.ownBlock ∨ vO'.ownBlock = some wr.heap.size) : FreeQ w wx lo g v1 v2 vO' vR sH sL (sO ++ [l]) R := by
  have hn' : vO'.ownBlock = vO.ownBlock ∨ ∃ k, vO'.ownBlock = some k ∧ wr.heap.size ≤ k := hn.imp id fun e => ⟨_, e, Nat.le_refl _⟩
  exact ⟨⟨blk_kept' h.tab.blk h.out (by decide) hg, own_kept' h.tab.held hg h.ne1, own_kept' h.tab.waits hg h.ne2, h.tab.ne, h.tab.lo⟩, by rw [List.length_append]; exact ho, own_kept' h.rest hg h.nrO, h.new1, h.new2, ne_grown h.tab.held h.ne1 hn', ne_grown h.tab.waits h.ne2 hn', h.nr1, h.nr2, ne_grown h.rest h.nrO hn', h.chg.grown hg (fun k hk => .inr (h.out.lt k hk).1)⟩
theorem FreeQ.lefts (h : FreeQ w wr lo g v1 v2 vO vR sH sL sO R) {l : HOp} {v2' : Value} (ho : wx.ownsRow lo 67 3 v2' (sL.length + 1) (cellsH (sL ++ [l]))) (hg : wr.grownBy wx v2.ownBlock) (hn : v2'.ownBlock = v2.ownBlock ∨ v2'.ownBlock = some wr.heap.size) : FreeQ w (wx.setCell ⟨g, 1, none⟩ v2') lo g v1 v2' vO vR sH (sL ++ [l]) sO R := by
  have hsz := h.chg.size
  have hn' : v2'.ownBlock = v2.ownBlock ∨ ∃ k, v2'.ownBlock = some k ∧ wr.heap.size ≤ k := hn.imp id fun e => ⟨_, e, Nat.le_refl _⟩
  have hB := blk_kept' h.tab.blk h.tab.waits (by decide) hg
  refine ⟨⟨hB.put 1 _, own_set_blk (own_kept' h.tab.held hg h.tab.ne) hB (by decide) 1 _, ?_, ne_grown h.tab.held h.tab.ne hn', h.tab.lo⟩, own_set_blk (own_kept' h.out hg (ne_comm' h.ne2)) hB (by decide) 1 _, own_set_blk (own_kept' h.rest hg h.nr2) hB (by decide) 1 _, h.new1, ?_, h.ne1, ne_comm' (ne_grown h.out (ne_comm' h.ne2) hn'), h.nr1, ne_grown h.rest h.nr2 hn', h.nrO, (h.chg.grown hg (fun k hk => .inr (h.new2 k hk))).set (p := ⟨g, 1, none⟩) (.inl rfl) _⟩
  · rw [List.length_append]; exact own_set_blk ho hB (by decide) 1 _
  · intro k hk
    rcases hn' with e | ⟨j, e, hj⟩
    · exact h.new2 k (e.symm.trans hk)
    · rw [e] at hk; injection hk with hk; omega
end
/-- What a step of the reference leaves of a table. -/
def KeptQ (w w' : World) (g : Nat) (v1 v2 v1' v2' : Value) : Prop :=
  Chg (fun k => k = g ∨ v1.ownBlock = some k ∨ v2.ownBlock = some k) w w' ∧ (v1'.ownBlock = v1.ownBlock ∨ v1'.ownBlock = none ∨ ∃ k, v1'.ownBlock = some k ∧ w.heap.size ≤ k) ∧ (v2'.ownBlock = v2.ownBlock ∨ v2'.ownBlock = none ∨ ∃ k, v2'.ownBlock = some k ∧ w.heap.size ≤ k)
theorem Kept.q {w w' : World} {g : Nat} {v1 v2 v1' v2' : Value} (h : Kept w w' g v1 v2 v1' v2') : KeptQ w w' g v1 v2 v1' v2' := ⟨h.1, h.2.1.imp id .inr, h.2.2⟩
/-- What Free leaves. -/
def FreePostQ (w : World) (lo g : Nat) (v1 v2 : Value) (H W : List HOp) (tx : Int) (e : Ending) (w' : World) : Prop :=
  ∃ vo v1' v2', e = .returned vo ∧ w'.ownsRow w.heap.size 67 3 vo (freeS ⟨H, W⟩ tx).out.length (cellsH (freeS ⟨H, W⟩ tx).out) ∧ TabQ w' lo g v1' v2' (freeT ⟨H, W⟩ tx).H (freeT ⟨H, W⟩ tx).W ∧ KeptQ w w' g v1 v2 v1' v2' ∧ (∀ k, vo.ownBlock = some k → v1'.ownBlock ≠ some k ∧ v2'.ownBlock ≠ some k)

set_option maxRecDepth 100000 in
set_option maxHeartbeats 4000000 in
theorem rfree_any (lo g : Nat) (v1 v2 : Value) (H W : List HOp) (tx : Int) (w : World) (T : TabQ w lo g v1 v2 H W) (hh : H.length ≤ 100000) (hw : W.length ≤ 100000) (hlo : lo ≤ w.heap.size) :
    Calls Tryz.prog 28 #[.pointer (some ⟨g, 0, none⟩), .int .i64 tx] w (FreePostQ w lo g v1 v2 H W tx) := by
  obtain ⟨A1, c1, rfl⟩ := own_slice T.held
  obtain ⟨A2, c2, rfl⟩ := own_slice T.waits
  have hgl := T.blk.lt
  have HLO := Lib.hid hlo
  have HTL := Lib.hid T.lo
  obtain ⟨nh, hnh⟩ : ∃ nh, H.length = nh := ⟨_, rfl⟩
  obtain ⟨nw, hnw⟩ : ∃ nw, W.length = nw := ⟨_, rfl⟩
  have hrH := rd_own T.held
  have hTW := T.waits
  have hbk := T.blk
  rw [hnh] at hrH hh
  rw [hnw] at hTW hw
  rw [hnh, hnw] at hbk
  have k0 := hbk.cellS (i := 0) (v := .slice A1 nh c1) rfl
  have CWH := hide (rwithout_any A1 nh c1 H tx w hrH (by omega))
  obtain ⟨F1, hF1⟩ : ∃ F1, H.filter (notTx tx) = F1 := ⟨_, rfl⟩
  obtain ⟨F2, hF2⟩ : ∃ F2, W.filter (notTx tx) = F2 := ⟨_, rfl⟩
  have hE : Hid (freeS ⟨H, W⟩ tx = (F2.drop 0).foldl freeStep ⟨F1, [], []⟩) := Lib.hid (by rw [← hF1, ← hF2]; rfl)
  have hl1 : F1.length ≤ nh := by rw [← hF1, ← hnh]; exact List.length_filter_le _ _
  have hl2 : F2.length ≤ nw := by rw [← hF2, ← hnw]; exact List.length_filter_le _ _
  obtain ⟨m2, hm2⟩ : ∃ m2, F2.length = m2 := ⟨_, rfl⟩
  rw [hm2] at hl2
  rw [hF1] at CWH
  have HWR : Hid (W.filter (notTx tx) = F2 ∧ F2.length = m2) := Lib.hid ⟨hF2, hm2⟩
  clear hrH hnh hnw hF1 hF2 hm2 T
  go_enter Tryz.func28, Tryz.ntmps28
  go_wp2_with fail
  refine (unhide CWH).mono ?_
  rintro e w1 ⟨vH, rfl, hoH, hb1⟩
  obtain ⟨A3, c3, rfl⟩ := own_slice hoH
  have hbk1 := hbk.below hb1 hbk.lt
  have hoW1 := own_below hTW hb1 (Nat.le_refl _)
  have j0 := hbk1.cellS (i := 0) (v := .slice A1 nh c1) rfl
  have jf := hbk1.frozen 0
  have hbk2 := hbk1.put 0 (.slice A3 F1.length c3)
  have hoH2 := own_set_blk hoH hbk1 (by decide) 0 (.slice A3 F1.length c3)
  have hoW2 := own_set_blk hoW1 hbk1 (by decide) 0 (.slice A3 F1.length c3)
  have i1 := hbk2.cellS (i := 1) (v := .slice A2 nw c2) rfl
  have hc2 : Chg (fun k => k = g) w (w1.setCell ⟨g, 0, none⟩ (.slice A3 F1.length c3)) := (Chg.of_below (S := fun k => k = g) hb1).set (p := ⟨g, 0, none⟩) (.inl rfl) _
  have hlt1 : ∀ k, (Value.slice A3 F1.length c3).ownBlock = some k → w.heap.size ≤ k ∧ k < (w1.setCell ⟨g, 0, none⟩ (.slice A3 F1.length c3)).heap.size := fun k hk => by
    have h1 := hoH.lt k hk
    exact ⟨h1.1, by simpa [World.setCell] using h1.2⟩
  have HLT1 := Lib.hid hlt1
  clear hlt1 hTW hbk hb1 hoH hoW1 hbk1 k0 CWH
  go_wp2_with fail
  generalize w1.setCell ⟨g, 0, none⟩ (.slice A3 F1.length c3) = w2 at *
  refine (rwithout_any A2 nw c2 W tx w2 (rd_own hoW2) (by omega)).mono ?_
  rintro e w3 ⟨vR, rfl, hoR, hb3⟩
  rw [HWR.out.1] at hoR
  have hR2 := HWR.out.2
  obtain ⟨AR, cR, rfl⟩ := own_slice hoR
  rw [hR2]
  rw [hR2] at hoR
  have hbk3 := hbk2.below hb3 hbk2.lt
  have hoH3 := own_below hoH2 hb3 (Nat.le_refl _)
  have q1 := hbk3.cellS (i := 1) (v := .slice A2 nw c2) rfl
  have qf := hbk3.frozen 1
  have hz2 := hc2.size
  have HF0 : FreeQ w (w3.setCell ⟨g, 1, none⟩ (.slice none 0 0)) lo g (.slice A3 F1.length c3) (.slice none 0 0) (.slice none 0 0) (.slice AR m2 cR) F1 [] [] F2 := by
    refine ⟨⟨hbk3.put 1 _, own_set_blk (own_mono hoH3 HLO.out) hbk3 (by decide) 1 _, World.ownsRow_nil _ _ _ _, fun k _ hk => (by cases hk), HTL.out⟩, World.ownsRow_nil _ _ _ _, ?_, fun k hk => (HLT1.out k hk).1, fun k hk => (by cases hk), fun k _ hk => (by cases hk), fun k hk => (by cases hk), fun k hk h => ?_, fun k _ hk => (by cases hk), fun k _ hk => (by cases hk), (hc2.then_below hb3).set (p := ⟨g, 1, none⟩) (.inl rfl) _⟩
    · rw [hR2]
      exact own_set_blk (own_mono hoR hz2) hbk3 (by decide) 1 _
    · have h1 := (HLT1.out k h).2
      have h2 := (hoR.lt k hk).1
      omega
  have HNL : Hid (F1.length ≤ 100000 + 0 ∧ ([] : List HOp).length ≤ 0 ∧ ([] : List HOp).length ≤ 0) := Lib.hid ⟨by omega, by simp, by simp⟩
  have hmm : m2 ≤ 100000 := by omega
  have HR2 := Lib.hid hR2
  clear hoR hbk3 hoH3 hbk2 hoH2 hoW2 hc2 HLT1 hb3 i1 hR2 HWR hl1 hl2
  go_wp2
  go_loopw [6, 7, 8, 9] (fun s6 s7 _ _ wr => ∃ (k : Nat) (sH sL sO : List HOp) (v1' v2' : Value), k ≤ m2 ∧ s7 = .int .i64 k ∧ FreeQ w wr lo g v1' v2' s6 (.slice AR m2 cR) sH sL sO F2 ∧ Hid (freeS ⟨H, W⟩ tx = (F2.drop k).foldl freeStep ⟨sH, sL, sO⟩) ∧ Hid (sH.length ≤ 100000 + k ∧ sL.length ≤ k ∧ sO.length ≤ k)) (fun _ s7 _ _ _ => m2 - (intOf s7).toNat)
  case atStart => exact ⟨0, F1, [], [], _, _, Nat.zero_le _, rfl, HF0, hE, HNL⟩
  case round =>
    clear HF0 hE HNL q1 qf
    obtain ⟨k, sH, sL, sO, v1', v2', hk, rfl, hF, HE, HLN⟩ := hrel
    obtain ⟨A1', c1', rfl⟩ := own_slice hF.tab.held
    obtain ⟨AL, cL, rfl⟩ := own_slice hF.tab.waits
    obtain ⟨AO, cO, rfl⟩ := own_slice hF.out
    by_cases hlt : k < m2
    · have hrest := hF.rest
      rw [HR2.out] at hrest
      obtain ⟨b, off, l, he, hb, hl, e0, e1, e2⟩ := (rd_own hrest).op (k := k) hlt
      have HS : Hid (freeS ⟨H, W⟩ tx = (F2.drop (k + 1)).foldl freeStep (freeStep ⟨sH, sL, sO⟩ l)) := Lib.hid (by rw [HE.out, drop_at hl]; rfl)
      cases he
      obtain ⟨l1, l2, l3⟩ := l
      simp only at e0 e1 e2
      have n0 : (0 : Int) ≤ (k : Int) := by omega
      have n1 : (k : Int) < (m2 : Int) := by omega
      have HE3 := hide (fun (w' : World) (h : w'.ownsRow w.heap.size 67 3 (.slice (some ⟨b, off, none⟩) m2 cR) F2.length (cellsH F2)) => show w'.cell? ⟨b, off + k * 3, none⟩ = some (.int .i64 l1) ∧ w'.cell? ⟨b, off + k * 3 + 1, none⟩ = some (.int .i64 l2) ∧ w'.cell? ⟨b, off + k * 3 + 2, none⟩ = some (.int .i64 l3) from by
        rw [HR2.out] at h
        obtain ⟨b', off', l', he', hb', hl', x0, x1, x2⟩ := (rd_own h).op (k := k) hlt
        cases he'
        obtain rfl : l' = ⟨l1, l2, l3⟩ := Option.some.inj (hl'.symm.trans hl)
        exact ⟨x0, x1, x2⟩)
      obtain ⟨nH, hnH⟩ : ∃ nH, sH.length = nH := ⟨_, rfl⟩
      obtain ⟨nL, hnL⟩ : ∃ nL, sL.length = nL := ⟨_, rfl⟩
      obtain ⟨nO, hnO⟩ : ∃ nO, sO.length = nO := ⟨_, rfl⟩
      have hlens := HLN.out
      have hsz := hF.chg.size
      rw [hnH, hnL, hnO] at hlens hF
      rw [hnO]
      obtain ⟨z1, z2, z3⟩ := hlens
      have HNH2 := Lib.hid hnH
      have HNL2 := Lib.hid hnL
      have HNO2 := Lib.hid hnO
      have k0 := hF.tab.blk.cellS (i := 0) (v := .slice A1' nH c1') rfl
      have hoH := hF.tab.held
      have hoL := hF.tab.waits
      rw [hnH] at hoH
      rw [hnL] at hoL
      have hrH := rd_own hoH
      have hrL := rd_own hoL
      clear hoH hoL
      have CH := hide (clear0_any A1' nH c1' sH ⟨l1, l2, l3⟩ wr.drew hrH (by omega))
      have CL := hide (fun w' (hb : Below wr.heap.size wr w') => clear0_any AL nL cL sL ⟨l1, l2, l3⟩ w' ((hrL.below hb).more hb.size) (by omega))
      unfold HOp.val at CH CL
      obtain ⟨p1, hp1⟩ : ∃ p1 : Bool, freeB sH ⟨l1, l2, l3⟩ = p1 := ⟨_, rfl⟩
      obtain ⟨p2, hp2⟩ : ∃ p2 : Bool, freeB sL ⟨l1, l2, l3⟩ = p2 := ⟨_, rfl⟩
      rw [hp1] at CH
      rw [hp2] at CL
      have HP1 := Lib.hid hp1
      have HP2 := Lib.hid hp2
      have HFB := hide (fun w' (hb : Below wr.heap.size wr w') => hF.below hb)
      have hlow : lo ≤ wr.heap.size := Nat.le_trans HLO.out hsz
      clear hrH hrL hp1 hp2 hF hrest hl hnH hnL hnO HE HLN hb
      go_wp2
      go_still_tail 8, (by kernel_rfl)
      change wpList _ _ _ _ _ wr.drew
      go_wp2_with fail
      refine (unhide CH).mono ?_
      rintro e w5 ⟨rfl, hb5⟩
      have hd5 : Below wr.heap.size wr w5 := ((Below.refl wr.heap.size wr).drew).trans hb5
      have hF5 := unhide HFB w5 hd5
      have k1 := hF5.tab.blk.cellS (i := 1) (v := .slice AL nL cL) rfl
      obtain ⟨x0, x1, x2⟩ := unhide HE3 w5 hF5.rest
      have CL6 := hide (unhide CL w5.drew hd5.drew)
      clear hb5 k0 e0 e1 e2 CH CL hF5
      go_wp2
      go_still_tail 8, (by kernel_rfl)
      change wpList _ _ _ _ _ w5.drew
      go_wp2_with fail
      refine (unhide CL6).mono ?_
      rintro e w6 ⟨rfl, hb6⟩
      have hd6 : Below wr.heap.size wr w6 := (hd5.drew).trans (hb6.mono (show wr.heap.size ≤ w5.drew.heap.size from hd5.size))
      have hF6 := unhide HFB w6 hd6
      obtain ⟨y0, y1, y2⟩ := unhide HE3 w6 hF6.rest
      have hlo6 : lo ≤ w6.heap.size := Nat.le_trans hlow hd6.size
      clear k1 x0 x1 x2 CL6 hb6 hd5 hd6 HFB
      cases p1
      · have HST := Lib.hid (freeStep_no1 (sL := sL) (sO := sO) HP1.out)
        have h1c : ∀ u ∈ cellsH [⟨l1, l2, l3⟩], u.oneCell' = true := oneH _
        have hblk6 := hF6.tab.blk
        have hwait6 := hF6.tab.waits
        rw [HNL2.out] at hwait6
        have hg6 := hblk6.lt
        have k1 := hblk6.cellS (i := 1) (v := .slice AL nL cL) rfl
        have kf := hblk6.frozen 1
        have k1a := (World.cell?_alloc_lt w6 (.cells #[.int .i64 l1, .int .i64 l2, .int .i64 l3] 67) ⟨g, 1, none⟩ hg6).trans k1
        have hs6 := hF6.chg.size
        have HF6 := hide (hF6.below (((Below.refl w6.heap.size w6).drew).alloc (Nat.le_refl _) (.cells (cellsH [⟨l1, l2, l3⟩]).toArray 67)))
        clear hF6
        go_wp2_with fail
        go_region_law (first | ((refine step_app2 rfl (.tmp 73) (.tmp 78) _ rfl lo slt_lock (n := nL) (xs := cellsH sL) (m := 1) (news := cellsH [⟨l1, l2, l3⟩]) rfl (own_alloc hwait6.drew _) rfl (rd_new' _ _ (cellsH [⟨l1, l2, l3⟩]) (by simp) rfl) h1c (by omega) (by simp; omega) ?_; intro v7 w7 hown7 hg7 hat7; obtain ⟨A7, c7, rfl⟩ := own_slice hown7; have hBk7 := (hblk6.drew.alloc (.cells (cellsH [⟨l1, l2, l3⟩]).toArray 67)).other (own_alloc hwait6.drew _) (by decide) hg7; have p0 := hBk7.cellS (i := 1) (v := .slice AL nL cL) rfl; have p1 := hBk7.frozen 1)))
        all_goals
          have hF8 := (unhide HF6).lefts (l := ⟨l1, l2, l3⟩) (v2' := .slice A7 (nL + 1) c7) (by rw [HNL2.out, cellsH_append]; simpa using hown7) hg7 hat7
          have HE8 : Hid (freeS ⟨H, W⟩ tx = (F2.drop (k + 1)).foldl freeStep ⟨sH, sL ++ [⟨l1, l2, l3⟩], sO⟩) := Lib.hid (by rw [HS.out, HST.out])
          have HN8 : Hid (sH.length ≤ 100000 + (k + 1) ∧ (sL ++ [(⟨l1, l2, l3⟩ : HOp)]).length ≤ k + 1 ∧ sO.length ≤ k + 1) := Lib.hid (by
            have h2 := HNH2.out
            have h3 := HNL2.out
            have h4 := HNO2.out
            rw [List.length_append]; simp; omega)
          go_wp2
          go_roundw
          case rel => exact ⟨k + 1, _, _, _, _, _, by omega, by go_num, hF8, HE8, HN8⟩
          case measure => simp [intOf]; omega
      · cases p2
        · have HST := Lib.hid (freeStep_no2 (sO := sO) HP1.out HP2.out)
          have h1c : ∀ u ∈ cellsH [⟨l1, l2, l3⟩], u.oneCell' = true := oneH _
          have hblk6 := hF6.tab.blk
          have hwait6 := hF6.tab.waits
          rw [HNL2.out] at hwait6
          have hg6 := hblk6.lt
          have k1 := hblk6.cellS (i := 1) (v := .slice AL nL cL) rfl
          have kf := hblk6.frozen 1
          have k1a := (World.cell?_alloc_lt w6 (.cells #[.int .i64 l1, .int .i64 l2, .int .i64 l3] 67) ⟨g, 1, none⟩ hg6).trans k1
          have hs6 := hF6.chg.size
          have HF6 := hide (hF6.below (((Below.refl w6.heap.size w6).drew).alloc (Nat.le_refl _) (.cells (cellsH [⟨l1, l2, l3⟩]).toArray 67)))
          clear hF6
          go_wp2_with fail
          go_region_law (first | ((refine step_app2 rfl (.tmp 73) (.tmp 78) _ rfl lo slt_lock (n := nL) (xs := cellsH sL) (m := 1) (news := cellsH [⟨l1, l2, l3⟩]) rfl (own_alloc hwait6.drew _) rfl (rd_new' _ _ (cellsH [⟨l1, l2, l3⟩]) (by simp) rfl) h1c (by omega) (by simp; omega) ?_; intro v7 w7 hown7 hg7 hat7; obtain ⟨A7, c7, rfl⟩ := own_slice hown7; have hBk7 := (hblk6.drew.alloc (.cells (cellsH [⟨l1, l2, l3⟩]).toArray 67)).other (own_alloc hwait6.drew _) (by decide) hg7; have p0 := hBk7.cellS (i := 1) (v := .slice AL nL cL) rfl; have p1 := hBk7.frozen 1)))
          all_goals
            have hF8 := (unhide HF6).lefts (l := ⟨l1, l2, l3⟩) (v2' := .slice A7 (nL + 1) c7) (by rw [HNL2.out, cellsH_append]; simpa using hown7) hg7 hat7
            have HE8 : Hid (freeS ⟨H, W⟩ tx = (F2.drop (k + 1)).foldl freeStep ⟨sH, sL ++ [⟨l1, l2, l3⟩], sO⟩) := Lib.hid (by rw [HS.out, HST.out])
            have HN8 : Hid (sH.length ≤ 100000 + (k + 1) ∧ (sL ++ [(⟨l1, l2, l3⟩ : HOp)]).length ≤ k + 1 ∧ sO.length ≤ k + 1) := Lib.hid (by
              have h2 := HNH2.out
              have h3 := HNL2.out
              have h4 := HNO2.out
              rw [List.length_append]; simp; omega)
            go_wp2
            go_roundw
            case rel => exact ⟨k + 1, _, _, _, _, _, by omega, by go_num, hF8, HE8, HN8⟩
            case measure => simp [intOf]; omega
        · have HST := Lib.hid (freeStep_yes (sO := sO) HP1.out HP2.out)
          have CHo := hide (rhold_any lo g _ _ sH sL ⟨l1, l2, l3⟩ w6 hF6.tab (by rw [HNH2.out]; omega) hlo6)
          unfold HOp.val at CHo
          have HF6 := hide hF6
          clear hF6
          go_wp2_with fail
          refine (unhide CHo).mono ?_
          rintro e w7 ⟨v, v1'', rfl, hT7, hc7, hn7⟩
          have hF7 := (unhide HF6).hold hT7 hc7 hn7
          obtain ⟨x0, x1, x2⟩ := unhide HE3 w7 hF7.rest
          have hO7 := hF7.out
          rw [HNO2.out] at hO7
          have hz7 := hF7.chg.size
          have HF7 := hide (hF7.below ((Below.refl w7.heap.size w7).alloc (Nat.le_refl _) (.cells (cellsH [⟨l1, l2, l3⟩]).toArray 67)))
          clear y0 y1 y2 CHo hT7 hc7 hn7 hF7 HF6
          go_wp2_with (at_builtin; (refine wpList_app rfl (.tmp 62) (.tmp 67) _ rfl w.heap.size slt_lock (n := nO) (xs := cellsH sO) (m := 1) (news := cellsH [⟨l1, l2, l3⟩]) rfl (own_alloc hO7 _) rfl (rd_new' _ _ (cellsH [⟨l1, l2, l3⟩]) (by simp) rfl) (oneH _) (by omega) (by simp; omega) ?_); intro v8 w8 hown8 hg8 hb8 hat8 hne8; obtain ⟨A8, c8, rfl⟩ := own_slice hown8)
          have hF8 := (unhide HF7).outs (l := ⟨l1, l2, l3⟩) (vO' := .slice A8 (nO + 1) c8) (by rw [HNO2.out, cellsH_append]; exact hown8) hg8 hat8
          have HE8 : Hid (freeS ⟨H, W⟩ tx = (F2.drop (k + 1)).foldl freeStep ⟨holdL sH ⟨l1, l2, l3⟩, sL, sO ++ [⟨l1, l2, l3⟩]⟩) := Lib.hid (by rw [HS.out, HST.out])
          have HN8 : Hid ((holdL sH ⟨l1, l2, l3⟩).length ≤ 100000 + (k + 1) ∧ sL.length ≤ k + 1 ∧ (sO ++ [(⟨l1, l2, l3⟩ : HOp)]).length ≤ k + 1) := Lib.hid (by
            have h1 := holdL_len sH ⟨l1, l2, l3⟩
            have h2 := HNH2.out
            have h3 := HNL2.out
            have h4 := HNO2.out
            rw [List.length_append]; simp; omega)
          go_roundw
          case rel => exact ⟨k + 1, _, _, _, _, _, by omega, by go_num, hF8, HE8, HN8⟩
          case measure => simp [intOf]; omega
    · have HEND : Hid (freeS ⟨H, W⟩ tx = ⟨sH, sL, sO⟩) := Lib.hid (by rw [HE.out, drop_end (by rw [HR2.out]; omega)]; rfl)
      have HF := hide hF
      clear hF HE
      go_wp2
      go_ret
      have hF := unhide HF
      have e1 : (freeT ⟨H, W⟩ tx).H = sH := by unfold freeT; rw [HEND.out]
      have e2 : (freeT ⟨H, W⟩ tx).W = sL := by unfold freeT; rw [HEND.out]
      refine ⟨_, _, _, rfl, by rw [HEND.out]; exact hF.out, by rw [e1, e2]; exact hF.tab, ⟨hF.chg.mono (fun k hk => .inl (.inl hk)), ?_, ?_⟩, fun k hk => ⟨fun h => hF.ne1 k h hk, fun h => hF.ne2 k h hk⟩⟩
      · cases hv : (Value.slice A1' sH.length c1').ownBlock with
        | none => exact .inr (.inl rfl)
        | some k => exact .inr (.inr ⟨k, rfl, hF.new1 k hv⟩)
      · cases hv : (Value.slice AL sL.length cL).ownBlock with
        | none => exact .inr (.inl rfl)
        | some k => exact .inr (.inr ⟨k, rfl, hF.new2 k hv⟩)
end Go.Proofs.YtbccnafdfeempaaGreatDoor


namespace Go.Proofs.YtbccnafdfeempaaGreatDoor
open Go.RowKit
variable {p0 : Value} {ps : List Value}

/-- A table of the reference's: who is held (row v1), who waits (row v2). -/
structure TabRn (p0 : Value) (ps : List Value) (w : World) (lo g : Nat) (v1 v2 : Value) (H W : List HOp) : Prop where
  blk : Blk w g 47 (p0 :: v1 :: v2 :: ps)
  held : w.ownsRow lo 67 3 v1 H.length (cellsH H)
  waits : w.ownsRow lo 67 3 v2 W.length (cellsH W)
  ne : ∀ k, v1.ownBlock = some k → v2.ownBlock ≠ some k
  lo : lo ≤ g
theorem TabRn.below {w w' : World} {lo g : Nat} {v1 v2 : Value} {H W : List HOp} (h : TabRn p0 ps w lo g v1 v2 H W) (hb : Below w.heap.size w w') : TabRn p0 ps w' lo g v1 v2 H W :=
  ⟨h.blk.below hb h.blk.lt, own_below h.held hb (Nat.le_refl _), own_below h.waits hb (Nat.le_refl _), h.ne, h.lo⟩
theorem TabRn.chg {S : Nat → Prop} {w w' : World} {lo g : Nat} {v1 v2 : Value} {H W : List HOp} (h : TabRn p0 ps w lo g v1 v2 H W) (hc : Chg S w w') (h0 : ¬ S g) (h1 : ∀ k, v1.ownBlock = some k → ¬ S k) (h2 : ∀ k, v2.ownBlock = some k → ¬ S k) : TabRn p0 ps w' lo g v1 v2 H W :=
  ⟨h.blk.chg hc h0, own_chg h.held hc h1, own_chg h.waits hc h2, h.ne, h.lo⟩
set_option maxRecDepth 100000 in
set_option maxHeartbeats 1000000 in
theorem swaiting_any (lo g : Nat) (v1 v2 : Value) (H W : List HOp) (tx : Int) (w : World) (T : TabRn p0 ps w lo g v1 v2 H W) (hw : W.length ≤ 1000000) :
    Calls Tryz.prog 30 #[.pointer (some ⟨g, 1, none⟩), .int .i64 tx] w fun e w' => e = .returned (.int .i64 (idxGo (fun y => decide (y.tx = tx)) 0 W)) ∧ w = w' := by
  obtain ⟨A2, c2, rfl⟩ := own_slice T.waits
  have hr := rd_own T.waits
  obtain ⟨n, hn⟩ : ∃ n, W.length = n := ⟨_, rfl⟩
  have hblk := T.blk
  rw [hn] at hr hblk
  have k1 := hblk.cellS (i := 2) (v := .slice A2 n c2) rfl
  have hgl := hblk.lt
  have hn9 : n ≤ 1000000 := by omega
  have HN := Lib.hid hn
  have HR := hide hr
  have HE : Hid (idxGo (fun y : HOp => decide (y.tx = tx)) 0 W = idxGo (fun y : HOp => decide (y.tx = tx)) ((0 : Nat) : Int) (W.drop 0)) := Lib.hid rfl
  generalize idxGo (fun y : HOp => decide (y.tx = tx)) 0 W = R at *
  clear hr hblk hn T
  go_enter Tryz.func30, Tryz.ntmps30
  go_wp2
  go_loop [5] (fun s5 => ∃ k : Nat, k ≤ n ∧ s5 = .int .i64 k ∧ Hid (R = idxGo (fun y : HOp => decide (y.tx = tx)) (k : Int) (W.drop k))) (fun s5 => n - (intOf s5).toNat)
  case atStart => exact ⟨0, Nat.zero_le _, rfl, HE⟩
  case round =>
    clear HE
    obtain ⟨k, hk, rfl, HE⟩ := hrel
    by_cases hlt : k < n
    · obtain ⟨b, off, y, he, hb, hy, c0, c1, c2'⟩ := (unhide HR).op (k := k) hlt
      cases he
      have HS := Lib.hid (idxGo_step (p := fun y : HOp => decide (y.tx = tx)) (k := (k : Int)) (drop_at hy))
      obtain ⟨y1, y2, y3⟩ := y
      simp only at c0 HS
      clear c1 c2' hy
      by_cases ht : y1 = tx
      · have t1 : (y1 == tx) = true := by simp [ht]
        have HF : Hid (R = (k : Int)) := Lib.hid (by rw [HE.out, HS.out, if_pos (by simpa using ht)])
        clear ht
        go_wp2
        go_ret
        exact ⟨ret_int HF.out.symm, rfl⟩
      · have t1 : (y1 == tx) = false := by simp [ht]
        have HF : Hid (R = idxGo (fun y : HOp => decide (y.tx = tx)) ((k + 1 : Nat) : Int) (W.drop (k + 1))) := Lib.hid (by rw [HE.out, HS.out, if_neg (by simpa using ht)]; rfl)
        clear ht
        go_wp2
        go_round
        case rel => exact ⟨k + 1, by omega, by go_num, HF⟩
        case measure => simp [intOf]; omega
    · have HF : Hid (R = -1) := Lib.hid (by rw [HE.out]; exact idxGo_end (drop_end (by rw [HN.out]; omega)))
      go_wp2
      go_ret
      exact ⟨ret_int HF.out.symm, rfl⟩
end Go.Proofs.YtbccnafdfeempaaGreatDoor

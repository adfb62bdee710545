
/-
  CONTRACTS of slices.Grow of none and slices.Concat of two, at locks.
  CONTRACT of locks.Free: the walk.
-/
import Derived.Test.YtbccnafdfeempaaGreatDoorLaysG
import Derived.Test.YtbccnafdfeempaaGreatDoorQ1
import Derived.Deep.QuietTactic
import Derived.Test.YtbccnafdfeempaaGreatDoorFree

namespace Go.Proofs.YtbccnafdfeempaaGreatDoor
open Go.RowKit Go.Shelf

theorem lock_info : ∃ i0 z, Tryz.prog.info? 67 = some i0 ∧ i0.zero = some z ∧ i0.size = 3 ∧ i0.bytes = 24 ∧ z.cells.size = 3 := by
  have h : (Tryz.prog.info? 67).map (fun i => (i.zero, i.size, i.bytes)) = some (some (.agg #[.int .i64 0, .int .i64 0, .int .i64 0]), 3, 24) := by kernel_rfl
  cases hi : Tryz.prog.info? 67 with
  | none => rw [hi] at h; cases h
  | some i0 =>
    rw [hi] at h
    simp only [Option.map_some, Option.some.injEq, Prod.mk.injEq] at h
    exact ⟨i0, _, rfl, h.1, h.2.1, h.2.2, rfl⟩
theorem grow_lock (n : Nat) (hn : n ≤ 1000000) (w : World) :
    Calls Tryz.prog 72 #[.slice none 0 0, .int .i64 n] w fun e w' => ∃ v, e = .returned v ∧ w'.ownsRow w.heap.size 67 3 v 0 [] ∧ Below w.heap.size w w' := by
  rcases Nat.eq_zero_or_pos n with rfl | hp
  · refine (Any8.slices_Grow_room Tryz.lGrowL none 0 0 0 w (by omega) (by omega) (by omega) (by omega)).mono ?_
    rintro e w' ⟨rfl, rfl⟩
    exact ⟨_, rfl, World.ownsRow_nil _ _ _ _, Below.refl _ _⟩
  · obtain ⟨i0, z, h1, h2, h3, h4, h5⟩ := lock_info
    refine (Any8.slices_Grow_grow Tryz.lGrowL i0 z h1 h2 (by omega) none 0 0 n [] w (by omega) (by omega) (by rw [h4]; omega) (by omega) (by simp) (fun _ => rfl) (fun a ha => by cases ha)).mono ?_
    rintro e w' ⟨rfl, rfl⟩
    have hge := grownCap_ge w (0 + n) 0 (Tryz.lGrowL_ren.t 25)
    have hle := grownCap_le_maxLen w (0 + n) 0 (Tryz.lGrowL_ren.t 25) (by unfold maxLen; omega)
    generalize grownCap w (0 + n) 0 (Tryz.lGrowL_ren.t 25) = G at *
    refine ⟨_, rfl, ?_, ((Below.refl w.heap.size w).drew).alloc (Nat.le_refl _) _⟩
    refine World.ownsRow_made w.drew _ _ (Nat.le_refl _) hle ?_
    show (#[] ++ Builtin.zeroCells z.cells (0 + n - 0) ++ Builtin.zeroCells z.cells (G - (0 + n))).size = G * 3
    rw [Array.size_append, Array.size_append, size_zeroCells, size_zeroCells, h5]
    simp
    omega

set_option maxRecDepth 100000 in
set_option maxHeartbeats 1000000 in
theorem concat_lock (gb : Nat) (A1 A2 : Option Addr) (n1 c1 n2 c2 : Nat) (xs ys : List HOp) (w : World) (hB : Blk w gb 38 [.slice A1 n1 c1, .slice A2 n2 c2]) (h1 : Rd w w.heap.size 3 A1 n1 (cellsH xs)) (h2 : Rd w w.heap.size 3 A2 n2 (cellsH ys)) (hn1 : n1 ≤ 400000) (hn2 : n2 ≤ 400000) :
    Calls Tryz.prog 69 #[.slice (some ⟨gb, 0, none⟩) 2 2] w fun e w' => ∃ v, e = .returned v ∧ w'.ownsRow w.heap.size 67 3 v (n1 + n2) (cellsH (xs ++ ys)) ∧ Below w.heap.size w w' := by
  have HR1 := hide (fun w' (hb : Below w.heap.size w w') => (h1.below hb).more hb.size)
  have HR2 := hide (fun w' (hb : Below w.heap.size w w') => (h2.below hb).more hb.size)
  have HB := hide hB
  have hgb := hB.lt
  clear h1 h2 hB
  go_enter Tryz.func69, Tryz.ntmps69
  go_wp2
  go_loopw [3, 5, 11] (fun s3 s5 s11 wr => ∃ (k m : Nat), k ≤ 2 ∧ s11 = .int .i64 k ∧ s3 = .int .i64 m ∧ wr = w ∧ Hid (m = if k = 0 then 0 else if k = 1 then n1 else n1 + n2)) (fun _ _ s11 _ => 2 - (intOf s11).toNat)
  case atStart => exact ⟨0, 0, by omega, rfl, rfl, by first | rfl | trivial, Lib.hid rfl⟩
  case round =>
    obtain ⟨k, m, hk, rfl, rfl, rfl, HM⟩ := hrel
    have hc : k = 0 ∨ k = 1 ∨ k = 2 := by omega
    rcases hc with rfl | rfl | rfl
    · obtain rfl : m = 0 := HM.out
      have c0 := (unhide HB).cellS (i := 0) (v := .slice A1 n1 c1) rfl
      go_wp2
      go_roundw
      case rel => exact ⟨1, n1, by omega, rfl, by simp, by first | rfl | trivial, Lib.hid rfl⟩
      case measure => simp [intOf]
    · obtain rfl : m = n1 := HM.out
      have c0 := (unhide HB).cellS (i := 1) (v := .slice A2 n2 c2) rfl
      go_wp2
      go_roundw
      case rel => exact ⟨2, m + n2, by omega, rfl, by go_num, by first | rfl | trivial, Lib.hid rfl⟩
      case measure => simp [intOf]
    · obtain rfl : m = n1 + n2 := HM.out
      have CG := hide (grow_lock (n1 + n2) (by omega) wr)
      go_wp2_with fail
      refine (unhide CG).mono ?_
      rintro e w1 ⟨v1, rfl, ho1, hb1⟩
      go_wp2
      go_loopw [6, 8, 27] (fun s6 s8 s27 wx => ∃ (k m : Nat) (zs : List HOp), k ≤ 2 ∧ s27 = .int .i64 k ∧ wx.ownsRow wr.heap.size 67 3 s6 m (cellsH zs) ∧ m ≤ k * 400000 ∧ Hid (m = (if k = 0 then 0 else if k = 1 then n1 else n1 + n2) ∧ zs = if k = 0 then [] else if k = 1 then xs else xs ++ ys) ∧ Below wr.heap.size wr wx) (fun _ _ s27 _ => 2 - (intOf s27).toNat)
      case atStart => exact ⟨0, 0, [], by omega, rfl, ho1, by omega, Lib.hid ⟨rfl, rfl⟩, hb1⟩
      case round =>
        clear ho1 hb1 HM CG
        obtain ⟨k, m, zs, hk, rfl, ho, hm, HM, hbw⟩ := hrel
        obtain ⟨A6, c6, rfl⟩ := own_slice ho
        have hc : k = 0 ∨ k = 1 ∨ k = 2 := by omega
        rcases hc with rfl | rfl | rfl
        · obtain ⟨rfl, rfl⟩ : m = 0 ∧ zs = [] := HM.out
          have c0 := ((unhide HB).below hbw hgb).cellS (i := 0) (v := .slice A1 n1 c1) rfl
          have hr1 := unhide HR1 wr hbw
          have hz := hbw.size
          go_wp2_with (at_builtin; (refine wpList_app rfl (.tmp 31) (.tmp 32) _ rfl _ slt_lock (n := 0) (xs := cellsH []) (m := n1) (news := cellsH xs) rfl ho rfl hr1 (oneH _) (by omega) hz ?_); intro v5 w5 hown5 hg5 hb5 hat5 hne5; obtain ⟨A5, c5, rfl⟩ := own_slice hown5)
          have hbw5 := hbw.trans hb5
          go_roundw
          case rel => exact ⟨1, n1, xs, by omega, rfl, by simpa [cellsH] using hown5, by omega, Lib.hid ⟨rfl, rfl⟩, hbw5⟩
          case measure => simp [intOf]
        · obtain ⟨rfl, rfl⟩ : m = n1 ∧ zs = xs := HM.out
          have c0 := ((unhide HB).below hbw hgb).cellS (i := 1) (v := .slice A2 n2 c2) rfl
          have hr2 := unhide HR2 wr hbw
          have hz := hbw.size
          go_wp2_with (at_builtin; (refine wpList_app rfl (.tmp 31) (.tmp 32) _ rfl _ slt_lock (n := m) (xs := cellsH zs) (m := n2) (news := cellsH ys) rfl ho rfl hr2 (oneH _) (by omega) hz ?_); intro v5 w5 hown5 hg5 hb5 hat5 hne5; obtain ⟨A5, c5, rfl⟩ := own_slice hown5)
          have hbw5 := hbw.trans hb5
          rw [← cellsH_append] at hown5
          go_roundw
          case rel => exact ⟨2, m + n2, zs ++ ys, by omega, rfl, hown5, by omega, Lib.hid ⟨rfl, rfl⟩, hbw5⟩
          case measure => simp [intOf]
        · obtain ⟨rfl, rfl⟩ : m = n1 + n2 ∧ zs = xs ++ ys := HM.out
          go_wp2
          go_ret
          exact ⟨_, rfl, ho, hbw⟩
end Go.Proofs.YtbccnafdfeempaaGreatDoor


namespace Go.Proofs.YtbccnafdfeempaaGreatDoor
open Go.RowKit

theorem holdL_len (H : List HOp) (l : HOp) : (holdL H l).length ≤ H.length + 1 := by
  unfold holdL
  split
  · rw [List.length_set]; omega
  · rw [List.length_append]; simp
theorem freeStep_yes {sH sL sO : List HOp} {l : HOp} (h1 : freeB sH l = true) (h2 : freeB sL l = true) : freeStep ⟨sH, sL, sO⟩ l = ⟨holdL sH l, sL, sO ++ [l]⟩ := by unfold freeStep; rw [if_pos (by rw [h1, h2]; rfl)]
theorem freeStep_no1 {sH sL sO : List HOp} {l : HOp} (h1 : freeB sH l = false) : freeStep ⟨sH, sL, sO⟩ l = ⟨sH, sL ++ [l], sO⟩ := by unfold freeStep; rw [if_neg (by rw [h1]; simp)]
theorem freeStep_no2 {sH sL sO : List HOp} {l : HOp} (h1 : freeB sH l = true) (h2 : freeB sL l = false) : freeStep ⟨sH, sL, sO⟩ l = ⟨sH, sL ++ [l], sO⟩ := by unfold freeStep; rw [if_neg (by rw [h1, h2]; simp)]

theorem ob_len (A : Option Addr) (n n' c c' : Nat) : (Value.slice A n c).ownBlock = (Value.slice A n' c').ownBlock := by cases A <;> rfl
/-- What Free leaves. -/
def FreePost (w : World) (lo g : Nat) (v1 v2 : Value) (H W : List HOp) (tx : Int) (e : Ending) (w' : World) : Prop :=
  ∃ vo v1' v2', e = .returned (.tuple #[vo, .nilIface]) ∧ w'.ownsRow w.heap.size 67 3 vo (freeS ⟨H, W⟩ tx).out.length (cellsH (freeS ⟨H, W⟩ tx).out) ∧ Tab w' lo g v1' v2' (freeT ⟨H, W⟩ tx).H (freeT ⟨H, W⟩ tx).W ∧ Kept w w' g v1 v2 v1' v2' ∧ (∀ k, vo.ownBlock = some k → v1'.ownBlock ≠ some k ∧ v2'.ownBlock ≠ some k)

set_option maxRecDepth 100000 in
set_option maxHeartbeats 1000000 in
theorem lfree_walk (lo g : Nat) (v1 v2 : Value) (H W : List HOp) (tx : Int) (w : World) (T : Tab w lo g v1 v2 H W) (hh : H.length ≤ 100000) (hw : W.length ≤ 100000) (hlo : lo ≤ w.heap.size) (htx : txB tx = true) :
    Calls Tryz.prog 36 #[.pointer (some ⟨g, 0, none⟩), .int .i64 tx] w (FreePost w lo g v1 v2 H W tx) := by
  obtain ⟨A1, c1, rfl⟩ := own_slice T.held
  obtain ⟨A2, c2, rfl⟩ := own_slice T.waits
  have hgl := T.blk.lt
  have hb0 : Below w.heap.size w (w.alloc (.cells #[.int .i64 tx] 3)) := (Below.refl _ _).alloc (Nat.le_refl _) _
  have hB0 := Blk.new w 3 [.int .i64 tx]
  have hT0 := T.below hb0
  have k0 := hT0.blk.cellS (i := 0) (v := .slice A1 H.length c1) rfl
  have m0 := hB0.cellS (i := 0) (v := .int .i64 tx) rfl
  have HLO := Lib.hid hlo
  have hz0 : (w.alloc (.cells #[.int .i64 tx] 3)).heap.size = w.heap.size + 1 := by simp
  have HZ0 := Lib.hid hz0
  obtain ⟨nh, hnh⟩ : ∃ nh, H.length = nh := ⟨_, rfl⟩
  obtain ⟨nw, hnw⟩ : ∃ nw, W.length = nw := ⟨_, rfl⟩
  have HNH := Lib.hid hnh
  have HNW := Lib.hid hnw
  have hTH := hT0.held
  have hTW := hT0.waits
  rw [hnh] at hTH k0 hh
  rw [hnw] at hTW hw
  have hne := hT0.ne
  have hbk := hT0.blk
  rw [hnh, hnw] at hbk
  have HTL := Lib.hid T.lo
  have HNE : Hid (∀ n n' c c' k, (Value.slice A1 n c).ownBlock = some k → (Value.slice A2 n' c').ownBlock ≠ some k) := Lib.hid (fun n n' c c' k h e => hne k ((ob_len A1 _ n _ c).trans h) ((ob_len A2 _ n' _ c').trans e))
  clear hnh hnw hz0
  go_enter Tryz.func36, Tryz.ntmps36
  go_wp2_with (go_at_call 54; refine (tx_any _ _).mono ?_; rintro e w' ⟨rfl, rfl⟩; rw [htx])
  generalize w.alloc (.cells #[.int .i64 tx] 3) = w1 at *
  refine Calls.mono (deleteFuncC_lock A1 nh c1 lo H 56 #[.pointer (some ⟨w.heap.size, 0, none⟩)] (fun y => decide (y.tx = tx)) w1 hTH (by have := HZ0.out; omega) (by omega) call_free2 (fun y _ w' hw' => free2_any y w.heap.size tx w' (hB0.chg hw' (fun h => blk_no_row hB0 hTH (by decide) h)))) ?_
  rintro e w2 ⟨m1, rfl, ho2, hm1, hc2⟩
  obtain ⟨F1, hF1⟩ : ∃ F1, H.filter (fun y => !decide (y.tx = tx)) = F1 := ⟨_, rfl⟩
  obtain ⟨F2, hF2⟩ : ∃ F2, W.filter (fun y => !decide (y.tx = tx)) = F2 := ⟨_, rfl⟩
  rw [hF1] at ho2
  have hbk2 := hbk.chg hc2 (fun h => blk_no_row hbk hTH (by decide) h)
  have hTW2 := own_chg hTW hc2 (fun k hk h => HNE.out _ _ _ _ k h hk)
  have hB2 := hB0.chg hc2 (fun h => blk_no_row hB0 hTH (by decide) h)
  have hcap := (own_cap hTW).2
  have k0' := hbk2.cellS (i := 0) (v := .slice A1 nh c1) rfl
  have k1' := hbk2.cellS (i := 1) (v := .slice A2 nw c2) rfl
  have kf0 := hbk2.frozen 0
  have hbk3 := hbk2.put 0 (.slice A1 m1 c1)
  have ho3 := own_set_blk ho2 hbk2 (by decide) 0 (.slice A1 m1 c1)
  have hTW3 := own_set_blk hTW2 hbk2 (by decide) 0 (.slice A1 m1 c1)
  have hB3 := hB2.far (p := ⟨g, 0, none⟩) (by show w.heap.size ≠ g; omega) (.slice A1 m1 c1)
  have hchg3 : Chg (fun k => k = g ∨ (Value.slice A1 H.length c1).ownBlock = some k ∨ (Value.slice A2 W.length c2).ownBlock = some k) w (w2.setCell ⟨g, 0, none⟩ (.slice A1 m1 c1)) := ((Chg.of_below hb0).next hc2 (fun k hk => .inl (.inr (.inl ((ob_len A1 _ _ _ _).trans hk))))).set (p := ⟨g, 0, none⟩) (.inl (.inl rfl)) _
  have hs3 : lo ≤ (w2.setCell ⟨g, 0, none⟩ (.slice A1 m1 c1)).heap.size := Nat.le_trans HLO.out hchg3.size
  have n0 := hbk3.cellS (i := 1) (v := .slice A2 nw c2) rfl
  clear hTH hTW hbk hbk2 hTW2 ho2 hB2 hc2 hT0 hb0 hB0 m0 k0
  go_wp2_with fail
  generalize w2.setCell ⟨g, 0, none⟩ (.slice A1 m1 c1) = w3 at *
  refine Calls.mono (deleteFuncC_lock A2 nw c2 lo W 56 #[.pointer (some ⟨w.heap.size, 0, none⟩)] (fun y => decide (y.tx = tx)) w3 hTW3 hs3 (by omega) call_free2 (fun y _ w' hw' => free2_any y w.heap.size tx w' (hB3.chg hw' (fun h => blk_no_row hB3 hTW3 (by decide) h)))) ?_
  rintro e w4 ⟨m2, rfl, ho4, hm2, hc4⟩
  rw [hF2] at ho4
  obtain ⟨ys, hL⟩ := own_long ho4 hcap
  have hF0 : FreeH w w4 w4 lo g (.slice A1 H.length c1) (.slice A1 m1 c1) (.slice A2 nw c2) F1 [] [] nw (.slice none 0 0) (.slice none 0 0) := by
    have h3 := own_chg ho3 hc4 (fun k hk h => HNE.out _ _ _ _ k hk h)
    refine ⟨⟨ys, hbk3.chg hc4 (fun h => blk_no_row hbk3 hTW3 (by decide) h), ?_, hL, HNE.out _ _ _ _, HTL.out⟩, World.ownsRow_nil _ _ _ _, World.ownsRow_nil _ _ _ _, fun k hk => (by cases hk), fun k _ hk => (by cases hk), fun k _ hk => (by cases hk), hchg3.next hc4 (fun k hk => .inl (.inr (.inr ((ob_len A2 _ _ _ _).trans hk)))) |>.mono (fun k hk => .inl (hk.imp id (Or.imp id (fun h => (ob_len A2 _ _ _ _).trans h)))), .inl (ob_len A1 _ _ _ _), fun k hk => (T.waits.lt k ((ob_len A2 _ _ _ _).trans hk)).2, fun _ _ => rfl⟩
    rw [(rd_own h3).hlen]; exact h3
  have hE : Hid (freeS ⟨H, W⟩ tx = (F2.drop 0).foldl freeStep ⟨F1, [], []⟩) := Lib.hid (by rw [← hF1, ← hF2]; rfl)
  have hl1 : F1.length ≤ 100000 := by rw [(rd_own ho3).hlen]; have := hm1; omega
  have hl2 : Hid (F2.length = m2) := Lib.hid (rd_own ho4).hlen
  have hm3 : m2 ≤ 100000 := by omega
  clear hF1 hF2 hL ho3 hTW3 hB3 hbk3 hchg3 k0' k1' kf0 n0 hc4
  have HO4 := hide ho4
  clear ho4
  go_wp2
  go_loopw [7, 8, 32] (fun s7 s8 s32 wr => ∃ (k : Nat) (sH sL sO : List HOp) (v1' : Value), k ≤ m2 ∧ s32 = .int .i64 k ∧ FreeH w w4 wr lo g (.slice A1 H.length c1) v1' (.slice A2 nw c2) sH sL sO nw s8 s7 ∧ Hid (freeS ⟨H, W⟩ tx = (F2.drop k).foldl freeStep ⟨sH, sL, sO⟩) ∧ Hid (sH.length ≤ 100000 + k ∧ sL.length ≤ k ∧ sO.length ≤ k)) (fun _ _ s32 _ => m2 - (intOf s32).toNat)
  case atStart => exact ⟨0, F1, [], [], _, Nat.zero_le _, rfl, hF0, hE, Lib.hid ⟨by omega, by simp, by simp⟩⟩
  case round =>
    clear hF0 hE hl1
    obtain ⟨k, sH, sL, sO, v1', hk, rfl, hF, HE, HLN⟩ := hrel
    have hrow := own_same (unhide HO4) (fun k hk => hF.keep2 k ((ob_len A2 _ _ _ _).trans hk))
    obtain ⟨A1', c1', rfl⟩ := own_slice hF.held
    obtain ⟨AL, cL, rfl⟩ := own_slice hF.left
    obtain ⟨AO, cO, rfl⟩ := own_slice hF.out
    by_cases hlt : k < m2
    · obtain ⟨b, off, l, he, hb, hl, x0, x1, x2⟩ := (rd_own hrow).op (k := k) hlt
      cases he
      have HS : Hid (freeS ⟨H, W⟩ tx = (F2.drop (k + 1)).foldl freeStep (freeStep ⟨sH, sL, sO⟩ l)) := Lib.hid (by rw [HE.out, drop_at hl]; rfl)
      obtain ⟨l1, l2, l3⟩ := l
      simp only at x0 x1 x2
      have hbx : Below wr.heap.size wr (wr.alloc (.cells #[.int .i64 l1, .int .i64 l2, .int .i64 l3] 67)) := (Below.refl _ _).alloc (Nat.le_refl _) _
      have hFx := hF.below hbx
      have hBx := Blk.new wr 67 [.int .i64 l1, .int .i64 l2, .int .i64 l3]
      obtain ⟨nH, hnH⟩ : ∃ nH, sH.length = nH := ⟨_, rfl⟩
      obtain ⟨nL, hnL⟩ : ∃ nL, sL.length = nL := ⟨_, rfl⟩
      obtain ⟨nO, hnO⟩ : ∃ nO, sO.length = nO := ⟨_, rfl⟩
      have hlens := HLN.out
      have hgx1 : ∀ j, (Value.slice A1' nH c1').ownBlock = some j → j < wr.heap.size := fun j hj => (hF.held.lt j ((ob_len A1' _ _ _ _).trans hj)).2
      have hgx2 := hF.blk.lt
      have hsz := hF.chg.size
      rw [hnH, hnL, hnO] at hlens hFx
      rw [hnL, hnO]
      obtain ⟨q1, q2, q3⟩ := hlens
      clear hl hF hrow HE HLN
      have hzx : (wr.alloc (.cells #[.int .i64 l1, .int .i64 l2, .int .i64 l3] 67)).heap.size = wr.heap.size + 1 := by simp
      have HZX := Lib.hid hzx
      have y0 := hBx.cellS (i := 0) (v := .int .i64 l1) rfl
      have y1 := hBx.cellS (i := 1) (v := .int .i64 l2) rfl
      have y2 := hBx.cellS (i := 2) (v := .int .i64 l3) rfl
      have z0 := hFx.blk.cellS (i := 0) (v := .slice A1' nH c1') rfl
      have HNH2 := Lib.hid hnH
      have HNL2 := Lib.hid hnL
      have HNO2 := Lib.hid hnO
      clear hzx hnH hnL hnO hbx
      go_wp2_with fail
      generalize wr.alloc (.cells #[.int .i64 l1, .int .i64 l2, .int .i64 l3] 67) = wx at *
      have CH := hide (fun w1 (hb : Below wx.heap.size wx w1) => lfree_any A1' nH c1' sH ⟨l1, l2, l3⟩ w1 (by
        have h1 := hFx.held
        rw [HNH2.out] at h1
        exact ((rd_own h1).below hb).more hb.size) (by omega))
      have CL := hide (fun w1 (hb : Below wx.heap.size wx w1) => lfree_any AL nL cL sL ⟨l1, l2, l3⟩ w1 (by
        have h1 := hFx.left
        rw [HNL2.out] at h1
        exact ((rd_own h1).below hb).more hb.size) (by omega))
      unfold HOp.val at CH CL
      have hd0 : Below wx.heap.size wx wx.drew := (Below.refl _ _).drew
      have hc4 : wx.drew.cell? ⟨g, 0, none⟩ = some (.slice A1' nH c1') ∧ wx.drew.cell? ⟨wr.heap.size, 0, none⟩ = some (.int .i64 l1) ∧ wx.drew.cell? ⟨wr.heap.size, 1, none⟩ = some (.int .i64 l2) ∧ wx.drew.cell? ⟨wr.heap.size, 2, none⟩ = some (.int .i64 l3) := ⟨z0, y0, y1, y2⟩
      have hgxl := hBx.lt
      have hgl2 : g < wx.heap.size := hFx.blk.lt
      have KEEP := hide (fun (w' : World) (hb : Below wx.heap.size wx w') => show w'.cell? ⟨g, 0, none⟩ = some (.slice A1' nH c1') ∧ w'.cell? ⟨wr.heap.size, 0, none⟩ = some (.int .i64 l1) ∧ w'.cell? ⟨wr.heap.size, 1, none⟩ = some (.int .i64 l2) ∧ w'.cell? ⟨wr.heap.size, 2, none⟩ = some (.int .i64 l3) from
        ⟨(hb.cell (p := ⟨g, 0, none⟩) hgl2).trans z0, (hb.cell (p := ⟨wr.heap.size, 0, none⟩) hgxl).trans y0, (hb.cell (p := ⟨wr.heap.size, 1, none⟩) hgxl).trans y1, (hb.cell (p := ⟨wr.heap.size, 2, none⟩) hgxl).trans y2⟩)
      have hzw : w.heap.size ≤ wx.heap.size := by have := HZX.out; omega
      have hlow : lo ≤ w.heap.size := HLO.out
      cases hq1 : freeB sH ⟨l1, l2, l3⟩
      · have HST := Lib.hid (freeStep_no1 (sL := sL) (sO := sO) hq1)
        refine wp_region_held_drew (S := (fun w' => w'.cell? ⟨g, 0, none⟩ = some (.slice A1' nH c1') ∧ w'.cell? ⟨wr.heap.size, 0, none⟩ = some (.int .i64 l1) ∧ w'.cell? ⟨wr.heap.size, 1, none⟩ = some (.int .i64 l2) ∧ w'.cell? ⟨wr.heap.size, 2, none⟩ = some (.int .i64 l3))) (by kernel_rfl) hc4 (fun hHeld => ?_)
        refine wpAnyH_takeD 0 (some 36) (.pointer (some ⟨g, 0, none⟩)) rfl rfl (by kernel_rfl) (by kernel_rfl) (by kernel_rfl) (fun _ _ _ h => h) (Or.inl ⟨by rfl, fun _ _ => by go_simp; try rfl⟩) (by assumption) ?_
        refine wpAnyH_takeD 1 (some 37) (.pointer (some ⟨g, 0, none⟩)) rfl rfl (by kernel_rfl) (by kernel_rfl) (by kernel_rfl) (fun _ _ _ h => h) (Or.inl ⟨by rfl, fun _ _ => by go_simp; try rfl⟩) (by assumption) ?_
        refine wpAnyH_takeD 2 (some 38) (.pointer (some ⟨g, 0, none⟩)) rfl rfl (by kernel_rfl) (by kernel_rfl) (by kernel_rfl) (fun _ _ _ h => h) (Or.inl ⟨by rfl, fun _ _ => by go_simp; try rfl⟩) (by assumption) ?_
        refine wpAnyH_takeD 3 (some 39) (.slice A1' nH c1') rfl rfl (by kernel_rfl) (by kernel_rfl) (by kernel_rfl) (fun _ _ _ h => h) (Or.inl ⟨by rfl, fun wz hz => by obtain ⟨_, _, _, _⟩ := hz; go_simp; try rfl⟩) (by assumption) ?_
        refine wpAnyH_takeD 4 (some 40) (.agg #[.int .i64 l1, .int .i64 l2, .int .i64 l3]) rfl rfl (by kernel_rfl) (by kernel_rfl) (by kernel_rfl) (fun _ _ _ h => h) (Or.inl ⟨by rfl, fun wz hz => by obtain ⟨_, _, _, _⟩ := hz; go_simp; try rfl⟩) (by assumption) ?_
        simp only [Act.put, List.setIfInBounds_toArray, List.set_cons_zero, List.set_cons_succ]
        refine wpAnyH_ready (rs := [5]) (by kernel_rfl) (by simp) ?_
        refine AllReadyH.cons (o := { dst := some 41, op := .call { callee := .value (.func 41), args := #[.tmp 39, .tmp 40], argTypes := #[38, 67] }, type := 4, pos := "locks.go:98", after := #[{ on := 3, ground := .data }, { on := 4, ground := .data }], guard := none }) rfl (fun K hK => ?_) AllReadyH.nil
        go_simp
        go_at_call 41
        refine (unhide CH _ hd0).mono ?_
        rintro e w5 ⟨rfl, hb5⟩
        rw [hq1]
        have hd5 := hd0.trans hb5
        have hc5 := unhide KEEP _ hd5
        refine hK.out _ _ hc5 (fun hHeld5 => ?_)
        clear hK K
        refine wpAnyH_takeD 6 (some 42) (.bool false) rfl rfl (by kernel_rfl) (by kernel_rfl) (by kernel_rfl) (fun _ _ _ h => h) (Or.inl ⟨by rfl, fun _ _ => by go_simp; try rfl⟩) (by assumption) ?_
        refine wpAnyH_takeD 7 (some 43) (undef) rfl rfl (by kernel_rfl) (by kernel_rfl) (by kernel_rfl) (fun _ _ _ h => h) (Or.inr ⟨by rfl, rfl⟩) (by assumption) ?_
        refine wpAnyH_takeD 8 (some 44) (undef) rfl rfl (by kernel_rfl) (by kernel_rfl) (by kernel_rfl) (fun _ _ _ h => h) (Or.inr ⟨by rfl, rfl⟩) (by assumption) ?_
        refine wpAnyH_takeD 9 (some 45) (undef) rfl rfl (by kernel_rfl) (by kernel_rfl) (by kernel_rfl) (fun _ _ _ h => h) (Or.inr ⟨by rfl, rfl⟩) (by assumption) ?_
        refine wpAnyH_takeD 10 (some 46) (.bool false) rfl rfl (by kernel_rfl) (by kernel_rfl) (by kernel_rfl) (fun _ _ _ h => h) (Or.inl ⟨by rfl, fun _ _ => by go_simp; try rfl⟩) (by assumption) ?_
        simp only [Act.put, List.setIfInBounds_toArray, List.set_cons_zero, List.set_cons_succ]
        refine wpAnyH_done (by kernel_rfl) ?_ _
        have hF5 := hFx.below hd5
        obtain ⟨_, y0', y1', y2'⟩ := hc5
        have hO7 := hF5.left
        rw [HNL2.out] at hO7
        have hz7 := hF5.chg.size
        go_wp2_with (at_builtin; (refine wpList_app rfl (.tmp 54) (.tmp 56) _ rfl w.heap.size slt_lock (n := nL) (xs := cellsH sL) (m := 1) (news := cellsH [⟨l1, l2, l3⟩]) rfl (own_alloc hO7 _) rfl (rd_new' _ _ (cellsH [⟨l1, l2, l3⟩]) (by simp) rfl) (oneH _) (by omega) (by simp; omega) ?_); intro v8 w8 hown8 hg8 hb8 hat8 hne8; obtain ⟨A8, c8, rfl⟩ := own_slice hown8)
        have hF8 := (hF5.below ((Below.refl _ _).alloc (Nat.le_refl _) _)).lefts (l := ⟨l1, l2, l3⟩) (by rw [HNL2.out, cellsH_append]; exact hown8) hg8 hat8
        have HE8 : Hid (freeS ⟨H, W⟩ tx = (F2.drop (k + 1)).foldl freeStep ⟨sH, sL ++ [⟨l1, l2, l3⟩], sO⟩) := Lib.hid (by rw [HS.out, HST.out])
        have HN8 : Hid (sH.length ≤ 100000 + (k + 1) ∧ (sL ++ [(⟨l1, l2, l3⟩ : HOp)]).length ≤ k + 1 ∧ sO.length ≤ k + 1) := Lib.hid (by
          have h2 := HNH2.out
          have h3 := HNL2.out
          have h4 := HNO2.out
          rw [List.length_append]; simp; omega)
        go_roundw
        case rel => exact ⟨k + 1, _, _, _, _, by omega, by go_num, hF8, HE8, HN8⟩
        case measure => simp [intOf]; omega
      · cases hq2 : freeB sL ⟨l1, l2, l3⟩
        · have HST := Lib.hid (freeStep_no2 (sO := sO) hq1 hq2)
          go_region_held3 (fun w' => w'.cell? ⟨g, 0, none⟩ = some (.slice A1' nH c1') ∧ w'.cell? ⟨wr.heap.size, 0, none⟩ = some (.int .i64 l1) ∧ w'.cell? ⟨wr.heap.size, 1, none⟩ = some (.int .i64 l2) ∧ w'.cell? ⟨wr.heap.size, 2, none⟩ = some (.int .i64 l3)) (first | exact hc4 | exact hc5 | exact hc6 | go_keep)
            (first
              | (go_at_call 41; refine (unhide CH _ hd0).mono ?_; rintro e w5 ⟨rfl, hb5⟩; rw [hq1]; have hd5 := hd0.trans hb5; have hc5 := unhide KEEP _ hd5)
              | (go_at_call 41; refine (unhide CL _ hd5).mono ?_; rintro e w6 ⟨rfl, hb6⟩; rw [hq2]; have hd6 := hd5.trans (hb6.mono hd5.size); have hc6 := unhide KEEP _ hd6))
          have hF6 := hFx.below hd6
          obtain ⟨_, y0', y1', y2'⟩ := hc6
          have hO7 := hF6.left
          rw [HNL2.out] at hO7
          have hz7 := hF6.chg.size
          go_wp2_with (at_builtin; (refine wpList_app rfl (.tmp 54) (.tmp 56) _ rfl w.heap.size slt_lock (n := nL) (xs := cellsH sL) (m := 1) (news := cellsH [⟨l1, l2, l3⟩]) rfl (own_alloc hO7 _) rfl (rd_new' _ _ (cellsH [⟨l1, l2, l3⟩]) (by simp) rfl) (oneH _) (by omega) (by simp; omega) ?_); intro v8 w8 hown8 hg8 hb8 hat8 hne8; obtain ⟨A8, c8, rfl⟩ := own_slice hown8)
          have hF8 := (hF6.below ((Below.refl _ _).alloc (Nat.le_refl _) _)).lefts (l := ⟨l1, l2, l3⟩) (by rw [HNL2.out, cellsH_append]; exact hown8) hg8 hat8
          have HE8 : Hid (freeS ⟨H, W⟩ tx = (F2.drop (k + 1)).foldl freeStep ⟨sH, sL ++ [⟨l1, l2, l3⟩], sO⟩) := Lib.hid (by rw [HS.out, HST.out])
          have HN8 : Hid (sH.length ≤ 100000 + (k + 1) ∧ (sL ++ [(⟨l1, l2, l3⟩ : HOp)]).length ≤ k + 1 ∧ sO.length ≤ k + 1) := Lib.hid (by
            have h2 := HNH2.out
            have h3 := HNL2.out
            have h4 := HNO2.out
            rw [List.length_append]; simp; omega)
          go_roundw
          case rel => exact ⟨k + 1, _, _, _, _, by omega, by go_num, hF8, HE8, HN8⟩
          case measure => simp [intOf]; omega
        · have HST := Lib.hid (freeStep_yes (sO := sO) hq1 hq2)
          go_region_held3 (fun w' => w'.cell? ⟨g, 0, none⟩ = some (.slice A1' nH c1') ∧ w'.cell? ⟨wr.heap.size, 0, none⟩ = some (.int .i64 l1) ∧ w'.cell? ⟨wr.heap.size, 1, none⟩ = some (.int .i64 l2) ∧ w'.cell? ⟨wr.heap.size, 2, none⟩ = some (.int .i64 l3)) (first | exact hc4 | exact hc5 | exact hc6 | go_keep)
            (first
              | (go_at_call 41; refine (unhide CH _ hd0).mono ?_; rintro e w5 ⟨rfl, hb5⟩; rw [hq1]; have hd5 := hd0.trans hb5; have hc5 := unhide KEEP _ hd5)
              | (go_at_call 41; refine (unhide CL _ hd5).mono ?_; rintro e w6 ⟨rfl, hb6⟩; rw [hq2]; have hd6 := hd5.trans (hb6.mono hd5.size); have hc6 := unhide KEEP _ hd6))
          have hF6 := hFx.below hd6
          obtain ⟨ys6, T6⟩ := hF6.tab
          have CHo := hide (holdR_any lo g _ _ sH nw ys6 ⟨l1, l2, l3⟩ w6 T6 (by rw [HNH2.out]; omega) (by have := hd6.size; omega))
          unfold HOp.val at CHo
          obtain ⟨_, y0', y1', y2'⟩ := hc6
          have hB6 := hBx.below hd6 hgxl
          go_wp2_with fail
          refine (unhide CHo).mono ?_
          rintro e w7 ⟨v, v1'', rfl, hT7, hc7, hn7⟩
          have hF7 := hF6.hold hT7 hc7 hn7
          have hB7 := hB6.chg hc7 (fun h => by
            rcases h with h | h
            · omega
            · have := hgx1 _ h; omega)
          have y0'' := hB7.cellS (i := 0) (v := .int .i64 l1) rfl
          have y1'' := hB7.cellS (i := 1) (v := .int .i64 l2) rfl
          have y2'' := hB7.cellS (i := 2) (v := .int .i64 l3) rfl
          have hO7 := hF7.out
          rw [HNO2.out] at hO7
          have hz7 := hF7.chg.size
          clear y0' y1' y2' CHo hB6 hc7 hn7
          go_wp2_with (at_builtin; (refine wpList_app rfl (.tmp 50) (.tmp 52) _ rfl w.heap.size slt_lock (n := nO) (xs := cellsH sO) (m := 1) (news := cellsH [⟨l1, l2, l3⟩]) rfl (own_alloc hO7 _) rfl (rd_new' _ _ (cellsH [⟨l1, l2, l3⟩]) (by simp) rfl) (oneH _) (by omega) (by simp; omega) ?_); intro v8 w8 hown8 hg8 hb8 hat8 hne8; obtain ⟨A8, c8, rfl⟩ := own_slice hown8)
          have hF8 := (hF7.below ((Below.refl _ _).alloc (Nat.le_refl _) _)).outs (l := ⟨l1, l2, l3⟩) (by rw [HNO2.out, cellsH_append]; exact hown8) hg8 hat8
          have HE8 : Hid (freeS ⟨H, W⟩ tx = (F2.drop (k + 1)).foldl freeStep ⟨holdL sH ⟨l1, l2, l3⟩, sL, sO ++ [⟨l1, l2, l3⟩]⟩) := Lib.hid (by rw [HS.out, HST.out])
          have HN8 : Hid ((holdL sH ⟨l1, l2, l3⟩).length ≤ 100000 + (k + 1) ∧ sL.length ≤ k + 1 ∧ (sO ++ [(⟨l1, l2, l3⟩ : HOp)]).length ≤ k + 1) := Lib.hid (by
            have h1 := holdL_len sH ⟨l1, l2, l3⟩
            have h2 := HNH2.out
            have h3 := HNL2.out
            have h4 := HNO2.out
            rw [List.length_append]; simp; omega)
          go_roundw
          case rel => exact ⟨k + 1, _, _, _, v1'', by omega, by go_num, hF8, HE8, HN8⟩
          case measure => simp [intOf]; omega
    · have HEND : Hid (freeS ⟨H, W⟩ tx = ⟨sH, sL, sO⟩) := Lib.hid (by rw [HE.out, drop_end (by rw [hl2.out]; omega)]; rfl)
      have hblk := hF.blk
      have k1 := hblk.cellS (i := 1) (v := .slice A2 nw c2) rfl
      have kf1 := hblk.frozen 1
      have hgl3 := hblk.lt
      have hT5 : Tab (wr.setCell ⟨g, 1, none⟩ (.slice AL sL.length cL)) lo g (.slice A1' sH.length c1') (.slice AL sL.length cL) sH sL :=
        ⟨hblk.put 1 _, own_set_blk hF.held hblk (by decide) 1 _, own_set_blk (own_mono hF.left HLO.out) hblk (by decide) 1 _, hF.ne1L, HTL.out⟩
      have hO5 := own_set_blk hF.out hblk (by decide) 1 (.slice AL sL.length cL)
      have hc5 := hF.chg.set (p := ⟨g, 1, none⟩) (.inl (.inl rfl)) (.slice AL sL.length cL)
      have hold := hF.old
      have hneO : ∀ k, (Value.slice AO sO.length cO).ownBlock = some k → (Value.slice A1' sH.length c1').ownBlock ≠ some k ∧ (Value.slice AL sL.length cL).ownBlock ≠ some k := fun k hk => ⟨fun e => hF.ne1O k e hk, fun e => hF.neLO k e hk⟩
      have hnL : (Value.slice AL sL.length cL).ownBlock = none ∨ ∃ k, (Value.slice AL sL.length cL).ownBlock = some k ∧ w.heap.size ≤ k := by
        cases hv : (Value.slice AL sL.length cL).ownBlock with
        | none => exact .inl rfl
        | some k => exact .inr ⟨k, rfl, (hF.left.lt k hv).1⟩
      have HALL := hide (And.intro hT5 (And.intro hO5 (And.intro hc5 (And.intro hold (And.intro hneO hnL)))))
      clear hT5 hO5 hc5 hold hneO hnL hF HE hrow
      go_wp2
      go_ret2
      obtain ⟨h1, h2, h3, h4, h5, h6⟩ := unhide HALL
      refine ⟨_, _, _, rfl, by rw [HEND.out]; exact h2, ?_, ⟨h3.mono (fun k hk => .inl (hk.imp id (Or.imp id fun h => (ob_len _ _ _ _ _).trans h))), h4, .inr h6⟩, h5⟩
      have e1 : (freeT ⟨H, W⟩ tx).H = sH := by unfold freeT; rw [HEND.out]
      have e2 : (freeT ⟨H, W⟩ tx).W = sL := by unfold freeT; rw [HEND.out]
      rw [e1, e2]
      exact h1
end Go.Proofs.YtbccnafdfeempaaGreatDoor


/-
  CONTRACTS of slices.Grow of none and slices.Concat of two, at locks.
-/
import Derived.Test.YtjbgjgmdgjnbfaaDoorLaysG
import Derived.Test.YtjbgjgmdgjnbfaaDoorLocks
import Derived.Deep.QuietTactic

namespace Go.Proofs.YtjbgjgmdgjnbfaaDoor
open Go.RowKit Go.Shelf

theorem lock_info : ∃ i0 z, Tryd.prog.info? 60 = some i0 ∧ i0.zero = some z ∧ i0.size = 3 ∧ i0.bytes = 24 ∧ z.cells.size = 3 := by
  have h : (Tryd.prog.info? 60).map (fun i => (i.zero, i.size, i.bytes)) = some (some (.agg #[.int .i64 0, .int .i64 0, .int .i64 0]), 3, 24) := by kernel_rfl
  cases hi : Tryd.prog.info? 60 with
  | none => rw [hi] at h; cases h
  | some i0 =>
    rw [hi] at h
    simp only [Option.map_some, Option.some.injEq, Prod.mk.injEq] at h
    exact ⟨i0, _, rfl, h.1, h.2.1, h.2.2, rfl⟩
theorem grow_lock (n : Nat) (hn : n ≤ 1000000) (w : World) :
    Calls Tryd.prog 54 #[.slice none 0 0, .int .i64 n] w fun e w' => ∃ v, e = .returned v ∧ w'.ownsRow w.heap.size 60 3 v 0 [] ∧ Below w.heap.size w w' := by
  rcases Nat.eq_zero_or_pos n with rfl | hp
  · refine (Any8.slices_Grow_room Tryd.lGrowL none 0 0 0 w (by omega) (by omega) (by omega) (by omega)).mono ?_
    rintro e w' ⟨rfl, rfl⟩
    exact ⟨_, rfl, World.ownsRow_nil _ _ _ _, Below.refl _ _⟩
  · obtain ⟨i0, z, h1, h2, h3, h4, h5⟩ := lock_info
    refine (Any8.slices_Grow_grow Tryd.lGrowL i0 z h1 h2 (by omega) none 0 0 n [] w (by omega) (by omega) (by rw [h4]; omega) (by omega) (by simp) (fun _ => rfl) (fun a ha => by cases ha)).mono ?_
    rintro e w' ⟨rfl, rfl⟩
    have hge := grownCap_ge w (0 + n) 0 (Tryd.lGrowL_ren.t 25)
    have hle := grownCap_le_maxLen w (0 + n) 0 (Tryd.lGrowL_ren.t 25) (by unfold maxLen; omega)
    generalize grownCap w (0 + n) 0 (Tryd.lGrowL_ren.t 25) = G at *
    refine ⟨_, rfl, ?_, ((Below.refl w.heap.size w).drew).alloc (Nat.le_refl _) _⟩
    refine World.ownsRow_made w.drew _ _ (Nat.le_refl _) hle ?_
    show (#[] ++ Builtin.zeroCells z.cells (0 + n - 0) ++ Builtin.zeroCells z.cells (G - (0 + n))).size = G * 3
    rw [Array.size_append, Array.size_append, size_zeroCells, size_zeroCells, h5]
    simp
    omega

set_option maxRecDepth 100000 in
set_option maxHeartbeats 1000000 in
theorem concat_lock (gb : Nat) (A1 A2 : Option Addr) (n1 c1 n2 c2 : Nat) (xs ys : List HOp) (w : World) (hB : Blk w gb 52 [.slice A1 n1 c1, .slice A2 n2 c2]) (h1 : Rd w w.heap.size 3 A1 n1 (cellsH xs)) (h2 : Rd w w.heap.size 3 A2 n2 (cellsH ys)) (hn1 : n1 ≤ 400000) (hn2 : n2 ≤ 400000) :
    Calls Tryd.prog 51 #[.slice (some ⟨gb, 0, none⟩) 2 2] w fun e w' => ∃ v, e = .returned v ∧ w'.ownsRow w.heap.size 60 3 v (n1 + n2) (cellsH (xs ++ ys)) ∧ Below w.heap.size w w' := by
  have HR1 := hide (fun w' (hb : Below w.heap.size w w') => (h1.below hb).more hb.size)
  have HR2 := hide (fun w' (hb : Below w.heap.size w w') => (h2.below hb).more hb.size)
  have HB := hide hB
  have hgb := hB.lt
  clear h1 h2 hB
  go_enter Tryd.func51, Tryd.ntmps51
  go_wp2
  go_loopw [3, 5, 11] (fun s3 s5 s11 wr => ∃ (k m : Nat), k ≤ 2 ∧ s11 = .int .i64 k ∧ s3 = .int .i64 m ∧ wr = w ∧ Hid (m = if k = 0 then 0 else if k = 1 then n1 else n1 + n2)) (fun _ _ s11 _ => 2 - (intOf s11).toNat)
  case atStart => exact ⟨0, 0, by omega, rfl, rfl, by first | rfl | trivial, Lib.hid rfl⟩
  case round =>
    obtain ⟨k, m, hk, rfl, rfl, rfl, HM⟩ := hrel
    have hc : k = 0 ∨ k = 1 ∨ k = 2 := by omega
    rcases hc with rfl | rfl | rfl
    · obtain rfl : m = 0 := HM.out
      have c0 := (unhide HB).cellS (i := 0) (v := .slice A1 n1 c1) rfl
      go_wp2
      go_roundw
      case rel => exact ⟨1, n1, by omega, rfl, by simp, by first | rfl | trivial, Lib.hid rfl⟩
      case measure => simp [intOf]
    · obtain rfl : m = n1 := HM.out
      have c0 := (unhide HB).cellS (i := 1) (v := .slice A2 n2 c2) rfl
      go_wp2
      go_roundw
      case rel => exact ⟨2, m + n2, by omega, rfl, by go_num, by first | rfl | trivial, Lib.hid rfl⟩
      case measure => simp [intOf]
    · obtain rfl : m = n1 + n2 := HM.out
      have CG := hide (grow_lock (n1 + n2) (by omega) wr)
      go_wp2_with fail
      refine (unhide CG).mono ?_
      rintro e w1 ⟨v1, rfl, ho1, hb1⟩
      go_wp2
      go_loopw [6, 8, 27] (fun s6 s8 s27 wx => ∃ (k m : Nat) (zs : List HOp), k ≤ 2 ∧ s27 = .int .i64 k ∧ wx.ownsRow wr.heap.size 60 3 s6 m (cellsH zs) ∧ m ≤ k * 400000 ∧ Hid (m = (if k = 0 then 0 else if k = 1 then n1 else n1 + n2) ∧ zs = if k = 0 then [] else if k = 1 then xs else xs ++ ys) ∧ Below wr.heap.size wr wx) (fun _ _ s27 _ => 2 - (intOf s27).toNat)
      case atStart => exact ⟨0, 0, [], by omega, rfl, ho1, by omega, Lib.hid ⟨rfl, rfl⟩, hb1⟩
      case round =>
        clear ho1 hb1 HM CG
        obtain ⟨k, m, zs, hk, rfl, ho, hm, HM, hbw⟩ := hrel
        obtain ⟨A6, c6, rfl⟩ := own_slice ho
        have hc : k = 0 ∨ k = 1 ∨ k = 2 := by omega
        rcases hc with rfl | rfl | rfl
        · obtain ⟨rfl, rfl⟩ : m = 0 ∧ zs = [] := HM.out
          have c0 := ((unhide HB).below hbw hgb).cellS (i := 0) (v := .slice A1 n1 c1) rfl
          have hr1 := unhide HR1 wr hbw
          have hz := hbw.size
          go_wp2_with (at_builtin; (refine wpList_app rfl (.tmp 31) (.tmp 32) _ rfl _ slt_lock (n := 0) (xs := cellsH []) (m := n1) (news := cellsH xs) rfl ho rfl hr1 (oneH _) (by omega) hz ?_); intro v5 w5 hown5 hg5 hb5 hat5 hne5; obtain ⟨A5, c5, rfl⟩ := own_slice hown5)
          have hbw5 := hbw.trans hb5
          go_roundw
          case rel => exact ⟨1, n1, xs, by omega, rfl, by simpa [cellsH] using hown5, by omega, Lib.hid ⟨rfl, rfl⟩, hbw5⟩
          case measure => simp [intOf]
        · obtain ⟨rfl, rfl⟩ : m = n1 ∧ zs = xs := HM.out
          have c0 := ((unhide HB).below hbw hgb).cellS (i := 1) (v := .slice A2 n2 c2) rfl
          have hr2 := unhide HR2 wr hbw
          have hz := hbw.size
          go_wp2_with (at_builtin; (refine wpList_app rfl (.tmp 31) (.tmp 32) _ rfl _ slt_lock (n := m) (xs := cellsH zs) (m := n2) (news := cellsH ys) rfl ho rfl hr2 (oneH _) (by omega) hz ?_); intro v5 w5 hown5 hg5 hb5 hat5 hne5; obtain ⟨A5, c5, rfl⟩ := own_slice hown5)
          have hbw5 := hbw.trans hb5
          rw [← cellsH_append] at hown5
          go_roundw
          case rel => exact ⟨2, m + n2, zs ++ ys, by omega, rfl, hown5, by omega, Lib.hid ⟨rfl, rfl⟩, hbw5⟩
          case measure => simp [intOf]
        · obtain ⟨rfl, rfl⟩ : m = n1 + n2 ∧ zs = xs ++ ys := HM.out
          go_wp2
          go_ret
          exact ⟨_, rfl, ho, hbw⟩
end Go.Proofs.YtjbgjgmdgjnbfaaDoor

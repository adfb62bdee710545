
/-
  CONTRACTS of log.New, step, Do, Sync, Fail, All, Bytes, Safe.
-/
import Derived.Test.YtahbaddclacakaaDoorLogP
import Derived.Test.YtahbaddclacakaaDoorPrint
import Derived.Test.YtahbaddclacakaaDoorN0
import Derived.Test.YtahbaddclacakaaDoorRead
import Derived.Test.YtahbaddclacakaaDoorSP1
import Derived.Deep.DeepCutAuto

namespace Go.Proofs.YtahbaddclacakaaDoor
open Go.RowKit

/-- A log in the heap: block g; its row of ops behind it. -/
def LogB (w : World) (g : Nat) (s : LogSt) : Prop := ∃ A n c, Blk w g 55 [.slice A n c, .string ⟨s.b.toArray⟩, .int .i64 s.safe, .int .i64 s.left, .bool s.st] ∧ w.ownsRow (g + 1) 28 3 (.slice A n c) n (cellsH s.h)
theorem LogB.lt {w : World} {g : Nat} {s : LogSt} (h : LogB w g s) : g < w.heap.size := by
  obtain ⟨A, n, c, h1, _⟩ := h
  exact h1.lt
theorem LogB.below {w w' : World} {g B : Nat} {s : LogSt} (h : LogB w g s) (hb : Below B w w') (hB : w.heap.size ≤ B) : LogB w' g s := by
  obtain ⟨A, n, c, h1, h2⟩ := h
  exact ⟨A, n, c, h1.below hb (Nat.lt_of_lt_of_le h1.lt hB), own_below h2 hb hB⟩
theorem LogB.other {w w' : World} {g k : Nat} {s : LogSt} (h : LogB w g s) (hg : w.grownBy w' (some k)) (hk : k < g) : LogB w' g s := by
  obtain ⟨A, n, c, h1, h2⟩ := h
  exact ⟨A, n, c, h1.grown hg (fun j e => by injection e with e; omega), own_but h2 hg (by omega)⟩
theorem grown_below {w w' : World} (h : Below w.heap.size w w') (row : Option Nat) : w.grownBy w' row := ⟨h.os, h.tape, h.output, h.size, fun i hi _ => h.block i hi⟩
theorem grown_cell (w : World) (g i : Nat) (v : Value) : w.grownBy (w.setCell ⟨g, i, none⟩ v) (some g) := ⟨rfl, rfl, rfl, by simp, fun k hk hne => Below.heap_setCell w ⟨g, i, none⟩ v k (fun e => hne (by rw [e]))⟩
theorem grown_cellD (w : World) (g i : Nat) (v : Value) : w.grownBy (w.setCell ⟨g, i, none⟩ v).drew (some g) := ⟨rfl, rfl, rfl, by simp, fun k hk hne => Below.heap_setCell w ⟨g, i, none⟩ v k (fun e => hne (by rw [e]))⟩
theorem bytes_app (a b : List UInt8) : (ByteArray.mk a.toArray ++ ByteArray.mk b.toArray) = ⟨(a ++ b).toArray⟩ := by
  apply ByteArray.ext
  simp [ByteArray.data_append]

set_option maxHeartbeats 1000000 in
theorem log_new (w : World) : Calls Tryd.prog 7 #[] w fun e w' => e = .returned (.pointer (some ⟨w.heap.size, 0, none⟩)) ∧ w' = w.alloc (.cells #[.slice none 0 0, .string ⟨#[]⟩, .int .i64 0, .int .i64 (-1), .bool false] 55) := by
  go_enter Tryd.func7, Tryd.ntmps7
  go_wp2
  go_ret
  exact ⟨rfl, rfl⟩
theorem log_new_is (w : World) : LogB (w.alloc (.cells #[.slice none 0 0, .string ⟨#[]⟩, .int .i64 0, .int .i64 (-1), .bool false] 55)) w.heap.size log0 :=
  ⟨none, 0, 0, Blk.new w 55 [.slice none 0 0, .string ⟨#[]⟩, .int .i64 0, .int .i64 (-1), .bool false], World.ownsRow_nil _ _ _ _⟩

set_option maxHeartbeats 2000000 in
theorem step_any (g : Nat) (v0 v1 v2 : Value) (left : Int) (st : Bool) (w : World) (hB : Blk w g 55 [v0, v1, v2, .int .i64 left, .bool st]) (hl : -1 ≤ left ∧ left ≤ 9223372036854775807) :
    Calls Tryd.prog 29 #[.pointer (some ⟨g, 0, none⟩)] w fun e w' => e = .returned (.bool (decide (left = 0))) ∧ Blk w' g 55 [v0, v1, v2, .int .i64 (max (-1) (left - 1)), .bool (decide (left = 0))] ∧ w.grownBy w' (some g) := by
  obtain ⟨hl1, hl2⟩ := hl
  have c3 := hB.cellS (i := 3) (v := .int .i64 left) rfl
  have c4 := hB.cellS (i := 4) (v := .bool st) rfl
  have f3 := hB.frozen 3
  have f4 := hB.frozen 4
  have hE : Hid ((left == 0) = decide (left = 0)) := Lib.hid rfl
  have HP := Lib.hid ((hB.put 4 (.bool (left == 0))).put 3 (.int .i64 (max (-1) (left - 1))))
  have HG : Hid (w.grownBy ((w.setCell ⟨g, 4, none⟩ (.bool (left == 0))).setCell ⟨g, 3, none⟩ (.int .i64 (max (-1) (left - 1)))) (some g)) := Lib.hid ((grown_cell _ _ _ _).trans (grown_cell _ _ _ _))
  clear hB
  go_enter Tryd.func29, Tryd.ntmps29
  go_wp2
  go_ret
  exact ⟨ret_bool rfl, HP.out, HG.out⟩

theorem ext_take (l : List UInt8) (k : Nat) : (ByteArray.mk l.toArray).extract 0 k = ⟨(l.take k).toArray⟩ := by
  apply ByteArray.ext
  simp
def DoPost (w : World) (g : Nat) (s : LogSt) (o : HOp) (e : Ending) (w' : World) : Prop := e = .returned (errV (doF s o).1) ∧ LogB w' g (doF s o).2 ∧ w.grownBy w' (some g)
set_option maxRecDepth 100000 in
set_option maxHeartbeats 4000000 in
theorem do_any (g : Nat) (s : LogSt) (o : HOp) (w : World) (hB : LogB w g s) (hk : LogOk s) : Calls Tryd.prog 8 #[.pointer (some ⟨g, 0, none⟩), o.val] w (DoPost w g s o) := by
  by_cases hst : s.st = true
  · have HD : Hid (doF s o = (6, s)) := Lib.hid (doF_st hst)
    obtain ⟨A, n, c, h1, h2⟩ := hB
    have c4 := (h1.alloc (.cells #[.int .i64 o.tx, .int .i64 o.what, .int .i64 o.item] 28)).cellS (i := 4) (v := .bool s.st) rfl
    rw [hst] at c4
    have HB : Hid (LogB (w.alloc (.cells #[.int .i64 o.tx, .int .i64 o.what, .int .i64 o.item] 28)) g s) := Lib.hid ⟨A, n, c, h1.alloc _, own_alloc h2 _⟩
    have HG : Hid (w.grownBy (w.alloc (.cells #[.int .i64 o.tx, .int .i64 o.what, .int .i64 o.item] 28)) (some g)) := Lib.hid (World.grownBy_alloc _ _ _)
    obtain ⟨o1, o2, o3⟩ := o
    unfold HOp.val
    clear h1 h2 hk hst
    go_enter Tryd.func8, Tryd.ntmps8
    go_wp2
    go_ret
    exact ⟨by rw [HD.out]; rfl, by rw [HD.out]; exact HB.out, HG.out⟩
  have hst : s.st = false := by simpa using hst
  obtain ⟨A, n, c, h1, h2⟩ := hB
  obtain ⟨sh, sb, ss, sl, sst⟩ := s
  obtain ⟨k1, k2, k3, k4⟩ := hk
  simp only at hst h1 h2 k1 k2 k3 k4
  subst hst
  have hglt := h1.lt
  have hn : n ≤ 40 := by rw [← (rd_own h2).hlen]; exact k1
  obtain ⟨o1, o2, o3⟩ := o
  have HD1 := Lib.hid (fun h2 => doF_bad (s := ⟨sh, sb, ss, sl, false⟩) (o := ⟨o1, o2, o3⟩) rfl h2)
  have HD2 := Lib.hid (fun h2 h3 => doF_stop (s := ⟨sh, sb, ss, sl, false⟩) (o := ⟨o1, o2, o3⟩) rfl h2 h3)
  have HD3 := Lib.hid (fun h2 h3 => doF_goes (s := ⟨sh, sb, ss, sl, false⟩) (o := ⟨o1, o2, o3⟩) rfl h2 h3)
  have hb0 : Below w.heap.size w (w.alloc (.cells #[.int .i64 o1, .int .i64 o2, .int .i64 o3] 28)) := (Below.refl _ _).alloc (Nat.le_refl _) _
  have hO := Blk.new w 28 [.int .i64 o1, .int .i64 o2, .int .i64 o3]
  have hBa := h1.alloc (.cells #[.int .i64 o1, .int .i64 o2, .int .i64 o3] 28)
  have hRa := own_alloc h2 (.cells #[.int .i64 o1, .int .i64 o2, .int .i64 o3] 28)
  unfold HOp.val
  obtain ⟨w0, hw0⟩ : ∃ w0, w.alloc (.cells #[.int .i64 o1, .int .i64 o2, .int .i64 o3] 28) = w0 := ⟨_, rfl⟩
  have hz0 := Lib.hid (show w0.heap.size = w.heap.size + 1 by rw [← hw0]; simp)
  have HW0 := Lib.hid hw0
  change Blk (w.alloc (.cells #[.int .i64 o1, .int .i64 o2, .int .i64 o3] 28)) w.heap.size 28 [.int .i64 o1, .int .i64 o2, .int .i64 o3] at hO
  rw [hw0] at hb0 hO hBa hRa
  have HF := Lib.hid (And.intro hBa (And.intro hRa hO))
  have c4 := hBa.cellS (i := 4) (v := .bool false) rfl
  rw [← hw0] at c4
  clear h1 h2 hBa hRa hO hw0
  go_enter Tryd.func8, Tryd.ntmps8
  go_upto_region 4 with fail
  go_cut [5] (fun s5 wx => wx.ownsRow w0.heap.size 28 3 s5 (n + 1) (cellsH (sh ++ [⟨o1, o2, o3⟩])) ∧ Below w0.heap.size w0 wx)
  case first =>
    obtain ⟨hBa, hRa, hO⟩ := HF.out
    have hza := hBa.lt
    have e0 := hBa.cellS (i := 0) (v := .slice A n c) rfl
    have p0 := hO.cellS (i := 0) (v := .int .i64 o1) rfl
    have p1 := hO.cellS (i := 1) (v := .int .i64 o2) rfl
    have p2 := hO.cellS (i := 2) (v := .int .i64 o3) rfl
    have hS0 : w0.drew.cell? ⟨g, 0, none⟩ = some (.slice A n c) ∧ w0.drew.cell? ⟨w.heap.size, 0, none⟩ = some (.int .i64 o1) ∧ w0.drew.cell? ⟨w.heap.size, 1, none⟩ = some (.int .i64 o2) ∧ w0.drew.cell? ⟨w.heap.size, 2, none⟩ = some (.int .i64 o3) := ⟨e0, p0, p1, p2⟩
    have hbd : Below w0.heap.size w0 w0.drew := (Below.refl _ _).drew
    have hbe : Below w0.heap.size w0 (w0.alloc (.cells (cellsH [⟨o1, o2, o3⟩]).toArray 28)).drew := ((Below.refl _ _).alloc (Nat.le_refl _) _).drew
    have CC := hide (fun W (hb : Below w0.heap.size w0 W) => And.intro (hb.size) (clone_op A n c (cellsH sh) W (((rd_own hRa).below hb).more hb.size) (oneH sh) (by omega)))
    have hr1 : Rd (w0.alloc (.cells (cellsH [⟨o1, o2, o3⟩]).toArray 28)).drew (w0.heap.size + 1) 3 (some ⟨w0.heap.size, 0, none⟩) 1 (cellsH [⟨o1, o2, o3⟩]) := rd_new w0 28 (cellsH [⟨o1, o2, o3⟩]) rfl
    have hzz : w.heap.size < w0.heap.size := hO.lt
    clear hRa
    go_wp2
    rw [HW0.out]
    go_region_held3 (fun w' => w'.cell? ⟨g, 0, none⟩ = some (.slice A n c) ∧ w'.cell? ⟨w.heap.size, 0, none⟩ = some (.int .i64 o1) ∧ w'.cell? ⟨w.heap.size, 1, none⟩ = some (.int .i64 o2) ∧ w'.cell? ⟨w.heap.size, 2, none⟩ = some (.int .i64 o3)) (first | exact hS0 | exact hS1 | go_keep)
      (first
        | (go_at_call 27; refine (unhide CC _ (by first | exact hbd | exact hbe)).2.mono ?_; rintro e w1 ⟨v1, rfl, ho1, hb1⟩; obtain ⟨A1, c1, rfl⟩ := own_slice ho1; have hS1 : w1.cell? ⟨g, 0, none⟩ = some (.slice A n c) ∧ w1.cell? ⟨w.heap.size, 0, none⟩ = some (.int .i64 o1) ∧ w1.cell? ⟨w.heap.size, 1, none⟩ = some (.int .i64 o2) ∧ w1.cell? ⟨w.heap.size, 2, none⟩ = some (.int .i64 o3) := (by have q : Below w0.heap.size w0 w1 := (by first | exact hbd.trans (hb1.mono hbd.size) | exact hbe.trans (hb1.mono hbe.size)); exact ⟨(q.cell (p := ⟨g, 0, none⟩) hza).trans e0, (q.cell (p := ⟨w.heap.size, 0, none⟩) hzz).trans p0, (q.cell (p := ⟨w.heap.size, 1, none⟩) hzz).trans p1, (q.cell (p := ⟨w.heap.size, 2, none⟩) hzz).trans p2⟩))
        | ((refine step_app rfl (.tmp 18) (.tmp 20) _ rfl w0.heap.size slt_op (n := n) (xs := cellsH sh) (m := 1) (news := cellsH [⟨o1, o2, o3⟩]) rfl (own_alloc (own_mono ho1 hbd.size) (.cells (cellsH [⟨o1, o2, o3⟩]).toArray 28)) rfl (rd_new' (size := 3) (n := 1) _ _ (cellsH [⟨o1, o2, o3⟩]) (by simp) rfl) (oneH _) (by omega) (by have h1 : w0.heap.size ≤ w1.heap.size := hb1.size; simp; omega) ?_; intro v5 w5 hown5 hg5 hb5; have hz1 : w0.heap.size ≤ w1.heap.size := hb1.size; have hS1 : w5.cell? ⟨g, 0, none⟩ = some (.slice A n c) ∧ w5.cell? ⟨w.heap.size, 0, none⟩ = some (.int .i64 o1) ∧ w5.cell? ⟨w.heap.size, 1, none⟩ = some (.int .i64 o2) ∧ w5.cell? ⟨w.heap.size, 2, none⟩ = some (.int .i64 o3) := ⟨(hb5.cell (p := ⟨g, 0, none⟩) hza).trans ((World.cell?_alloc_lt w1 _ ⟨g, 0, none⟩ (by show g < w1.heap.size; omega)).trans hS1.1), (hb5.cell (p := ⟨w.heap.size, 0, none⟩) hzz).trans ((World.cell?_alloc_lt w1 _ ⟨w.heap.size, 0, none⟩ (by show w.heap.size < w1.heap.size; omega)).trans hS1.2.1), (hb5.cell (p := ⟨w.heap.size, 1, none⟩) hzz).trans ((World.cell?_alloc_lt w1 _ ⟨w.heap.size, 1, none⟩ (by show w.heap.size < w1.heap.size; omega)).trans hS1.2.2.1), (hb5.cell (p := ⟨w.heap.size, 2, none⟩) hzz).trans ((World.cell?_alloc_lt w1 _ ⟨w.heap.size, 2, none⟩ (by show w.heap.size < w1.heap.size; omega)).trans hS1.2.2.2)⟩))
        | ((refine step_app rfl (.tmp 18) (.tmp 20) _ rfl w0.heap.size slt_op (n := n) (xs := cellsH sh) (m := 1) (news := cellsH [⟨o1, o2, o3⟩]) rfl (own_mono ho1 hbe.size) rfl ((hr1.below (hb1.mono (by simp))).more (by have := hb1.size; simpa using this)) (oneH _) (by omega) (Nat.le_trans hbe.size hb1.size) ?_; intro v5 w5 hown5 hg5 hb5; have hS1 : w5.cell? ⟨g, 0, none⟩ = some (.slice A n c) ∧ w5.cell? ⟨w.heap.size, 0, none⟩ = some (.int .i64 o1) ∧ w5.cell? ⟨w.heap.size, 1, none⟩ = some (.int .i64 o2) ∧ w5.cell? ⟨w.heap.size, 2, none⟩ = some (.int .i64 o3) := ⟨(hb5.cell (p := ⟨g, 0, none⟩) hza).trans hS1.1, (hb5.cell (p := ⟨w.heap.size, 0, none⟩) hzz).trans hS1.2.1, (hb5.cell (p := ⟨w.heap.size, 1, none⟩) hzz).trans hS1.2.2.1, (hb5.cell (p := ⟨w.heap.size, 2, none⟩) hzz).trans hS1.2.2.2⟩)))
    all_goals
      go_wp2
      go_meet
      case rel =>
        refine ⟨by rw [cellsH_append]; exact hown5, ?_⟩
        first
          | exact ((hbd.trans (hb1.mono hbd.size)).alloc hb1.size _).trans hb5
          | exact (hbe.trans (hb1.mono hbe.size)).trans hb5
  case rest =>
    obtain ⟨hown, hbx⟩ := hcut
    obtain ⟨A5, c5, rfl⟩ := own_slice hown
    obtain ⟨hBa, hRa, hO⟩ := HF.out
    have hB := hBa.below hbx hBa.lt
    have hR := own_below hRa hbx (Nat.le_refl _)
    have hOx := hO.below hbx hO.lt
    have hbw := hb0.trans (hbx.mono hb0.size)
    have hgr := grown_below hbw (some g)
    have hox := own_mono hown (show g + 1 ≤ w0.heap.size by have := hz0.out; omega)
    have CR := hide (right_h A5 (n + 1) c5 (sh ++ [⟨o1, o2, o3⟩]) wc (rd_own hown) (by omega))
    clear hown hbx hBa hRa hO HF hb0 hz0 HW0 c4
    by_cases hck : (checkF (sh ++ [⟨o1, o2, o3⟩])).2 = 0
    rotate_left
    · rw [ne_errV hck] at CR
      have HD := Lib.hid (HD1.out hck)
      have HEV : Hid (errV (checkF (sh ++ [⟨o1, o2, o3⟩])).2 = .iface 56 (.int .i64 (checkF (sh ++ [⟨o1, o2, o3⟩])).2)) := Lib.hid (ne_errV hck)
      have HL : Hid (LogB wc g ⟨sh, sb, ss, sl, false⟩ ∧ w.grownBy wc (some g)) := Lib.hid ⟨⟨A, n, c, hB, hR⟩, hgr⟩
      clear hck HD1 HD2 HD3 hB hR hOx hox hbw hgr
      generalize (checkF (sh ++ [⟨o1, o2, o3⟩])).2 = ev at *
      go_wp2_with fail
      refine (unhide CR).mono ?_
      rintro e w2 ⟨rfl, hb2⟩
      have HL2 : Hid (LogB w2 g ⟨sh, sb, ss, sl, false⟩ ∧ w.grownBy w2 (some g)) := Lib.hid ⟨HL.out.1.below hb2 (Nat.le_refl _), HL.out.2.trans (grown_below hb2 _)⟩
      go_wp2
      go_ret
      exact ⟨by rw [HD.out]; exact congrArg Ending.returned HEV.out.symm, by rw [HD.out]; exact HL2.out.1, HL2.out.2⟩
    rw [hck, errV_zero] at CR
    have hok1 : okH (sh ++ [(⟨o1, o2, o3⟩ : HOp)]) := hck
    have hro : rightB ⟨o1, o2, o3⟩ = true := okH_right hok1 _ (by simp)
    have HRO := Lib.hid hro
    have HCK := Lib.hid hck
    clear hck hro HD1 hok1
    go_wp2_with fail
    refine (unhide CR).mono ?_
    rintro e w2 ⟨rfl, hb2⟩
    have hbw2 := hbw.trans (hb2.mono hbw.size)
    have hB2 := hB.below hb2 hB.lt
    have hR2 := own_below hR hb2 (Nat.le_refl _)
    have hO2 := hOx.below hb2 hOx.lt
    have hx2 := own_below hox hb2 (Nat.le_refl _)
    have p0 := hO2.cellS (i := 0) (v := .int .i64 o1) rfl
    have p1 := hO2.cellS (i := 1) (v := .int .i64 o2) rfl
    have p2 := hO2.cellS (i := 2) (v := .int .i64 o3) rfl
    have hr3 : Rd (w2.alloc (.cells #[.int .i64 o1, .int .i64 o2, .int .i64 o3] 28)) (w2.heap.size + 1) 3 (some ⟨w2.heap.size, 0, none⟩) 1 (cellsH [⟨o1, o2, o3⟩]) := rd_new w2 28 (cellsH [⟨o1, o2, o3⟩]) rfl
    have CP := hide (print_any (some ⟨w2.heap.size, 0, none⟩) 1 1 [⟨o1, o2, o3⟩] _ (hr3.more (by simp)) (okH_one HRO.out))
    rw [show printL [⟨o1, o2, o3⟩] = textL ⟨o1, o2, o3⟩ from inter_one _ _] at CP
    clear hb2 hB hR hOx hox hbw hgr CR hr3
    go_wp2_with fail
    refine (unhide CP).mono ?_
    rintro e w3 ⟨rfl, hb3⟩
    have hq : Below w2.heap.size w2 w3 := (((Below.refl _ _).alloc (Nat.le_refl _) _).trans (hb3.mono (by simp)))
    have hB3 := hB2.below hq hB2.lt
    have hR3 := own_below hR2 hq (Nat.le_refl _)
    have hx3 := own_below hx2 hq (Nat.le_refl _)
    have hbw3 := hbw2.trans (hq.mono hbw2.size)
    have HTB : Hid ((⟨(textL ⟨o1, o2, o3⟩).toArray⟩ : ByteArray) ++ ⟨#[10]⟩ = ⟨(lineL ⟨o1, o2, o3⟩).toArray⟩) := Lib.hid (bytes_app (textL ⟨o1, o2, o3⟩) [10])
    have hts : (⟨(textL ⟨o1, o2, o3⟩).toArray⟩ : ByteArray).size ≤ 5 := (text_free _ (mem_allOps.1 HRO.out)).2.2.2
    have HSB : Hid ((⟨sb.toArray⟩ : ByteArray).size ≤ 1000000) := Lib.hid k2
    have hll := line_len HRO.out
    have CS := hide (step_any g (.slice A n c) (.string ⟨sb.toArray⟩) (.int .i64 ss) sl false w3 hB3 k4)
    have HXT := Lib.hid (fun k => ext_take (lineL ⟨o1, o2, o3⟩) k)
    have HSZ : Hid ((⟨(lineL ⟨o1, o2, o3⟩).toArray⟩ : ByteArray).size = (lineL ⟨o1, o2, o3⟩).length) := Lib.hid rfl
    clear hb3 hq hB2 hR2 hO2 hx2 p0 p1 p2 hbw2 CP
    generalize (⟨(textL ⟨o1, o2, o3⟩).toArray⟩ : ByteArray) = tb at *
    generalize lineL ⟨o1, o2, o3⟩ = ll at *
    go_wp2_with fail
    rw [HTB.out]
    refine (unhide CS).mono ?_
    rintro e w4 ⟨rfl, hB4, hg4⟩
    have hR4 := own_but hR3 hg4 (Nat.lt_succ_self _)
    have hx4 := own_but hx3 hg4 (Nat.lt_succ_self _)
    have hgr4 := (grown_below hbw3 (some g)).trans hg4
    have c1 := hB4.cellS (i := 1) (v := .string ⟨sb.toArray⟩) rfl
    have f1 := hB4.frozen 1
    have c0 := hB4.cellS (i := 0) (v := .slice A n c) rfl
    have f0 := hB4.frozen 0
    by_cases hz : sl = 0
    · subst hz
      rw [decide_eq_true (rfl : (0 : Int) = 0)] at hB4 ⊢
      have hx := HXT.out (ll.length / 2)
      have HFIN : Hid (∀ W, Blk W g 55 [.slice A n c, .string ((⟨sb.toArray⟩ : ByteArray) ++ ⟨(ll.take (ll.length / 2)).toArray⟩), .int .i64 ss, .int .i64 (max (-1) (0 - 1)), .bool true] → W.ownsRow (g + 1) 28 3 (.slice A n c) n (cellsH sh) → LogB W g (doF ⟨sh, sb, ss, 0, false⟩ ⟨o1, o2, o3⟩).2) := Lib.hid (fun W h1 h2 => by
        rw [HD2.out HCK.out rfl]
        rw [bytes_app] at h1
        exact ⟨A, n, c, h1, h2⟩)
      have HD := Lib.hid (congrArg Prod.fst (HD2.out HCK.out rfl))
      have hxs : (⟨(ll.take (ll.length / 2)).toArray⟩ : ByteArray).size ≤ 6 := by
        show (ll.take (ll.length / 2)).length ≤ 6
        rw [List.length_take]; omega
      have hhalf : ((⟨ll.toArray⟩ : ByteArray).size : Int).tdiv 2 = ((ll.length / 2 : Nat) : Int) := by
        rw [HSZ.out]
        rcases hll with h | h <;> rw [h] <;> decide
      have hle : ((ll.length / 2 : Nat) : Int) ≤ ((⟨ll.toArray⟩ : ByteArray).size : Int) := by rw [HSZ.out]; omega
      have h00 : (0 : Int) ≤ ((ll.length / 2 : Nat) : Int) := by omega
      have h000 : IntKind.i64.wrap ((ll.length / 2 : Nat) : Int) = ((ll.length / 2 : Nat) : Int) := wrap64 (by omega) (by omega)
      clear HXT HTB HD2 HD3 HCK HRO hll hts c0 f0 hR3 hx3 hx4
      generalize (⟨(ll.take (ll.length / 2)).toArray⟩ : ByteArray) = XB at *
      generalize (⟨ll.toArray⟩ : ByteArray) = TB at *
      generalize ll.length / 2 = hf at *
      have hsb := HSB.out
      clear HSB HSZ
      generalize (⟨sb.toArray⟩ : ByteArray) = SB at *
      go_wp2
      go_region
      all_goals
        go_wp2
        go_ret
        exact ⟨by rw [HD.out]; rfl, HFIN.out _ (hB4.put 1 _).drew (own_but hR4 (grown_cellD _ _ _ _) (Nat.lt_succ_self _)), hgr4.trans (grown_cellD _ _ _ _)⟩
    · have HFIN : Hid (∀ W, Blk W g 55 [.slice A5 (n + 1) c5, .string ((⟨sb.toArray⟩ : ByteArray) ++ ⟨ll.toArray⟩), .int .i64 ss, .int .i64 (max (-1) (sl - 1)), .bool false] → W.ownsRow (g + 1) 28 3 (.slice A5 (n + 1) c5) (n + 1) (cellsH (sh ++ [⟨o1, o2, o3⟩])) → LogB W g (doF ⟨sh, sb, ss, sl, false⟩ ⟨o1, o2, o3⟩).2) := Lib.hid (fun W h1 h2 => by
        rw [HD3.out HCK.out hz]
        rw [bytes_app] at h1
        have e : stepL ⟨sh, sb, ss, sl, false⟩ = ⟨sh, sb, ss, max (-1) (sl - 1), false⟩ := by unfold stepL; rw [decide_eq_false (show ¬ sl = 0 from hz)]
        rw [e]
        exact ⟨A5, n + 1, c5, h1, h2⟩)
      have HD := Lib.hid (congrArg Prod.fst (HD3.out HCK.out hz))
      rw [decide_eq_false hz] at hB4 ⊢
      have hts2 : (⟨ll.toArray⟩ : ByteArray).size ≤ 6 := by rw [HSZ.out]; rcases hll with h | h <;> omega
      clear HXT HTB HD2 HD3 HCK HRO hll hts hR3 hx3 hR4
      generalize (⟨ll.toArray⟩ : ByteArray) = TB at *
      have hsb := HSB.out
      clear HSB HSZ hz
      generalize (⟨sb.toArray⟩ : ByteArray) = SB at *
      go_wp2
      go_ret
      exact ⟨by rw [HD.out]; rfl, HFIN.out _ ((hB4.put 1 _).put 0 _) (own_but hx4 ((grown_cell _ _ _ _).trans (grown_cell _ _ _ _)) (Nat.lt_succ_self _)), hgr4.trans ((grown_cell _ _ _ _).trans (grown_cell _ _ _ _))⟩

theorem bytes_any (g : Nat) (s : LogSt) (w : World) (hB : LogB w g s) : Calls Tryd.prog 10 #[.pointer (some ⟨g, 0, none⟩)] w fun e w' => e = .returned (.int .i64 s.b.length) ∧ w' = w := by
  obtain ⟨A, n, c, h1, h2⟩ := hB
  have c1 := h1.cellS (i := 1) (v := .string ⟨s.b.toArray⟩) rfl
  have HS : Hid ((⟨s.b.toArray⟩ : ByteArray).size = s.b.length) := Lib.hid rfl
  clear h1 h2
  generalize (⟨s.b.toArray⟩ : ByteArray) = SB at *
  go_enter Tryd.func10, Tryd.ntmps10
  go_wp2
  go_ret
  exact ⟨by rw [← HS.out]; rfl, rfl⟩
theorem safe_any (g : Nat) (s : LogSt) (w : World) (hB : LogB w g s) : Calls Tryd.prog 16 #[.pointer (some ⟨g, 0, none⟩)] w fun e w' => e = .returned (.int .i64 s.safe) ∧ w' = w := by
  obtain ⟨A, n, c, h1, h2⟩ := hB
  have c1 := h1.cellS (i := 2) (v := .int .i64 s.safe) rfl
  clear h1 h2
  go_enter Tryd.func16, Tryd.ntmps16
  go_wp2
  go_ret
  exact ⟨rfl, rfl⟩
set_option maxHeartbeats 1000000 in
theorem all_any (g : Nat) (s : LogSt) (w : World) (hB : LogB w g s) (hk : s.h.length ≤ 40) : Calls Tryd.prog 11 #[.pointer (some ⟨g, 0, none⟩)] w fun e w' => ∃ v, e = .returned v ∧ w'.ownsRow w.heap.size 28 3 v s.h.length (cellsH s.h) ∧ Below w.heap.size w w' := by
  obtain ⟨A, n, c, h1, h2⟩ := hB
  have c0 := h1.cellS (i := 0) (v := .slice A n c) rfl
  have hl := (rd_own h2).hlen
  have CC := hide (clone_op A n c (cellsH s.h) w (rd_own h2) (oneH s.h) (by omega))
  subst hl
  clear h1 h2
  go_enter Tryd.func11, Tryd.ntmps11
  go_wp2_with fail
  refine (unhide CC).mono ?_
  rintro e w1 ⟨v1, rfl, ho1, hb1⟩
  go_wp2
  go_ret
  exact ⟨v1, rfl, ho1, hb1⟩
set_option maxHeartbeats 2000000 in
theorem sync_any (g : Nat) (s : LogSt) (w : World) (hB : LogB w g s) (hk : LogOk s) : Calls Tryd.prog 14 #[.pointer (some ⟨g, 0, none⟩)] w fun e w' => e = .returned (errV (syncF s).1) ∧ LogB w' g (syncF s).2 ∧ w.grownBy w' (some g) := by
  obtain ⟨A, n, c, h1, h2⟩ := hB
  obtain ⟨sh, sb, ss, sl, sst⟩ := s
  obtain ⟨k1, k2, k3, k4⟩ := hk
  simp only at h1 h2 k1 k2 k3 k4
  have c4 := h1.cellS (i := 4) (v := .bool sst) rfl
  cases sst with
  | true =>
    have HD := Lib.hid (syncF_st (s := ⟨sh, sb, ss, sl, true⟩) rfl)
    have HL : Hid (LogB w g ⟨sh, sb, ss, sl, true⟩) := Lib.hid ⟨A, n, c, h1, h2⟩
    clear h1 h2
    go_enter Tryd.func14, Tryd.ntmps14
    go_wp2
    go_ret
    exact ⟨by rw [HD.out]; rfl, by rw [HD.out]; exact HL.out, World.grownBy.refl _ _⟩
  | false =>
    have CS := hide (step_any g (.slice A n c) (.string ⟨sb.toArray⟩) (.int .i64 ss) sl false w h1 k4)
    by_cases hz : sl = 0
    · subst hz
      have HD := Lib.hid (syncF_stop (s := ⟨sh, sb, ss, 0, false⟩) rfl rfl)
      rw [decide_eq_true (rfl : (0 : Int) = 0)] at CS
      have HR := Lib.hid h2
      clear h1 h2
      go_enter Tryd.func14, Tryd.ntmps14
      go_wp2_with fail
      refine (unhide CS).mono ?_
      rintro e w4 ⟨rfl, hB4, hg4⟩
      have HL : Hid (LogB w4 g (stepL ⟨sh, sb, ss, 0, false⟩)) := Lib.hid ⟨A, n, c, hB4, own_but HR.out hg4 (Nat.lt_succ_self _)⟩
      go_wp2
      go_ret
      exact ⟨by rw [HD.out]; rfl, by rw [HD.out]; exact HL.out, hg4⟩
    · have HD := Lib.hid (syncF_goes (s := ⟨sh, sb, ss, sl, false⟩) rfl hz)
      have HST : Hid (stepL ⟨sh, sb, ss, sl, false⟩ = ⟨sh, sb, ss, max (-1) (sl - 1), false⟩) := Lib.hid (by unfold stepL; rw [decide_eq_false (show ¬ sl = 0 from hz)])
      rw [decide_eq_false hz] at CS
      have HR := Lib.hid h2
      have HS : Hid ((⟨sb.toArray⟩ : ByteArray).size = sb.length) := Lib.hid rfl
      clear h1 h2 hz
      go_enter Tryd.func14, Tryd.ntmps14
      go_wp2_with fail
      refine (unhide CS).mono ?_
      rintro e w4 ⟨rfl, hB4, hg4⟩
      have hR4 := own_but HR.out hg4 (Nat.lt_succ_self _)
      have c1 := hB4.cellS (i := 1) (v := .string ⟨sb.toArray⟩) rfl
      have c2 := hB4.cellS (i := 2) (v := .int .i64 ss) rfl
      have f2 := hB4.frozen 2
      have HL : Hid (LogB (w4.setCell ⟨g, 2, none⟩ (.int .i64 ((⟨sb.toArray⟩ : ByteArray).size : Int))) g { stepL ⟨sh, sb, ss, sl, false⟩ with safe := sb.length }) := Lib.hid (by
        rw [HST.out]
        exact ⟨A, n, c, hB4.put 2 _, own_but hR4 (grown_cell _ _ _ _) (Nat.lt_succ_self _)⟩)
      clear hB4 HST HR CS
      generalize (⟨sb.toArray⟩ : ByteArray) = SB at *
      go_wp2
      go_ret
      exact ⟨by rw [HD.out]; rfl, by rw [HD.out]; exact HL.out, hg4.trans (grown_cell _ _ _ _)⟩
set_option maxHeartbeats 1000000 in
theorem fail_any (g : Nat) (s : LogSt) (x : Int) (w : World) (hB : LogB w g s) : Calls Tryd.prog 13 #[.pointer (some ⟨g, 0, none⟩), .int .i64 x] w fun e w' => e = .returned (.tuple #[]) ∧ LogB w' g (failF s x) ∧ w.grownBy w' (some g) := by
  obtain ⟨A, n, c, h1, h2⟩ := hB
  obtain ⟨sh, sb, ss, sl, sst⟩ := s
  simp only at h1 h2
  have c3 := h1.cellS (i := 3) (v := .int .i64 sl) rfl
  have f3 := h1.frozen 3
  have HL : Hid (LogB (w.setCell ⟨g, 3, none⟩ (.int .i64 (max (-1) x))) g (failF ⟨sh, sb, ss, sl, sst⟩ x)) := Lib.hid ⟨A, n, c, h1.put 3 _, own_but h2 (grown_cell _ _ _ _) (Nat.lt_succ_self _)⟩
  clear h1 h2
  go_enter Tryd.func13, Tryd.ntmps13
  go_wp2
  refine bodyPost_end (results_none rfl _ _ _) rfl ?_
  exact ⟨rfl, HL.out, grown_cell _ _ _ _⟩
end Go.Proofs.YtahbaddclacakaaDoor


/-
  CONTRACT of lanelaw2.tells at kind 3, at a history that is right (printed by wip/mktells.py).
-/
import Derived.Test.YtfmdeahblaikoaaGreatDoorRRun3
import Derived.Test.YtfmdeahblaikoaaGreatDoorROut
import Derived.Test.YtfmdeahblaikoaaGreatDoorOutSame
import Derived.Test.YtfmdeahblaikoaaGreatDoorN1
import Derived.Test.YtfmdeahblaikoaaGreatDoorE1

namespace Go.Proofs.YtfmdeahblaikoaaGreatDoor
open Go.RowKit

theorem flat_len3 {l : List Dl} (h : ∀ d ∈ l, d.seen.length ≤ 41) : (l.flatMap (·.seen)).length ≤ l.length * 41 := by
  induction l with
  | nil => simp
  | cons a t ih =>
    have h1 := h a List.mem_cons_self
    have h2 := ih fun d hd => h d (List.mem_cons_of_mem _ hd)
    rw [List.flatMap_cons, List.length_append, List.length_cons]; omega
set_option maxRecDepth 100000 in
set_option maxHeartbeats 4000000 in
theorem tells3_ok (A : Option Addr) (n c : Nat) (h : List HOp) (w : World) (hE : Et w) (hr : Rd w w.heap.size 3 A n (cellsH h)) (hm : n ≤ 6000000000000) (hok : okH h)
    (A1 A2 A3 : Option Addr) (n1 n2 n3 c1 c2 c3 : Nat) (h1 : Rd w w.heap.size 1 A1 n1 (cellsI (playV (refR 3) h).dn)) (h2 : Rd w w.heap.size 3 A2 n2 (cellsH (seenOf (playV (refR 3) h)))) (h3 : Rd w w.heap.size 1 A3 n3 (cellsI (playV (refR 3) h).last)) :
    Calls Tryz.prog 14 #[.slice A n c, .int .i64 3, .agg #[.slice A1 n1 c1, .slice A2 n2 c2, .slice A3 n3 c3], .nilIface] w fun e w' => e = .returned (.bool true) ∧ Below w.heap.size w w' := by
  have hz0 := hE.pos
  have HE := hide hE
  have H0 : Hid ((checkF h).2 = 0) := Lib.hid hok
  have CR := hide (fun w1 (hb : Below w.heap.size w w1) => rright_any A n c h w1 ((hr.below hb).more hb.size) hm)
  have CQ := hide (fun w1 (hb : Below w.heap.size w w1) => rrun3_any A n c h w1 ((hr.below hb).more hb.size) hok)
  have HLN := Lib.hid (okH_len hok)
  have H1 := hide (fun w1 (hb : Below w.heap.size w w1) => (h1.below hb).more hb.size)
  have H2 := hide (fun w1 (hb : Below w.heap.size w w1) => (h2.below hb).more hb.size)
  have H3 := hide (fun w1 (hb : Below w.heap.size w w1) => (h3.below hb).more hb.size)
  have HN1 := Lib.hid h1.ilen
  have HN2 := Lib.hid h2.hlen
  have HN3 := Lib.hid h3.ilen
  have hBx := Blk.new w 41 [.slice A1 n1 c1, .slice A2 n2 c2, .slice A3 n3 c3]
  have hb0 : Below w.heap.size w (w.alloc (.cells #[.slice A1 n1 c1, .slice A2 n2 c2, .slice A3 n3 c3] 41)) := (Below.refl _ _).alloc (Nat.le_refl _) _
  clear hr hok hE h1 h2 h3
  generalize playV (refR 3) h = s at *
  go_enter Tryz.func14, Tryz.ntmps14
  go_wp2_with fail
  refine (unhide CR _ hb0).mono ?_
  rw [H0.out]
  rintro e w1 ⟨rfl, hb1⟩
  have hbw1 := hb0.trans (hb1.mono (by simp))
  have hBx1 := hBx.below hb1 (by simp)
  have hs1 : w.heap.size < w1.heap.size := hBx1.lt
  have hBg := Blk.new w1 41 [.slice none 0 0, .slice none 0 0, .slice none 0 0]
  have hbg : Below w1.heap.size w1 (w1.alloc (.cells #[.slice none 0 0, .slice none 0 0, .slice none 0 0] 41)) := (Below.refl _ _).alloc (Nat.le_refl _) _
  have hbw2 := hbw1.trans (hbg.mono hbw1.size)
  have hBx2 := hBx1.alloc (.cells #[.slice none 0 0, .slice none 0 0, .slice none 0 0] 41)
  clear hBx hb0 hb1 hbg hBx1
  go_wp2_with fail
  refine (unhide CQ _ hbw2).mono ?_
  rintro e w3 ⟨L, tag, rfl, H, I, hb3⟩
  obtain ⟨Ad, cd, hvd⟩ := own_slice H.done
  have hdr := (H.drow hvd).2
  rw [hvd]
  have hbw3 := hbw2.trans (hb3.mono hbw2.size)
  have hBx3 := hBx2.below hb3 hBx2.lt
  have hBg3 := hBg.below hb3 hBg.lt
  have hdl : ∀ d ∈ doneD s, d.seen.length ≤ 41 ∧ d.wrote.length ≤ 41 ∧ ∀ i ∈ d.wrote, 1 ≤ i ∧ i ≤ 6 := fun d hd => by
    have h1 := I.ok.deals d (doneD_mem I.nodup I.dnds hd).1
    have := HLN.out
    exact ⟨by have := h1.seen; omega, by have := h1.wrote; omega, h1.items⟩
  have hdn : s.dn.length ≤ 41 := by have := I.ok.dn; have := HLN.out; omega
  have CO := hide (rout_any Ad s.dn.length cd (doneD s) w3 hdr hdn hdl)
  have HDT := Lib.hid (doneD_txs I.nodup I.dnds)
  have hm1 : n1 ≤ 100000 := by have := HN1.out; omega
  have hm2 : n2 ≤ 100000 := by
    have e1 : (seenOf s).length ≤ (doneD s).length * 41 := flat_len3 fun d hd => (hdl d hd).1
    have e2 : (doneD s).length = s.dn.length := by unfold doneD; rw [List.length_map]
    have := HN2.out
    omega
  have hm3 : n3 ≤ 100000 := by have := HN3.out; rw [I.last, lastOf_len] at this; omega
  have HLA := Lib.hid I.last
  clear H I hvd hdr hdl hb3 hBx2 hBg hbw2
  go_wp2_with fail
  refine (unhide CO).mono ?_
  rintro e w4 ⟨v1, v2, v3, rfl, o1, o2, o3, hb4⟩
  obtain ⟨k1, hk1⟩ : ∃ k1, (doneD s).length = k1 := ⟨_, rfl⟩
  obtain ⟨k2, hk2⟩ : ∃ k2, ((doneD s).flatMap (·.seen)).length = k2 := ⟨_, rfl⟩
  rw [hk1] at o1
  rw [hk2] at o2
  clear hk1 hk2
  obtain ⟨B1, d1, rfl⟩ := own_slice o1
  obtain ⟨B2, d2, rfl⟩ := own_slice o2
  obtain ⟨B3, d3, rfl⟩ := own_slice o3
  have hbw4 := hbw3.trans (hb4.mono hbw3.size)
  have hBx4 := hBx3.below hb4 hBx3.lt
  have hBg4 := hBg3.below hb4 hBg3.lt
  have hs3 := hBg3.lt
  have x0 := hBg4.cellS (i := 0) (v := .slice none 0 0) rfl
  have x1 := hBg4.cellS (i := 1) (v := .slice none 0 0) rfl
  have x2 := hBg4.cellS (i := 2) (v := .slice none 0 0) rfl
  have f0 := hBg4.frozen 0
  have f1 := hBg4.frozen 1
  have f2 := hBg4.frozen 2
  have hR := ((hBg4.put 0 (.slice B1 k1 d1)).put 1 (.slice B2 k2 d2)).put 2 (.slice B3 6 d3)
  have hBx5 := ((hBx4.far (p := ⟨w1.heap.size, 0, none⟩) (by show w.heap.size ≠ w1.heap.size; omega) (.slice B1 k1 d1)).far (p := ⟨w1.heap.size, 1, none⟩) (by show w.heap.size ≠ w1.heap.size; omega) (.slice B2 k2 d2)).far (p := ⟨w1.heap.size, 2, none⟩) (by show w.heap.size ≠ w1.heap.size; omega) (.slice B3 6 d3)
  have p1 := own_far (own_far (own_far o1 (p := ⟨w1.heap.size, 0, none⟩) hs3 (.slice B1 k1 d1)) (p := ⟨w1.heap.size, 1, none⟩) hs3 (.slice B2 k2 d2)) (p := ⟨w1.heap.size, 2, none⟩) hs3 (.slice B3 6 d3)
  have p2 := own_far (own_far (own_far o2 (p := ⟨w1.heap.size, 0, none⟩) hs3 (.slice B1 k1 d1)) (p := ⟨w1.heap.size, 1, none⟩) hs3 (.slice B2 k2 d2)) (p := ⟨w1.heap.size, 2, none⟩) hs3 (.slice B3 6 d3)
  have p3 := own_far (own_far (own_far o3 (p := ⟨w1.heap.size, 0, none⟩) hs3 (.slice B1 k1 d1)) (p := ⟨w1.heap.size, 1, none⟩) hs3 (.slice B2 k2 d2)) (p := ⟨w1.heap.size, 2, none⟩) hs3 (.slice B3 6 d3)
  have hbw5 := ((hbw4.setCell (p := ⟨w1.heap.size, 0, none⟩) (by show w.heap.size ≤ w1.heap.size; omega) (.slice B1 k1 d1)).setCell (p := ⟨w1.heap.size, 1, none⟩) (by show w.heap.size ≤ w1.heap.size; omega) (.slice B2 k2 d2)).setCell (p := ⟨w1.heap.size, 2, none⟩) (by show w.heap.size ≤ w1.heap.size; omega) (.slice B3 6 d3)
  have ER := error_any 0 0 _ ((unhide HE).below hbw5 hz0)
  rw [errV_zero, decide_eq_true rfl] at ER
  have HER := hide ER
  have q1 := rd_own p1
  have q2 := rd_own p2
  have q3 := rd_own p3
  have HQ1 := hide q1
  have HQ2 := hide q2
  have HQ3 := hide q3
  have HR5 := hide hR
  have HX5 := hide hBx5
  clear ER p1 p2 p3 q1 q2 q3 hR hBx5 o1 o2 o3 hb4 hBx3 hBx4 hBg3 hBg4 hbw3 hbw4
  go_wp2_with fail
  refine (unhide HER).mono ?_
  rintro e w6 ⟨rfl, hb6⟩
  have hbw6 := hbw5.trans (hb6.mono hbw5.size)
  have hX6 := (unhide HX5).below hb6 (unhide HX5).lt
  have hG6 := (unhide HR5).below hb6 (unhide HR5).lt
  have y0 := hX6.cellS (i := 0) (v := .slice A1 n1 c1) rfl
  have y1 := hX6.cellS (i := 1) (v := .slice A2 n2 c2) rfl
  have y2 := hX6.cellS (i := 2) (v := .slice A3 n3 c3) rfl
  have z0 := hG6.cellS (i := 0) (v := .slice B1 k1 d1) rfl
  have z1 := hG6.cellS (i := 1) (v := .slice B2 k2 d2) rfl
  have z2 := hG6.cellS (i := 2) (v := .slice B3 6 d3) rfl
  have r1 := ((unhide HQ1).below hb6).more hb6.size
  have r2 := ((unhide HQ2).below hb6).more hb6.size
  have r3 := ((unhide HQ3).below hb6).more hb6.size
  rw [HDT.out] at r1
  rw [← HLA.out] at r3
  have CF := hide (outcome_true A1 A2 A3 B1 B2 B3 n1 n2 n3 c1 c2 c3 k1 k2 6 d1 d2 d3 s.dn (seenOf s) s.last w6 (unhide H1 w6 hbw6) (unhide H2 w6 hbw6) (unhide H3 w6 hbw6) r1 r2 r3 hm1 hm2 hm3)
  clear hb6 hX6 hG6 r1 r2 r3 HER hbw5 x0 x1 x2 f0 f1 f2
  go_wp2_with fail
  refine (unhide CF).mono ?_
  rintro e w7 ⟨rfl, hb7⟩
  have hbw7 := hbw6.trans (hb7.mono hbw6.size)
  go_wp2
  go_ret
  exact ⟨rfl, hbw7⟩
end Go.Proofs.YtfmdeahblaikoaaGreatDoor


/-
  CONTRACT of lanelaw2.tells at a history that is not right (printed by wip/mktells.py).
-/
import Derived.Test.YtfmdeahblaikoaaGreatDoorOutSame
import Derived.Test.YtfmdeahblaikoaaGreatDoorN1
import Derived.Test.YtfmdeahblaikoaaGreatDoorE1

namespace Go.Proofs.YtfmdeahblaikoaaGreatDoor
open Go.RowKit

set_option maxRecDepth 100000 in
set_option maxHeartbeats 4000000 in
theorem tells_no (K : Int) (A : Option Addr) (n c : Nat) (h : List HOp) (w : World) (hE : Et w) (hr : Rd w w.heap.size 3 A n (cellsH h)) (hm : n ≤ 6000000000000) (hno : ¬ okH h) :
    Calls Tryz.prog 14 #[.slice A n c, .int .i64 K, .agg #[.slice none 0 0, .slice none 0 0, .slice none 0 0], errV (checkF h).2] w fun e w' => e = .returned (.bool true) ∧ Below w.heap.size w w' := by
  have hz0 := hE.pos
  have HE := hide hE
  have CR := hide (fun w1 (hb : Below w.heap.size w w1) => rright_any A n c h w1 ((hr.below hb).more hb.size) hm)
  have hne : (checkF h).2 ≠ 0 := hno
  generalize (checkF h).2 = ev at *
  have hne2 : (ev == 0) = false := by simpa using hne
  have hBx := Blk.new w 41 [.slice none 0 0, .slice none 0 0, .slice none 0 0]
  have hb0 : Below w.heap.size w (w.alloc (.cells #[.slice none 0 0, .slice none 0 0, .slice none 0 0] 41)) := (Below.refl _ _).alloc (Nat.le_refl _) _
  clear hr hno hne hE
  go_enter Tryz.func14, Tryz.ntmps14
  go_wp2_with fail
  refine (unhide CR _ hb0).mono ?_
  rintro e w1 ⟨rfl, hb1⟩
  have hbw1 := hb0.trans (hb1.mono (by simp))
  have hBx1 := hBx.below hb1 (by simp)
  have hBg := Blk.new w1 41 [.slice none 0 0, .slice none 0 0, .slice none 0 0]
  have hbg : Below w1.heap.size w1 (w1.alloc (.cells #[.slice none 0 0, .slice none 0 0, .slice none 0 0] 41)) := (Below.refl _ _).alloc (Nat.le_refl _) _
  have hbw2 := hbw1.trans (hbg.mono hbw1.size)
  have hBx2 := hBx1.alloc (.cells #[.slice none 0 0, .slice none 0 0, .slice none 0 0] 41)
  have ER := error_any ev ev _ ((unhide HE).below hbw2 hz0)
  rw [decide_eq_true rfl] at ER
  have HER := hide ER
  have HX := hide hBx2
  have HG := hide hBg
  clear hBx hb0 hb1 hbg hBx1 ER hBx2 hBg
  go_wp2_with fail
  refine (unhide HER).mono ?_
  rintro e w6 ⟨rfl, hb6⟩
  have hbw6 := hbw2.trans (hb6.mono hbw2.size)
  have hX6 := (unhide HX).below hb6 (unhide HX).lt
  have hG6 := (unhide HG).below hb6 (unhide HG).lt
  have y0 := hX6.cellS (i := 0) (v := .slice none 0 0) rfl
  have y1 := hX6.cellS (i := 1) (v := .slice none 0 0) rfl
  have y2 := hX6.cellS (i := 2) (v := .slice none 0 0) rfl
  have z0 := hG6.cellS (i := 0) (v := .slice none 0 0) rfl
  have z1 := hG6.cellS (i := 1) (v := .slice none 0 0) rfl
  have z2 := hG6.cellS (i := 2) (v := .slice none 0 0) rfl
  have CF := hide (outcome_true none none none none none none 0 0 0 0 0 0 0 0 0 0 0 0 [] [] [] w6 Rd.nil Rd.nil Rd.nil Rd.nil Rd.nil Rd.nil (by omega) (by omega) (by omega))
  clear hb6 hX6 hG6 HER hbw2
  go_wp2_with fail
  refine (unhide CF).mono ?_
  rintro e w7 ⟨rfl, hb7⟩
  have hbw7 := hbw6.trans (hb7.mono hbw6.size)
  go_wp2
  go_ret
  exact ⟨rfl, hbw7⟩
end Go.Proofs.YtfmdeahblaikoaaGreatDoor

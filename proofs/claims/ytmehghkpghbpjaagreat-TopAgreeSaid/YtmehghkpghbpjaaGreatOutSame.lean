
/-
  CONTRACT of lanesame.Outcome, at two that are the same.
-/
import Derived.Test.YtmehghkpghbpjaaGreatQ1
import Derived.Test.YtmehghkpghbpjaaGreatQ0
import Derived.BigQuiet
import Derived.Deep.DeepCutAuto

namespace Go.Proofs.YtmehghkpghbpjaaGreat
open Go.RowKit

set_option maxRecDepth 100000 in
set_option maxHeartbeats 2000000 in
theorem outcome_true (A1 A2 A3 B1 B2 B3 : Option Addr) (n1 n2 n3 c1 c2 c3 m1 m2 m3 d1 d2 d3 : Nat) (dn : List Int) (seen : List HOp) (last : List Int) (w : World)
    (ha1 : Rd w w.heap.size 1 A1 n1 (cellsI dn)) (ha2 : Rd w w.heap.size 3 A2 n2 (cellsH seen)) (ha3 : Rd w w.heap.size 1 A3 n3 (cellsI last))
    (hb1 : Rd w w.heap.size 1 B1 m1 (cellsI dn)) (hb2 : Rd w w.heap.size 3 B2 m2 (cellsH seen)) (hb3 : Rd w w.heap.size 1 B3 m3 (cellsI last)) (hn1 : n1 ≤ 100000) (hn2 : n2 ≤ 100000) (hn3 : n3 ≤ 100000) :
    Calls Tryz.prog 20 #[.agg #[.slice A1 n1 c1, .slice A2 n2 c2, .slice A3 n3 c3], .agg #[.slice B1 m1 d1, .slice B2 m2 d2, .slice B3 m3 d3]] w fun e w' => e = .returned (.bool true) ∧ Below w.heap.size w w' := by
  obtain rfl : n2 = m2 := by rw [← ha2.hlen, ← hb2.hlen]
  have hnm2 : ((n2 : Int) != (n2 : Int)) = false := by simp
  have hB0 : Blk ((w.alloc (.cells #[.slice A1 n1 c1, .slice A2 n2 c2, .slice A3 n3 c3] 40)).alloc (.cells #[.slice B1 m1 d1, .slice B2 n2 d2, .slice B3 m3 d3] 40)) w.heap.size 40 [.slice A1 n1 c1, .slice A2 n2 c2, .slice A3 n3 c3] := (Blk.new w 40 [.slice A1 n1 c1, .slice A2 n2 c2, .slice A3 n3 c3]).alloc _
  have hB1 := Blk.new (w.alloc (.cells #[.slice A1 n1 c1, .slice A2 n2 c2, .slice A3 n3 c3] 40)) 40 [.slice B1 m1 d1, .slice B2 n2 d2, .slice B3 m3 d3]
  rw [show (w.alloc (.cells #[.slice A1 n1 c1, .slice A2 n2 c2, .slice A3 n3 c3] 40)).heap.size = w.heap.size + 1 by simp] at hB1
  have hb0 : Below w.heap.size w ((w.alloc (.cells #[.slice A1 n1 c1, .slice A2 n2 c2, .slice A3 n3 c3] 40)).alloc (.cells #[.slice B1 m1 d1, .slice B2 n2 d2, .slice B3 m3 d3] 40)) := ((Below.refl _ _).alloc (Nat.le_refl _) _).alloc (by simp) _
  obtain ⟨W, hW⟩ : ∃ W, W = (w.alloc (.cells #[.slice A1 n1 c1, .slice A2 n2 c2, .slice A3 n3 c3] 40)).alloc (.cells #[.slice B1 m1 d1, .slice B2 n2 d2, .slice B3 m3 d3] 40) := ⟨_, rfl⟩
  rw [← hW] at hB0 hB1 hb0
  have HX := hide (fun w' (hb : Below W.heap.size W w') => show Below w.heap.size w w' ∧ Blk w' w.heap.size 40 [.slice A1 n1 c1, .slice A2 n2 c2, .slice A3 n3 c3] ∧ Blk w' (w.heap.size + 1) 40 [.slice B1 m1 d1, .slice B2 n2 d2, .slice B3 m3 d3] ∧ (Rd w' w'.heap.size 1 A1 n1 (cellsI dn) ∧ Rd w' w'.heap.size 1 B1 m1 (cellsI dn)) ∧ (Rd w' w'.heap.size 3 A2 n2 (cellsH seen) ∧ Rd w' w'.heap.size 3 B2 n2 (cellsH seen)) ∧ (Rd w' w'.heap.size 1 A3 n3 (cellsI last) ∧ Rd w' w'.heap.size 1 B3 m3 (cellsI last)) from by
    have hx := hb0.trans (hb.mono hb0.size)
    exact ⟨hx, hB0.below hb hB0.lt, hB1.below hb hB1.lt, ⟨(ha1.below hx).more hx.size, (hb1.below hx).more hx.size⟩, ⟨(ha2.below hx).more hx.size, (hb2.below hx).more hx.size⟩, (ha3.below hx).more hx.size, (hb3.below hx).more hx.size⟩)
  have CI := hide (fun w' (hb : Below W.heap.size W w') => ints_any A1 B1 n1 m1 c1 d1 dn dn w' (unhide HX w' hb).2.2.2.1.1 (unhide HX w' hb).2.2.2.1.2 (by omega))
  have CL := hide (fun w' (hb : Below W.heap.size W w') => ints_any A3 B3 n3 m3 c3 d3 last last w' (unhide HX w' hb).2.2.2.2.2.1 (unhide HX w' hb).2.2.2.2.2.2 (by omega))
  rw [decide_eq_true (rfl : dn = dn)] at CI
  rw [decide_eq_true (rfl : last = last)] at CL
  have hb00 : Below W.heap.size W W := Below.refl _ _
  obtain ⟨_, hBa, hBb, _⟩ := unhide HX W hb00
  have x0 := hBa.cellS (i := 0) (v := .slice A1 n1 c1) rfl
  have y0 := hBb.cellS (i := 0) (v := .slice B1 m1 d1) rfl
  rw [hW] at x0 y0
  have C0 := unhide CI W hb00
  rw [hW] at C0
  have HC0 := hide C0
  clear C0
  clear ha1 ha2 ha3 hb1 hb2 hb3 hB0 hB1 hb0 hBa hBb hb00
  go_enter Tryz.func20, Tryz.ntmps20
  go_wp2_with fail
  refine (unhide HC0).mono ?_
  rintro e w1 ⟨rfl, hb1⟩
  rw [← hW] at hb1
  obtain ⟨_, hBa, hBb, _⟩ := unhide HX w1 hb1
  have x2 := hBa.cellS (i := 2) (v := .slice A3 n3 c3) rfl
  have y2 := hBb.cellS (i := 2) (v := .slice B3 m3 d3) rfl
  clear hBa hBb x0 y0
  go_wp2_with fail
  refine (unhide CL w1 hb1).mono ?_
  rintro e w2 ⟨rfl, hb2⟩
  have hbw2 := hb1.trans (hb2.mono hb1.size)
  obtain ⟨_, hBa, hBb, _⟩ := unhide HX w2 hbw2
  have x1 := hBa.cellS (i := 1) (v := .slice A2 n2 c2) rfl
  have y1 := hBb.cellS (i := 1) (v := .slice B2 n2 d2) rfl
  clear hBa hBb x2 y2
  go_wp2
  clear hnm2
  go_loopw [7] (fun i wr => ∃ k : Nat, k ≤ n2 ∧ i = .int .i64 k ∧ Below W.heap.size W wr) (fun i _ => n2 - (intOf i).toNat)
  case atStart => exact ⟨0, Nat.zero_le _, rfl, hbw2⟩
  case round =>
    clear x1 y1
    obtain ⟨k, hk, rfl, hbw⟩ := hrel
    obtain ⟨hbx, hBa, hBb, _, ⟨hra, hrb⟩, _⟩ := unhide HX wr hbw
    have x1 := hBa.cellS (i := 1) (v := .slice A2 n2 c2) rfl
    have y1 := hBb.cellS (i := 1) (v := .slice B2 n2 d2) rfl
    by_cases hlt : k < n2
    · obtain ⟨b1, o1, x, he, _, hx, c1', c2', c3'⟩ := hra.op (k := k) (by omega)
      cases he
      obtain ⟨b2, o2, y, he, _, hy, d1', d2', d3'⟩ := hrb.op (k := k) (by omega)
      cases he
      obtain rfl : x = y := by rw [hx] at hy; exact Option.some.inj hy
      clear hx hy hBa hBb hra hrb
      go_upto_region 8 with fail
      go_quiet (fail)
      go_wp2
      go_roundw
      case rel => exact ⟨k + 1, by omega, by go_num, below_drewN hbw _⟩
      case measure => simp [intOf]; omega
    · clear hBa hBb hra hrb
      go_wp2
      go_ret
      exact ⟨rfl, hbx⟩
end Go.Proofs.YtmehghkpghbpjaaGreat

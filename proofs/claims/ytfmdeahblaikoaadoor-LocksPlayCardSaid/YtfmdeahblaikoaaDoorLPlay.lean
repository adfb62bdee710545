
/-
  CONTRACTS for lanelaw1.LocksPlay: two tables side by side; lanesame.Locks at equal ones; locks.For at any lock.
-/
import Derived.Test.YtfmdeahblaikoaaDoorRLock5
import Derived.Test.YtfmdeahblaikoaaDoorSame
import Derived.Test.YtfmdeahblaikoaaDoorPieces

namespace Go.Proofs.YtfmdeahblaikoaaDoor
open Go.RowKit

theorem keptQ_below {w w' : World} {lo g : Nat} {v1 v2 v1' v2' : Value} {H W : List HOp} (T : TabQ w lo g v1 v2 H W) (h : KeptQ w w' g v1 v2 v1' v2') (hlo : lo ≤ w.heap.size) : Below lo w w' :=
  h.1.below (fun k hk => by
    rcases hk with rfl | hk | hk
    · exact T.lo
    · exact (T.held.lt k hk).1
    · exact (T.waits.lt k hk).1) hlo
/-- A table of the program's at x, one of the reference's at y. -/
structure Two (w : World) (x y : Nat) (v1 v2 u1 u2 : Value) (H W H' W' : List HOp) : Prop where
  t : Tab w x x v1 v2 H W
  q : TabQ w y y u1 u2 H' W'
  sep : ∀ k, (v1.ownBlock = some k ∨ v2.ownBlock = some k) → ¬ (u1.ownBlock = some k ∨ u2.ownBlock = some k)
  xy : x < y
section
variable {w w' : World} {x y : Nat} {v1 v2 u1 u2 : Value} {H W H' W' : List HOp}
theorem Two.below (h : Two w x y v1 v2 u1 u2 H W H' W') (hb : Below w.heap.size w w') : Two w' x y v1 v2 u1 u2 H W H' W' := ⟨h.t.below hb, h.q.below hb, h.sep, h.xy⟩
theorem Two.left (h : Two w x y v1 v2 u1 u2 H W H' W') {v1' v2' : Value} {H2 W2 : List HOp} (T : Tab w' x x v1' v2' H2 W2) (K : Kept w w' x v1 v2 v1' v2') : Two w' x y v1' v2' u1 u2 H2 W2 H' W' := by
  have hu : ∀ k, (u1.ownBlock = some k ∨ u2.ownBlock = some k) → y ≤ k ∧ k < w.heap.size := fun k hk => hk.elim (fun e => h.q.held.lt k e) (fun e => h.q.waits.lt k e)
  have hxy := h.xy
  have hS : ∀ k, (u1.ownBlock = some k ∨ u2.ownBlock = some k) → ¬ (k = x ∨ v1.ownBlock = some k ∨ v2.ownBlock = some k) := fun k hk e => by
    rcases e with rfl | e
    · have := (hu _ hk).1; omega
    · exact h.sep k e hk
  refine ⟨T, h.q.chg K.1 (fun e => ?_) (fun k hk => hS k (.inl hk)) (fun k hk => hS k (.inr hk)), fun k hk hu2 => ?_, hxy⟩
  · rcases e with e | e | e
    · omega
    · exact blk_no_row h.q.blk h.t.held (by decide) e
    · exact blk_no_row h.q.blk h.t.waits (by decide) e
  · have h1 := (hu k hu2).2
    rcases hk with hk | hk
    · rcases K.2.1 with e | ⟨j, e, hj⟩
      · exact h.sep k (.inl (e.symm.trans hk)) hu2
      · rw [e] at hk; injection hk with hk; omega
    · rcases K.2.2 with e | e | ⟨j, e, hj⟩
      · exact h.sep k (.inr (e.symm.trans hk)) hu2
      · rw [e] at hk; cases hk
      · rw [e] at hk; injection hk with hk; omega
theorem Two.right (h : Two w x y v1 v2 u1 u2 H W H' W') {u1' u2' : Value} {H2 W2 : List HOp} (T : TabQ w' y y u1' u2' H2 W2) (K : KeptQ w w' y u1 u2 u1' u2') : Two w' x y v1 v2 u1' u2' H W H2 W2 := by
  have hu : ∀ k, (u1.ownBlock = some k ∨ u2.ownBlock = some k) → y ≤ k ∧ k < w.heap.size := fun k hk => hk.elim (fun e => h.q.held.lt k e) (fun e => h.q.waits.lt k e)
  have hv : ∀ k, (v1.ownBlock = some k ∨ v2.ownBlock = some k) → k < w.heap.size := fun k hk => hk.elim (fun e => (h.t.held.lt k e).2) (fun e => (h.t.waits.lt k e).2)
  have hxy := h.xy
  have hS : ∀ k, (v1.ownBlock = some k ∨ v2.ownBlock = some k) → ¬ (k = y ∨ u1.ownBlock = some k ∨ u2.ownBlock = some k) := fun k hk e => by
    rcases e with rfl | e
    · rcases hk with hk | hk
      · exact blk_no_row h.q.blk h.t.held (by decide) hk
      · exact blk_no_row h.q.blk h.t.waits (by decide) hk
    · exact h.sep k hk e
  refine ⟨h.t.chg K.1 (fun e => ?_) (fun k hk => hS k (.inl hk)) (fun k hk => hS k (.inr hk)), T, fun k hk hu2 => ?_, hxy⟩
  · rcases e with e | e
    · omega
    · have := (hu x e).1; omega
  · have h1 := hv k hk
    rcases hu2 with hu2 | hu2
    · rcases K.2.1 with e | e | ⟨j, e, hj⟩
      · exact h.sep k hk (.inl (e.symm.trans hu2))
      · rw [e] at hu2; cases hu2
      · rw [e] at hu2; injection hu2 with hu2; omega
    · rcases K.2.2 with e | e | ⟨j, e, hj⟩
      · exact h.sep k hk (.inr (e.symm.trans hu2))
      · rw [e] at hu2; cases hu2
      · rw [e] at hu2; injection hu2 with hu2; omega
end
theorem rd_nil3 (w : World) (B : Nat) : Rd w B 3 none 0 (cellsH []) := ⟨rfl, fun h => absurd h (Nat.lt_irrefl 0)⟩

set_option maxHeartbeats 400000 in
theorem lsame_any (A B : Option Addr) (n c d : Nat) (xs : List HOp) (w : World) (ha : Rd w w.heap.size 3 A n (cellsH xs)) (hb : Rd w w.heap.size 3 B n (cellsH xs)) (hm : n ≤ 1000000000000) :
    Calls Tryd.prog 13 #[.slice A n c, .slice B n d] w fun e w' => e = .returned (.bool true) ∧ Below w.heap.size w w' := by
  have hnm2 : ((n : Int) != (n : Int)) = false := by simp
  go_enter Tryd.func13, Tryd.ntmps13
  go_wp2
  clear hnm2
  go_loopw [5] (fun i wr => ∃ k : Nat, k ≤ n ∧ i = .int .i64 k ∧ Below w.heap.size w wr) (fun i _ => n - (intOf i).toNat)
  case atStart => exact ⟨0, Nat.zero_le _, rfl, Below.refl _ _⟩
  case round =>
    obtain ⟨k, hk, rfl, hbw⟩ := hrel
    by_cases hlt : k < n
    · obtain ⟨b1, o1, x, he, _, hx, c1, c2, c3⟩ := (ha.below hbw).op (k := k) (by omega)
      cases he
      obtain ⟨b2, o2, y, he, _, hy, d1, d2, d3⟩ := (hb.below hbw).op (k := k) (by omega)
      cases he
      obtain rfl : x = y := Option.some.inj (hx.symm.trans hy)
      clear hx hy
      go_wp2
      go_quiet (fail)
      go_wp2
      go_roundw
      case rel => exact ⟨k + 1, by omega, by go_num, below_drewN hbw _⟩
      case measure => simp [intOf]; omega
    · go_wp2
      go_ret
      exact ⟨rfl, hbw⟩
/-- The fault of For; for whom a lock waits then. -/
def forE (l : HOp) : Int := if lrightB l = true then 0 else 1
def forLL (H W : List HOp) (l : HOp) : List Int := if lrightB l = true then forF ⟨H, W⟩ l else []
set_option maxHeartbeats 400000 in
theorem lfor_no (g : Nat) (l : HOp) (w : World) (hl : lrightB l = false) :
    Calls Tryd.prog 18 #[.pointer (some ⟨g, 0, none⟩), l.val] w fun e w' => e = .returned (.tuple #[.slice none 0 0, .iface 100 (.int .i64 1)]) ∧ Below w.heap.size w w' := by
  have CR := hide (fun w1 => lright_any l w1)
  rw [hl] at CR
  obtain ⟨l1, l2, l3⟩ := l
  have hb0 : Below w.heap.size w (w.alloc (.cells #[.int .i64 l1, .int .i64 l2, .int .i64 l3] 35)) := (Below.refl _ _).alloc (Nat.le_refl _) _
  unfold HOp.val at CR ⊢
  clear hl
  go_enter Tryd.func18, Tryd.ntmps18
  go_wp2_with fail
  refine (unhide CR _).mono ?_
  rintro e w1 ⟨rfl, hb1⟩
  have hbw := hb0.trans (hb1.mono hb0.size)
  go_wp2
  go_ret2
  exact ⟨rfl, hbw⟩
theorem lfor_all (lo g : Nat) (v1 v2 : Value) (H W : List HOp) (l : HOp) (w : World) (T : Tab w lo g v1 v2 H W) (hh : H.length ≤ 100000) (hw : W.length ≤ 100000) :
    Calls Tryd.prog 18 #[.pointer (some ⟨g, 0, none⟩), l.val] w fun e w' => ∃ v, e = .returned (.tuple #[v, errV (forE l)]) ∧ w'.ownsRow w.heap.size 3 1 v (forLL H W l).length (cellsI (forLL H W l)) ∧ Below w.heap.size w w' := by
  cases hR : lrightB l
  · refine (lfor_no g l w hR).mono ?_
    rintro e w' ⟨rfl, hb⟩
    refine ⟨.slice none 0 0, ?_, ?_, hb⟩
    · unfold forE; rw [hR]; rfl
    · unfold forLL; rw [hR]; exact World.ownsRow_nil _ _ _ _
  · refine (lfor_walk lo g v1 v2 H W l w T hh hw hR).mono ?_
    rintro e w' ⟨v, rfl, ho, hb⟩
    refine ⟨v, ?_, ?_, hb⟩
    · unfold forE; rw [hR]; rfl
    · unfold forLL; rw [hR]; exact ho
end Go.Proofs.YtfmdeahblaikoaaDoor

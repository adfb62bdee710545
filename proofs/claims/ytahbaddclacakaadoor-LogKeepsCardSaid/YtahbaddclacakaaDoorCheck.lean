
/-
  CONTRACTS of history.Check, Right.
-/
import Derived.Test.YtahbaddclacakaaDoorBase
import Derived.Deep.RegionHeld3
import Derived.Deep.LoopGhost

namespace Go.Proofs.YtahbaddclacakaaDoor
open Go.RowKit

def errV (e : Int) : Value := if e = 0 then .nilIface else .iface 56 (.int .i64 e)
def checkGo (es : List Bool) (i : Nat) : List HOp → Nat × Int
  | [] => (0, 0)
  | o :: t => if rightB o = false then (i, 1) else if es.getD o.tx.toNat false = true then (i, 6) else checkGo (es.set o.tx.toNat (endsB o)) (i + 1) t
def checkF (h : List HOp) : Nat × Int := if 40 < h.length then (0, 4) else checkGo (List.replicate 7 false) 0 h

set_option maxHeartbeats 1000000 in
theorem check_any (A : Option Addr) (n cap : Nat) (h : List HOp) (w : World) (hr : Rd w w.heap.size 3 A n (cellsH h)) (hm : n ≤ 6000000000000) :
    Calls Tryd.prog 26 #[.slice A n cap] w fun e w' => e = .returned (.tuple #[.int .i64 (checkF h).1, errV (checkF h).2]) ∧ Below w.heap.size w w' := by
  have hl := hr.hlen
  have HL := Lib.hid hl
  by_cases hn : 40 < n
  · have hr : checkF h = (0, 4) := by rw [checkF, hl, if_pos hn]
    rw [hr]
    clear hl
    go_enter Tryd.func26, Tryd.ntmps26
    go_wp2
    go_ret2
    exact ⟨rfl, Below.refl _ _⟩
  · have hs : checkF h = checkGo (List.replicate 7 false) 0 h := by rw [checkF, hl, if_neg hn]
    rw [hs]
    clear hl hs
    go_enter Tryd.func26, Tryd.ntmps26
    go_wp2
    go_loopw [13] (fun i wr => ∃ (k : Nat) (es : List Bool), k ≤ n ∧ i = .int .i64 k ∧ es.length = 7 ∧ Blk wr w.heap.size 77 (es.map .bool) ∧ Hid (checkGo (List.replicate 7 false) 0 h = checkGo es k (h.drop k)) ∧ Below w.heap.size w wr)
      (fun i _ => n - (intOf i).toNat)
    case atStart => exact ⟨0, List.replicate 7 false, Nat.zero_le _, rfl, rfl, Blk.new w _ _, rfl, (Below.refl _ _).alloc (Nat.le_refl _) _⟩
    case round =>
      obtain ⟨k, es, hk, rfl, hes, hB, HE, hbw⟩ := hrel
      have hBlt := hB.lt
      by_cases hlt : k < n
      · obtain ⟨b, off, o, he, hb, ho, c0, c1, c2⟩ := (hr.below hbw).op (k := k) (by omega)
        cases he
        obtain ⟨tx, what, item⟩ := o
        have HO : Hid (h.drop k = ⟨tx, what, item⟩ :: h.drop (k + 1)) := drop_at ho
        clear ho
        have hb' : b < wr.heap.size := by omega
        cases hR : rightB ⟨tx, what, item⟩
        · have HF : Hid (checkGo (List.replicate 7 false) 0 h = (k, 1)) := Lib.hid (by rw [HE.out, HO.out]; simp [checkGo, hR])
          go_wp2_with (go_at_call 44; refine (right_any ⟨tx, what, item⟩ _).mono ?_; rintro e w1 ⟨rfl, hb1⟩; rw [hR]; obtain ⟨hc, hf⟩ := bcell hb1)
          go_ret2
          exact ⟨by rw [HF.out]; rfl, (hbw.alloc (Nat.le_of_lt hBlt) _).trans (hb1.mono (by simp; omega))⟩
        · have ht : 1 ≤ tx ∧ tx ≤ 6 := by simp [rightB, txB] at hR; omega
          obtain ⟨eb, heb⟩ : ∃ eb, es[tx.toNat]? = some eb := ⟨_, List.getElem?_eq_getElem (by omega)⟩
          have hct : wr.cell? ⟨w.heap.size, tx.toNat, none⟩ = some (.bool eb) := hB.cellS (by rw [List.getElem?_map, heb]; rfl)
          have hft : wr.frozen? ⟨w.heap.size, tx.toNat, none⟩ = false := hB.frozen _
          obtain ⟨ht1, ht2⟩ := ht
          cases eb
          · have HF : Hid (checkGo (List.replicate 7 false) 0 h = checkGo (es.set tx.toNat (endsB ⟨tx, what, item⟩)) (k + 1) (h.drop (k + 1))) := Lib.hid (by rw [HE.out, HO.out]; simp [checkGo, hR, heb])
            have HEB := Lib.hid heb; clear heb
            go_wp2_with (first
              | (go_at_call 44; refine (right_any ⟨tx, what, item⟩ _).mono ?_; rintro e w1 ⟨rfl, hb1⟩; rw [hR]; obtain ⟨hc, hf⟩ := bcell hb1))
            have hz : wr.heap.size < w1.heap.size := by have := hb1.size; simp at this; omega
            have hz' : w.heap.size < w1.heap.size := by omega
            have hb2 : Below w.heap.size w w1 := (hbw.alloc (Nat.le_of_lt hBlt) _).trans (hb1.mono (by simp; omega))
            have hB1 : Blk w1 w.heap.size 77 (es.map .bool) := (hB.alloc _).below hb1 (by simp; omega)
            have d0 : w1.cell? ⟨wr.heap.size, 0, none⟩ = some (.int .i64 tx) := by rw [hc _ _ (by simp)]; simp [World.cell?_alloc_new]
            have d1 : w1.cell? ⟨wr.heap.size, 1, none⟩ = some (.int .i64 what) := by rw [hc _ _ (by simp)]; simp [World.cell?_alloc_new]
            have d2 : w1.cell? ⟨wr.heap.size, 2, none⟩ = some (.int .i64 item) := by rw [hc _ _ (by simp)]; simp [World.cell?_alloc_new]
            have d3 : w1.cell? ⟨w.heap.size, tx.toNat, none⟩ = some (.bool false) := hB1.cellS (by rw [List.getElem?_map, HEB.out]; rfl)
            have d4 : w1.frozen? ⟨w.heap.size, tx.toNat, none⟩ = false := hB1.frozen _
            clear hc hf hb1
            go_region_with (first | (go_at_call 45; refine (ends_any ⟨tx, what, item⟩ _).mono ?_; rintro e w2 ⟨rfl, hb3⟩; have e0 := (hb3.cell (p := ⟨wr.heap.size, 0, none⟩) (by simp; omega)).trans d0; have e1 := (hb3.cell (p := ⟨wr.heap.size, 1, none⟩) (by simp; omega)).trans d1; have e2 := (hb3.cell (p := ⟨wr.heap.size, 2, none⟩) (by simp; omega)).trans d2; have e3 := (hb3.cell (p := ⟨w.heap.size, tx.toNat, none⟩) (by simp; omega)).trans d3; have e4 := (hb3.frozen (p := ⟨w.heap.size, tx.toNat, none⟩) (by simp; omega)).trans d4))
            all_goals
              go_wp2
              go_roundw
              case rel => exact ⟨k + 1, es.set tx.toNat (endsB ⟨tx, what, item⟩), by omega, by go_num, by simp [hes], by rw [List.map_set]; exact (hB1.drew.below hb3 hz').put _ _, HF, (hb2.drew.trans (hb3.mono (Nat.le_of_lt hz'))).setCell (Nat.le_refl _) _⟩
              case measure => simp [intOf]; omega
          · have HF : Hid (checkGo (List.replicate 7 false) 0 h = (k, 6)) := Lib.hid (by rw [HE.out, HO.out]; simp [checkGo, hR, heb])
            clear heb
            go_wp2_with (first
              | (go_at_call 44; refine (right_any ⟨tx, what, item⟩ _).mono ?_; rintro e w1 ⟨rfl, hb1⟩; rw [hR]; obtain ⟨hc, hf⟩ := bcell hb1))
            go_ret2
            exact ⟨by rw [HF.out]; rfl, (hbw.alloc (Nat.le_of_lt hBlt) _).trans (hb1.mono (by simp; omega))⟩
      · have HF : Hid (checkGo (List.replicate 7 false) 0 h = (0, 0)) := Lib.hid (by rw [HE.out, drop_end (by rw [HL.out]; omega)]; rfl)
        go_wp2
        go_ret2
        exact ⟨by rw [HF.out]; rfl, hbw⟩

theorem right_h (A : Option Addr) (n cap : Nat) (h : List HOp) (w : World) (hr : Rd w w.heap.size 3 A n (cellsH h)) (hm : n ≤ 6000000000000) :
    Calls Tryd.prog 28 #[.slice A n cap] w fun e w' => e = .returned (errV (checkF h).2) ∧ Below w.heap.size w w' := by
  have C := check_any A n cap h w hr hm
  generalize errV (checkF h).2 = ev at *
  generalize (checkF h).1 = iv at *
  go_enter Tryd.func28, Tryd.ntmps28
  go_wp2_with (go_at_call 26; refine (C).mono ?_; rintro e w1 ⟨rfl, hb1⟩)
  go_ret
  exact ⟨rfl, hb1⟩
end Go.Proofs.YtahbaddclacakaaDoor

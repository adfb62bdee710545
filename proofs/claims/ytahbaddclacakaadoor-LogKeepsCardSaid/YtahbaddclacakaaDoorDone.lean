
/-
  CONTRACTS of history.DoneOf, Done: the ops of the deals that commit.
-/
import Derived.Test.YtahbaddclacakaaDoorN0
import Derived.Test.YtahbaddclacakaaDoorCheck
import Derived.RegionTactic
import Derived.BigRegion

namespace Go.Proofs.YtahbaddclacakaaDoor
open Go.RowKit

def flagsGo (es : List Bool) : List HOp → List Bool
  | [] => es
  | o :: t => flagsGo (es.set o.tx.toNat (es.getD o.tx.toNat false || decide (o.what = 3))) t
def flagsF (h : List HOp) : List Bool := flagsGo (List.replicate 7 false) h
def doneL (h : List HOp) : List HOp := h.filter fun o => (flagsF h).getD o.tx.toNat false

theorem flagsGo_length (es : List Bool) (h : List HOp) : (flagsGo es h).length = es.length := by
  induction h generalizing es with
  | nil => rfl
  | cons o t ih => simp [flagsGo, ih]
theorem flagsF_length (h : List HOp) : (flagsF h).length = 7 := by simp [flagsF, flagsGo_length]

set_option maxHeartbeats 400000 in
theorem doneOf1_any (o : HOp) (es : List Bool) (g : Nat) (ho : 1 ≤ o.tx ∧ o.tx ≤ 6) (w : World) (hB : Blk w g 77 (es.map .bool)) (hes : es.length = 7) :
    Calls Tryd.prog 58 #[o.val, .pointer (some ⟨g, 0, none⟩)] w fun e w' => e = .returned (.bool (!es.getD o.tx.toNat false)) ∧ Below w.heap.size w w' := by
  obtain ⟨tx, what, item⟩ := o
  obtain ⟨h1, h2⟩ := ho
  simp only at h1 h2
  obtain ⟨eb, heb⟩ : ∃ eb, es[tx.toNat]? = some eb := ⟨_, List.getElem?_eq_getElem (by omega)⟩
  have hlt := hB.lt
  have hc : (w.alloc (.cells #[.int .i64 tx, .int .i64 what, .int .i64 item] 28)).cell? ⟨g, tx.toNat, none⟩ = some (.bool eb) := (hB.alloc _).cellS (by rw [List.getElem?_map, heb]; rfl)
  have HR : Hid ((!es.getD tx.toNat false) = !eb) := by rw [List.getD_eq_getElem?_getD, heb]; exact rfl
  clear heb hB hes
  unfold HOp.val
  go_enter Tryd.func58, Tryd.ntmps58
  go_wp2
  go_ret
  exact ⟨ret_bool HR.out.symm, (Below.refl _ _).alloc (Nat.le_refl _) _⟩

theorem call_doneOf1 (args : Array Value) (w : World) : (callFunc 58 args).run Tryd.prog w = .ok (.enter 58 args) w := by kernel_rfl

set_option maxHeartbeats 1000000 in
theorem doneOf_any (A : Option Addr) (n cap : Nat) (h : List HOp) (w : World) (hr : Rd w w.heap.size 3 A n (cellsH h)) (hm : n ≤ 1000000) (ht : ∀ o ∈ h, 1 ≤ o.tx ∧ o.tx ≤ 6) :
    Calls Tryd.prog 40 #[.slice A n cap] w fun e w' => ∃ A' m c', e = .returned (.slice A' m c') ∧ w'.ownsRow w.heap.size 28 3 (.slice A' m c') m (cellsH (doneL h)) ∧ Below w.heap.size w w' := by
  have hl := hr.hlen
  have HL := Lib.hid hl
  have HT := Lib.hid ht
  clear hl ht
  go_enter Tryd.func40, Tryd.ntmps40
  go_wp2
  go_loopw [8] (fun i wr => ∃ (k : Nat) (es : List Bool), k ≤ n ∧ i = .int .i64 k ∧ es.length = 7 ∧ Blk wr w.heap.size 77 (es.map .bool) ∧ Hid (flagsF h = flagsGo es (h.drop k)) ∧ Below w.heap.size w wr)
    (fun i _ => n - (intOf i).toNat)
  case atStart => exact ⟨0, List.replicate 7 false, Nat.zero_le _, rfl, rfl, Blk.new w _ _, rfl, (Below.refl _ _).alloc (Nat.le_refl _) _⟩
  case round =>
    obtain ⟨k, es, hk, rfl, hes, hB, HE, hbw⟩ := hrel
    have hBlt := hB.lt
    by_cases hlt : k < n
    · obtain ⟨b, off, o, he, hb, ho, c0, c1, c2⟩ := (hr.below hbw).op (k := k) (by omega)
      cases he
      obtain ⟨h1, h2⟩ := HT.out o (List.mem_of_getElem? ho)
      obtain ⟨tx, what, item⟩ := o
      simp only at h1 h2 c0 c1 c2
      have HO : Hid (h.drop k = ⟨tx, what, item⟩ :: h.drop (k + 1)) := drop_at ho
      clear ho
      have hb' : b < wr.heap.size := by omega
      obtain ⟨eb, heb⟩ : ∃ eb, es[tx.toNat]? = some eb := ⟨_, List.getElem?_eq_getElem (by omega)⟩
      have hct : (wr.alloc (.cells #[.int .i64 tx, .int .i64 what, .int .i64 item] 28)).cell? ⟨w.heap.size, tx.toNat, none⟩ = some (.bool eb) := (hB.alloc _).cellS (by rw [List.getElem?_map, heb]; rfl)
      have hft : (wr.alloc (.cells #[.int .i64 tx, .int .i64 what, .int .i64 item] 28)).frozen? ⟨w.heap.size, tx.toNat, none⟩ = false := (hB.alloc _).frozen _
      have hz : tx.toNat < 7 := by omega
      cases eb
      · by_cases hw3 : what = 3
        · subst hw3
          have HF : Hid (flagsF h = flagsGo (es.set tx.toNat true) (h.drop (k + 1))) := Lib.hid (by rw [HE.out, HO.out]; simp [flagsGo, heb])
          clear heb
          go_wp2
          go_region
          all_goals
            go_wp2
            go_roundw
            case rel => exact ⟨k + 1, es.set tx.toNat true, by omega, by go_num, by simp [hes], by rw [List.map_set]; exact ((hB.put _ _).alloc _).drew, HF, ((hbw.setCell (Nat.le_refl _) _).alloc (by simp; omega) _).drew⟩
            case measure => simp [intOf]; omega
        · have HF : Hid (flagsF h = flagsGo (es.set tx.toNat false) (h.drop (k + 1))) := Lib.hid (by rw [HE.out, HO.out]; simp [flagsGo, heb, hw3])
          clear heb
          have hw4 : (what == 3) = false := by simpa using hw3
          go_wp2
          go_region
          all_goals
            go_wp2
            go_roundw
            case rel => exact ⟨k + 1, es.set tx.toNat false, by omega, by go_num, by simp [hes], by rw [List.map_set]; exact ((hB.put _ _).alloc _).drew, HF, ((hbw.setCell (Nat.le_refl _) _).alloc (by simp; omega) _).drew⟩
            case measure => simp [intOf]; omega
      · have HF : Hid (flagsF h = flagsGo (es.set tx.toNat true) (h.drop (k + 1))) := Lib.hid (by rw [HE.out, HO.out]; simp [flagsGo, heb])
        clear heb
        go_wp2
        go_region
        all_goals
          go_wp2
          go_roundw
          case rel => exact ⟨k + 1, es.set tx.toNat true, by omega, by go_num, by simp [hes], by rw [List.map_set]; exact ((hB.put _ _).alloc _).drew, HF, ((hbw.setCell (Nat.le_refl _) _).alloc (by simp; omega) _).drew⟩
          case measure => simp [intOf]; omega
    · have HF : Hid (es = flagsF h) := Lib.hid (by rw [HE.out, drop_end (by rw [HL.out]; omega)]; rfl)
      have C1 := hide (clone_op A n cap (cellsH h) wr ((hr.below hbw).more hbw.size) (oneH h) (by omega))
      go_wp2_with fail
      refine (unhide C1).mono ?_
      rintro e w1 ⟨v1, rfl, hown1, hb1⟩
      obtain ⟨A1, c1, rfl⟩ := own_slice hown1
      go_wp2_with fail
      have hz1 : wr.heap.size ≤ w1.heap.size := hb1.size
      refine (deleteFunc_op A1 n c1 wr.heap.size h 58 #[.pointer (some ⟨w.heap.size, 0, none⟩)] (fun o => !es.getD o.tx.toNat false) w1 hown1 hz1 (by omega) call_doneOf1 (fun o ho w' hw' =>
        doneOf1_any o es w.heap.size (HT.out o ho) w' ((hB.below hb1 hBlt).below hw' hBlt) hes)).mono ?_
      rintro e w2 ⟨m, rfl, hown2, hb2⟩
      have HQ : Hid (cellsH (doneL h) = cellsH (h.filter fun o => !!es.getD o.tx.toNat false)) := Lib.hid (by rw [doneL, ← HF.out]; simp)
      have HW : Hid (w2.ownsRow w.heap.size 28 3 (.slice A1 m c1) m (cellsH (doneL h)) ∧ Below w.heap.size w w2) := Lib.hid (by
        rw [HQ.out]
        refine ⟨own_mono hown2 hbw.size, (hbw.trans (hb1.mono hbw.size)).trans (hb2.mono hbw.size)⟩)
      clear hown2 hb2 HQ
      go_wp2
      go_ret
      exact ⟨A1, m, c1, rfl, HW.out.1, HW.out.2⟩

theorem checkGo_ok {es : List Bool} {i : Nat} {h : List HOp} (hc : checkGo es i h = (0, 0)) : ∀ o ∈ h, rightB o = true := by
  induction h generalizing es i with
  | nil => simp
  | cons o t ih =>
    unfold checkGo at hc
    split at hc
    · simp at hc
    · split at hc
      · simp at hc
      · rename_i h1 _
        intro x hx
        rcases List.mem_cons.1 hx with rfl | hx
        · simpa using h1
        · exact ih hc x hx
/-- A history that is right. -/
def okH (h : List HOp) : Prop := (checkF h).2 = 0
theorem checkGo_zero {es : List Bool} {i : Nat} {h : List HOp} (hc : (checkGo es i h).2 = 0) : checkGo es i h = (0, 0) := by
  induction h generalizing es i with
  | nil => rfl
  | cons o t ih =>
    unfold checkGo at hc ⊢
    split
    · rename_i h1; simp [h1] at hc
    · rename_i h1
      rw [if_neg h1] at hc
      split
      · rename_i h2; rw [if_pos h2] at hc; simp at hc
      · rename_i h2
        rw [if_neg h2] at hc
        exact ih hc
theorem okH_len {h : List HOp} (hk : okH h) : h.length ≤ 40 := by
  unfold okH checkF at hk
  split at hk
  · simp at hk
  · omega
theorem okH_go {h : List HOp} (hk : okH h) : checkGo (List.replicate 7 false) 0 h = (0, 0) := by
  have := okH_len hk
  unfold okH checkF at hk
  rw [if_neg (by omega)] at hk
  exact checkGo_zero hk
theorem okH_right {h : List HOp} (hk : okH h) : ∀ o ∈ h, rightB o = true := checkGo_ok (okH_go hk)
theorem okH_tx {h : List HOp} (hk : okH h) : ∀ o ∈ h, 1 ≤ o.tx ∧ o.tx ≤ 6 := fun o ho => by
  have := okH_right hk o ho
  simp [rightB, txB] at this
  omega
end Go.Proofs.YtahbaddclacakaaDoor

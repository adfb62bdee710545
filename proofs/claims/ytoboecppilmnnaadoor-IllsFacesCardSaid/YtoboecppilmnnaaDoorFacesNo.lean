
/-
  CONTRACT of faces.Of where the ops are not right; a beginning of what is right is right.
-/
import Derived.Test.YtoboecppilmnnaaDoorFacesAll
import Derived.Test.YtoboecppilmnnaaDoorDone2
namespace Go.Proofs.YtoboecppilmnnaaDoor
open Go.ChangeShapes Go.WideShapes Go.ChangeAt Go.RowKit

set_option maxHeartbeats 1000000 in
theorem facesOf_no (A : Option Addr) (n cap : Nat) (h : List HOp) (w : World) (hr : Rd w w.heap.size 3 A n (cellsH h)) (hm : n ≤ 6000000000000) (hno : ¬ okH h) :
    Calls Tryd.prog 36 #[.slice A n cap] w fun e w' => e = .returned (.tuple #[.agg #[.bool false, .bool false, .bool false, .bool false], errV (checkF h).2]) ∧ Below w.heap.size w w' := by
  have HR := hide (fun w1 (hb : Below w.heap.size w w1) => right_h A n cap h w1 ((hr.below hb).more hb.size) hm)
  rw [ne_errV (show (checkF h).2 ≠ 0 from hno)] at HR ⊢
  generalize (checkF h).2 = ev at *
  clear hno
  go_enter Tryd.func36, Tryd.ntmps36
  have hb0 : Below w.heap.size w (w.alloc (.cells #[.bool false, .bool false, .bool false, .bool false] 73)) := (Below.refl _ _).alloc (Nat.le_refl _) _
  have HB0 := hide hb0
  clear hb0
  go_wp2_with fail
  refine (unhide HR _ (unhide HB0)).mono ?_
  rintro e w0 ⟨rfl, hb00⟩
  have hZ0 := (Blk.new w 73 [.bool false, .bool false, .bool false, .bool false]).below hb00 (by simp)
  have hbw0 := (unhide HB0).trans (hb00.mono (unhide HB0).size)
  clear hb00 HB0 HR
  obtain ⟨v0, v1, v2, v3, u0, u1, u2, u3⟩ := fcells hZ0
  have hR := (((hZ0.put 0 (.bool false)).put 1 (.bool false)).put 2 (.bool false)).put 3 (.bool false)
  obtain ⟨r0, r1, r2, r3, _⟩ := fcells (a := false) (b := false) (c := false) (d := false) hR
  go_wp2
  refine bodyPost_ret (v := .tuple #[.agg #[.bool false, .bool false, .bool false, .bool false], .iface 86 (.int .i64 ev)]) (by simp [results, Tryd.results36, go_sem, r0, r1, r2, r3]) rfl ?_
  exact ⟨rfl, (((hbw0.setCell (p := ⟨w.heap.size, 0, none⟩) (Nat.le_refl _) _).setCell (p := ⟨w.heap.size, 1, none⟩) (Nat.le_refl _) _).setCell (p := ⟨w.heap.size, 2, none⟩) (Nat.le_refl _) _).setCell (p := ⟨w.heap.size, 3, none⟩) (Nat.le_refl _) _⟩
theorem scan_take {p : List HOp → HOp → Bool} {h : List HOp} (k : Nat) (hs : scanB p [] h = true) : scanB p [] (h.take k) = true := by
  rw [← List.take_append_drop k h, scanB_append, Bool.and_eq_true] at hs
  exact hs.1
theorem checkGo_take {h : List HOp} : ∀ (es : List Bool) (i k : Nat), checkGo es i h = (0, 0) → checkGo es i (h.take k) = (0, 0) := by
  induction h with
  | nil => intros; simp [checkGo]
  | cons o r ih =>
    intro es i k hc
    cases k with
    | zero => rfl
    | succ k =>
      unfold checkGo at hc
      split at hc
      · simp at hc
      rename_i h1
      split at hc
      · simp at hc
      rename_i h2
      rw [List.take_succ_cons, checkGo, if_neg h1, if_neg h2]
      exact ih _ _ _ hc
theorem okH_take {h : List HOp} (hk : okH h) (k : Nat) : okH (h.take k) := by
  have := checkGo_take _ 0 k (okH_go hk)
  unfold okH checkF
  rw [if_neg (by have := okH_len hk; rw [List.length_take]; omega), this]
end Go.Proofs.YtoboecppilmnnaaDoor

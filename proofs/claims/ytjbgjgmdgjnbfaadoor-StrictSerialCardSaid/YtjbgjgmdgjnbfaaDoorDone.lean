
/-
  CONTRACTS of history.DoneOf, Done: the ops of the deals that commit.
-/
import Derived.Test.YtjbgjgmdgjnbfaaDoorN0
import Derived.Test.YtjbgjgmdgjnbfaaDoorCheck
import Derived.RegionTactic
import Derived.BigRegion

namespace Go.Proofs.YtjbgjgmdgjnbfaaDoor
open Go.RowKit

def flagsGo (es : List Bool) : List HOp → List Bool
  | [] => es
  | o :: t => flagsGo (es.set o.tx.toNat (es.getD o.tx.toNat false || decide (o.what = 3))) t
def flagsF (h : List HOp) : List Bool := flagsGo (List.replicate 7 false) h
def doneL (h : List HOp) : List HOp := h.filter fun o => (flagsF h).getD o.tx.toNat false

theorem flagsGo_length (es : List Bool) (h : List HOp) : (flagsGo es h).length = es.length := by
  induction h generalizing es with
  | nil => rfl
  | cons o t ih => simp [flagsGo, ih]
theorem flagsF_length (h : List HOp) : (flagsF h).length = 7 := by simp [flagsF, flagsGo_length]

theorem checkGo_ok {es : List Bool} {i : Nat} {h : List HOp} (hc : checkGo es i h = (0, 0)) : ∀ o ∈ h, rightB o = true := by
  induction h generalizing es i with
  | nil => simp
  | cons o t ih =>
    unfold checkGo at hc
    split at hc
    · simp at hc
    · split at hc
      · simp at hc
      · rename_i h1 _
        intro x hx
        rcases List.mem_cons.1 hx with rfl | hx
        · simpa using h1
        · exact ih hc x hx
/-- A history that is right. -/
def okH (h : List HOp) : Prop := (checkF h).2 = 0
theorem checkGo_zero {es : List Bool} {i : Nat} {h : List HOp} (hc : (checkGo es i h).2 = 0) : checkGo es i h = (0, 0) := by
  induction h generalizing es i with
  | nil => rfl
  | cons o t ih =>
    unfold checkGo at hc ⊢
    split
    · rename_i h1; simp [h1] at hc
    · rename_i h1
      rw [if_neg h1] at hc
      split
      · rename_i h2; rw [if_pos h2] at hc; simp at hc
      · rename_i h2
        rw [if_neg h2] at hc
        exact ih hc
theorem okH_len {h : List HOp} (hk : okH h) : h.length ≤ 40 := by
  unfold okH checkF at hk
  split at hk
  · simp at hk
  · omega
theorem okH_go {h : List HOp} (hk : okH h) : checkGo (List.replicate 7 false) 0 h = (0, 0) := by
  have := okH_len hk
  unfold okH checkF at hk
  rw [if_neg (by omega)] at hk
  exact checkGo_zero hk
theorem okH_right {h : List HOp} (hk : okH h) : ∀ o ∈ h, rightB o = true := checkGo_ok (okH_go hk)
theorem okH_tx {h : List HOp} (hk : okH h) : ∀ o ∈ h, 1 ≤ o.tx ∧ o.tx ≤ 6 := fun o ho => by
  have := okH_right hk o ho
  simp [rightB, txB] at this
  omega
end Go.Proofs.YtjbgjgmdgjnbfaaDoor

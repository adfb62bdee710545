
/-
  PLAIN LAWS of lanelaw1.HistoryBack: the deals' own ops are together as many as the history's; deals rise; what is done twice is done; the text of the first call.
-/
import Derived.Test.YtahbaddclacakaaDoorTextP
import Derived.Test.YtahbaddclacakaaDoorSerialP
import Derived.Test.YtahbaddclacakaaDoorDone2

namespace Go.Proofs.YtahbaddclacakaaDoor
open Go.RowKit

/-- What the ops of the first i deals are together. -/
def sumB (h : List HOp) (i : Nat) : Nat := (alongL h ((dealsL h).take i)).length
theorem back_at {h : List HOp} (hk : okH h) {i : Nat} {t : Int} (hi : (dealsL h)[i]? = some t) : (1 ≤ t ∧ t ≤ 6) ∧ 0 < (ownL h t).length ∧ sumB h (i + 1) = sumB h i + (ownL h t).length := by
  obtain ⟨o, ho, rfl⟩ := mem_dealsL.1 (List.mem_of_getElem? hi)
  have hr := okH_right hk o ho
  obtain ⟨h1, h2, _⟩ := rightB_get hr
  refine ⟨⟨h1, h2⟩, ?_, ?_⟩
  · refine List.length_pos_of_mem (a := o) ?_
    unfold ownL
    exact List.mem_filter.2 ⟨ho, by simp⟩
  · unfold sumB
    rw [List.take_add_one, hi, Option.toList_some, alongL_append, List.length_append]
    congr 1
    rw [alongL_cons]; simp [alongL]
theorem back_up {h : List HOp} {i : Nat} {a b : Int} (ha : (dealsL h)[i]? = some a) (hb : (dealsL h)[i + 1]? = some b) : a < b := by
  have hu := dealsL_up h
  obtain ⟨h1, rfl⟩ := List.getElem?_eq_some_iff.1 ha
  obtain ⟨h2, rfl⟩ := List.getElem?_eq_some_iff.1 hb
  have := List.pairwise_iff_getElem.1 hu i (i + 1) h1 h2 (by omega)
  simpa [ltI] using this
theorem along_cnt (D : List HOp) (x : HOp) : ∀ {o : List Int}, o.Nodup → (alongL D o).count x = if x.tx ∈ o then D.count x else 0
  | [], _ => by simp [alongL]
  | t :: o, hn => by
    obtain ⟨h1, h2⟩ := List.nodup_cons.1 hn
    rw [alongL_cons, List.count_append, along_cnt D x h2]
    by_cases e : x.tx = t
    · have hc : (ownL D t).count x = D.count x := by
        unfold ownL
        rw [List.count_filter (by simpa using e)]
      rw [hc, if_neg (by rw [e]; exact h1), if_pos (by simp [e])]
      omega
    · have hc : (ownL D t).count x = 0 := List.count_eq_zero.2 fun hx => e (ownL_tx hx).2
      rw [hc]
      by_cases hm : x.tx ∈ o
      · rw [if_pos hm, if_pos (by simp [hm])]; omega
      · rw [if_neg hm, if_neg (by simp [hm, e])]
theorem back_end (h : List HOp) {i : Nat} (hi : (dealsL h).length ≤ i) : sumB h i = h.length := by
  unfold sumB
  rw [List.take_of_length_le hi]
  refine List.Perm.length_eq ?_
  rw [List.perm_iff_count]
  intro x
  rw [along_cnt h x (dealsL_nodup h)]
  by_cases hx : x ∈ h
  · rw [if_pos (mem_dealsL.2 ⟨x, hx, rfl⟩)]
  · rw [List.count_eq_zero.2 hx]; simp
theorem back_le {h : List HOp} (hk : okH h) : ∀ i, sumB h i ≤ 40 := by
  have h40 := okH_len hk
  have mono : ∀ d i, sumB h i ≤ sumB h (i + d) := by
    intro d
    induction d with
    | zero => intro i; exact Nat.le_refl _
    | succ d ih =>
      intro i
      refine Nat.le_trans (ih i) ?_
      cases e : (dealsL h)[i + d]? with
      | some t =>
        have := (back_at hk e).2.2
        have e2 : i + (d + 1) = i + d + 1 := by omega
        rw [e2]; omega
      | none =>
        have hl := List.getElem?_eq_none_iff.1 e
        rw [back_end h hl, back_end h (i := i + (d + 1)) (by omega)]
        exact Nat.le_refl _
  intro i
  have := mono (dealsL h).length i
  rw [back_end h (i := i + (dealsL h).length) (by omega)] at this
  omega
theorem back_cnt {h : List HOp} (hk : okH h) : ∀ i, i ≤ (dealsL h).length → i ≤ 40 := fun i hi => by
  have key : ∀ j, j ≤ (dealsL h).length → j ≤ sumB h j := by
    intro j
    induction j with
    | zero => intro _; exact Nat.zero_le _
    | succ j ih =>
      intro hj
      have e : (dealsL h)[j]? = some ((dealsL h)[j]'(by omega)) := List.getElem?_eq_getElem (by omega)
      obtain ⟨_, h2, h3⟩ := back_at hk e
      have := ih (by omega)
      omega
  have := key i hi
  have := back_le hk i
  omega
theorem back_txs {h : List HOp} (hk : okH h) : ∀ o ∈ h, 1 ≤ o.tx ∧ o.tx ≤ 6 := fun o ho => by
  obtain ⟨h1, h2, _⟩ := rightB_get (okH_right hk o ho)
  exact ⟨h1, h2⟩
theorem back_done {h : List HOp} (hk : okH h) : okH (doneL h) ∧ doneL (doneL h) = doneL h := ⟨okH_done hk, doneL_doneL (back_txs hk)⟩
def factT : List UInt8 := [114, 49, 40, 97, 41, 32, 119, 50, 40, 98, 41, 32, 99, 50]
theorem back_fact : parseE factT = 0 ∧ parseL factT = [⟨1, 1, 1⟩, ⟨2, 2, 2⟩, ⟨2, 3, 0⟩] := by decide +kernel
end Go.Proofs.YtahbaddclacakaaDoor

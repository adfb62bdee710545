
/-
  CONTRACTS of history.Done, view.Last; plain facts on what is done.
-/
import Derived.Test.YtahbaddclacakaaDoorView

namespace Go.Proofs.YtahbaddclacakaaDoor
open Go.RowKit

set_option maxHeartbeats 400000 in
theorem done_any (A : Option Addr) (n cap : Nat) (h : List HOp) (w : World) (hr : Rd w w.heap.size 3 A n (cellsH h)) (hm : n ≤ 6000000000000) :
    (okH h → Calls Tryd.prog 23 #[.slice A n cap] w fun e w' => ∃ v m, e = .returned (.tuple #[v, .nilIface]) ∧ w'.ownsRow w.heap.size 28 3 v m (cellsH (doneL h)) ∧ Below w.heap.size w w') ∧
    (¬ okH h → Calls Tryd.prog 23 #[.slice A n cap] w fun e w' => e = .returned (.tuple #[.slice none 0 0, errV (checkF h).2]) ∧ Below w.heap.size w w') := by
  have C := right_h A n cap h w hr hm
  refine ⟨fun hok => ?_, fun hno => ?_⟩
  · have CP := fun w1 (hb : Below w.heap.size w w1) => doneOf_any A n cap h w1 ((hr.below hb).more hb.size) (by have := okH_len hok; have := hr.hlen; omega) (okH_tx hok)
    have HP := hide CP
    clear CP
    rw [show (checkF h).2 = 0 from hok, errV_zero] at C
    have HC := hide C
    clear C hok
    go_enter Tryd.func23, Tryd.ntmps23
    go_wp2_with (go_at_call 28; refine (unhide HC).mono ?_; rintro e w1 ⟨rfl, hb1⟩)
    refine (unhide HP w1 hb1).mono ?_
    rintro e w2 ⟨A2, m2, c2, rfl, ho2, hb2⟩
    go_wp2
    go_ret2
    exact ⟨_, m2, rfl, own_mono ho2 hb1.size, hb1.trans (hb2.mono hb1.size)⟩
  · rw [ne_errV (show (checkF h).2 ≠ 0 from hno)] at C ⊢
    generalize (checkF h).2 = ev at *
    have HC := hide C
    clear C hno
    go_enter Tryd.func23, Tryd.ntmps23
    go_wp2_with (go_at_call 28; refine (unhide HC).mono ?_; rintro e w1 ⟨rfl, hb1⟩)
    go_ret2
    exact ⟨rfl, hb1⟩

/-! ### What is done, plainly. -/
theorem flagsGo_get (h : List HOp) (ht : ∀ o ∈ h, 1 ≤ o.tx ∧ o.tx ≤ 6) : ∀ (es : List Bool), es.length = 7 → ∀ t : Nat, (flagsGo es h).getD t false = true ↔ (es.getD t false = true ∨ ∃ o ∈ h, o.tx.toNat = t ∧ o.what = 3) := by
  induction h with
  | nil => intro es _ t; simp [flagsGo]
  | cons o r ih =>
    intro es hes t
    have hto := ht o (by simp)
    rw [flagsGo, ih (fun x hx => ht x (by simp [hx])) _ (by simpa using hes)]
    simp only [List.getD_eq_getElem?_getD, List.mem_cons, exists_eq_or_imp]
    by_cases hx : o.tx.toNat = t
    · subst hx
      rw [List.getElem?_set_self (by omega)]
      simp [or_assoc]
    · rw [List.getElem?_set_ne hx]
      simp [hx]
theorem flagsF_get {h : List HOp} (ht : ∀ o ∈ h, 1 ≤ o.tx ∧ o.tx ≤ 6) (t : Nat) : (flagsF h).getD t false = true ↔ ∃ o ∈ h, o.tx.toNat = t ∧ o.what = 3 := by
  rw [flagsF, flagsGo_get h ht _ (by simp)]
  constructor
  · rintro (h1 | h1)
    · simp only [List.getD_eq_getElem?_getD, List.getElem?_replicate] at h1
      split at h1 <;> simp at h1
    · exact h1
  · exact .inr
theorem mem_doneL {h : List HOp} (ht : ∀ o ∈ h, 1 ≤ o.tx ∧ o.tx ≤ 6) {o : HOp} : o ∈ doneL h ↔ o ∈ h ∧ ∃ c ∈ h, c.tx = o.tx ∧ c.what = 3 := by
  rw [doneL, List.mem_filter, flagsF_get ht]
  constructor
  · rintro ⟨h1, c, hc, h2, h3⟩
    have := ht c hc; have := ht o h1
    exact ⟨h1, c, hc, by omega, h3⟩
  · rintro ⟨h1, c, hc, h2, h3⟩
    exact ⟨h1, c, hc, by rw [h2], h3⟩
theorem doneL_doneL {h : List HOp} (ht : ∀ o ∈ h, 1 ≤ o.tx ∧ o.tx ≤ 6) : doneL (doneL h) = doneL h := by
  have ht2 : ∀ o ∈ doneL h, 1 ≤ o.tx ∧ o.tx ≤ 6 := fun o ho => ht o ((mem_doneL ht).1 ho).1
  show (doneL h).filter _ = doneL h
  rw [List.filter_eq_self]
  intro o ho
  rw [flagsF_get ht2]
  obtain ⟨h1, c, hc, h2, h3⟩ := (mem_doneL ht).1 ho
  exact ⟨c, (mem_doneL ht).2 ⟨hc, c, hc, rfl, h3⟩, by rw [h2], h3⟩
theorem checkGo_filter (p : Nat → Bool) (h : List HOp) (ht : ∀ o ∈ h, 1 ≤ o.tx ∧ o.tx ≤ 6) : ∀ (es es' : List Bool) (i j : Nat), es.length = 7 → es'.length = 7 → (∀ t, p t = true → es'.getD t false = es.getD t false) →
    checkGo es i h = (0, 0) → checkGo es' j (h.filter fun o => p o.tx.toNat) = (0, 0) := by
  induction h with
  | nil => intros; rfl
  | cons o r ih =>
    intro es es' i j hl hl' hp hc
    have hto := ht o (by simp)
    have htr : ∀ o ∈ r, 1 ≤ o.tx ∧ o.tx ≤ 6 := fun x hx => ht x (by simp [hx])
    unfold checkGo at hc
    split at hc
    · simp at hc
    rename_i h1
    split at hc
    · simp at hc
    rename_i h2
    cases hpo : p o.tx.toNat
    · rw [List.filter_cons_of_neg (by simp [hpo])]
      refine ih htr _ es' _ j (by simpa using hl) hl' (fun t ht' => ?_) hc
      rw [hp t ht', List.getD_eq_getElem?_getD, List.getD_eq_getElem?_getD, List.getElem?_set_ne (by rintro rfl; rw [hpo] at ht'; cases ht')]
    · rw [List.filter_cons_of_pos (by simp [hpo])]
      unfold checkGo
      rw [if_neg h1, if_neg (by rw [hp _ hpo]; exact h2)]
      refine ih htr _ _ _ _ (by simpa using hl) (by simpa using hl') (fun t ht' => ?_) hc
      by_cases hx : o.tx.toNat = t
      · subst hx
        simp only [List.getD_eq_getElem?_getD]
        rw [List.getElem?_set_self (by omega), List.getElem?_set_self (by omega)]
      · simp only [List.getD_eq_getElem?_getD]
        rw [List.getElem?_set_ne hx, List.getElem?_set_ne hx]
        simpa only [List.getD_eq_getElem?_getD] using hp t ht'
theorem okH_filter {h : List HOp} (hk : okH h) (p : Nat → Bool) : okH (h.filter fun o => p o.tx.toNat) := by
  have := checkGo_filter p h (okH_tx hk) (List.replicate 7 false) (List.replicate 7 false) 0 0 (by simp) (by simp) (fun _ _ => rfl) (okH_go hk)
  unfold okH checkF
  rw [if_neg (by have := okH_len hk; have := List.length_filter_le (fun o : HOp => p o.tx.toNat) h; omega), this]
theorem okH_done {h : List HOp} (hk : okH h) : okH (doneL h) := okH_filter hk fun t => (flagsF h).getD t false
end Go.Proofs.YtahbaddclacakaaDoor

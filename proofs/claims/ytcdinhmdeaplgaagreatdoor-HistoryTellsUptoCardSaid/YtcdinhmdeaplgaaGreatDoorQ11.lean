
/-
  CONTRACTS of history.Done, view.Last; plain facts on what is done.
  CONTRACTS of history.Own, slices.Equal at ops, odds.SameDeals.
-/
import Derived.Test.YtcdinhmdeaplgaaGreatDoorQ9
import Derived.Test.YtcdinhmdeaplgaaGreatDoorQ10
import Derived.Test.YtcdinhmdeaplgaaGreatDoorQ2

namespace Go.Proofs.YtcdinhmdeaplgaaGreatDoor
open Go.RowKit

set_option maxHeartbeats 400000 in
theorem done_any (A : Option Addr) (n cap : Nat) (h : List HOp) (w : World) (hr : Rd w w.heap.size 3 A n (cellsH h)) (hm : n ≤ 6000000000000) :
    (okH h → Calls Tryz.prog 12 #[.slice A n cap] w fun e w' => ∃ v m, e = .returned (.tuple #[v, .nilIface]) ∧ w'.ownsRow w.heap.size 50 3 v m (cellsH (doneL h)) ∧ Below w.heap.size w w') ∧
    (¬ okH h → Calls Tryz.prog 12 #[.slice A n cap] w fun e w' => e = .returned (.tuple #[.slice none 0 0, errV (checkF h).2]) ∧ Below w.heap.size w w') := by
  have C := right_h A n cap h w hr hm
  refine ⟨fun hok => ?_, fun hno => ?_⟩
  · have CP := fun w1 (hb : Below w.heap.size w w1) => doneOf_any A n cap h w1 ((hr.below hb).more hb.size) (by have := okH_len hok; have := hr.hlen; omega) (okH_tx hok)
    have HP := hide CP
    clear CP
    rw [show (checkF h).2 = 0 from hok, errV_zero] at C
    have HC := hide C
    clear C hok
    go_enter Tryz.func12, Tryz.ntmps12
    go_wp2_with (go_at_call 25; refine (unhide HC).mono ?_; rintro e w1 ⟨rfl, hb1⟩)
    refine (unhide HP w1 hb1).mono ?_
    rintro e w2 ⟨A2, m2, c2, rfl, ho2, hb2⟩
    go_wp2
    go_ret2
    exact ⟨_, m2, rfl, own_mono ho2 hb1.size, hb1.trans (hb2.mono hb1.size)⟩
  · rw [ne_errV (show (checkF h).2 ≠ 0 from hno)] at C ⊢
    generalize (checkF h).2 = ev at *
    have HC := hide C
    clear C hno
    go_enter Tryz.func12, Tryz.ntmps12
    go_wp2_with (go_at_call 25; refine (unhide HC).mono ?_; rintro e w1 ⟨rfl, hb1⟩)
    go_ret2
    exact ⟨rfl, hb1⟩

/-! ### What is done, plainly. -/
theorem flagsGo_get (h : List HOp) (ht : ∀ o ∈ h, 1 ≤ o.tx ∧ o.tx ≤ 6) : ∀ (es : List Bool), es.length = 7 → ∀ t : Nat, (flagsGo es h).getD t false = true ↔ (es.getD t false = true ∨ ∃ o ∈ h, o.tx.toNat = t ∧ o.what = 3) := by
  induction h with
  | nil => intro es _ t; simp [flagsGo]
  | cons o r ih =>
    intro es hes t
    have hto := ht o (by simp)
    rw [flagsGo, ih (fun x hx => ht x (by simp [hx])) _ (by simpa using hes)]
    simp only [List.getD_eq_getElem?_getD, List.mem_cons, exists_eq_or_imp]
    by_cases hx : o.tx.toNat = t
    · subst hx
      rw [List.getElem?_set_self (by omega)]
      simp [or_assoc]
    · rw [List.getElem?_set_ne hx]
      simp [hx]
theorem flagsF_get {h : List HOp} (ht : ∀ o ∈ h, 1 ≤ o.tx ∧ o.tx ≤ 6) (t : Nat) : (flagsF h).getD t false = true ↔ ∃ o ∈ h, o.tx.toNat = t ∧ o.what = 3 := by
  rw [flagsF, flagsGo_get h ht _ (by simp)]
  constructor
  · rintro (h1 | h1)
    · simp only [List.getD_eq_getElem?_getD, List.getElem?_replicate] at h1
      split at h1 <;> simp at h1
    · exact h1
  · exact .inr
theorem mem_doneL {h : List HOp} (ht : ∀ o ∈ h, 1 ≤ o.tx ∧ o.tx ≤ 6) {o : HOp} : o ∈ doneL h ↔ o ∈ h ∧ ∃ c ∈ h, c.tx = o.tx ∧ c.what = 3 := by
  rw [doneL, List.mem_filter, flagsF_get ht]
  constructor
  · rintro ⟨h1, c, hc, h2, h3⟩
    have := ht c hc; have := ht o h1
    exact ⟨h1, c, hc, by omega, h3⟩
  · rintro ⟨h1, c, hc, h2, h3⟩
    exact ⟨h1, c, hc, by rw [h2], h3⟩
theorem doneL_doneL {h : List HOp} (ht : ∀ o ∈ h, 1 ≤ o.tx ∧ o.tx ≤ 6) : doneL (doneL h) = doneL h := by
  have ht2 : ∀ o ∈ doneL h, 1 ≤ o.tx ∧ o.tx ≤ 6 := fun o ho => ht o ((mem_doneL ht).1 ho).1
  show (doneL h).filter _ = doneL h
  rw [List.filter_eq_self]
  intro o ho
  rw [flagsF_get ht2]
  obtain ⟨h1, c, hc, h2, h3⟩ := (mem_doneL ht).1 ho
  exact ⟨c, (mem_doneL ht).2 ⟨hc, c, hc, rfl, h3⟩, by rw [h2], h3⟩
theorem checkGo_filter (p : Nat → Bool) (h : List HOp) (ht : ∀ o ∈ h, 1 ≤ o.tx ∧ o.tx ≤ 6) : ∀ (es es' : List Bool) (i j : Nat), es.length = 7 → es'.length = 7 → (∀ t, p t = true → es'.getD t false = es.getD t false) →
    checkGo es i h = (0, 0) → checkGo es' j (h.filter fun o => p o.tx.toNat) = (0, 0) := by
  induction h with
  | nil => intros; rfl
  | cons o r ih =>
    intro es es' i j hl hl' hp hc
    have hto := ht o (by simp)
    have htr : ∀ o ∈ r, 1 ≤ o.tx ∧ o.tx ≤ 6 := fun x hx => ht x (by simp [hx])
    unfold checkGo at hc
    split at hc
    · simp at hc
    rename_i h1
    split at hc
    · simp at hc
    rename_i h2
    cases hpo : p o.tx.toNat
    · rw [List.filter_cons_of_neg (by simp [hpo])]
      refine ih htr _ es' _ j (by simpa using hl) hl' (fun t ht' => ?_) hc
      rw [hp t ht', List.getD_eq_getElem?_getD, List.getD_eq_getElem?_getD, List.getElem?_set_ne (by rintro rfl; rw [hpo] at ht'; cases ht')]
    · rw [List.filter_cons_of_pos (by simp [hpo])]
      unfold checkGo
      rw [if_neg h1, if_neg (by rw [hp _ hpo]; exact h2)]
      refine ih htr _ _ _ _ (by simpa using hl) (by simpa using hl') (fun t ht' => ?_) hc
      by_cases hx : o.tx.toNat = t
      · subst hx
        simp only [List.getD_eq_getElem?_getD]
        rw [List.getElem?_set_self (by omega), List.getElem?_set_self (by omega)]
      · simp only [List.getD_eq_getElem?_getD]
        rw [List.getElem?_set_ne hx, List.getElem?_set_ne hx]
        simpa only [List.getD_eq_getElem?_getD] using hp t ht'
theorem okH_filter {h : List HOp} (hk : okH h) (p : Nat → Bool) : okH (h.filter fun o => p o.tx.toNat) := by
  have := checkGo_filter p h (okH_tx hk) (List.replicate 7 false) (List.replicate 7 false) 0 0 (by simp) (by simp) (fun _ _ => rfl) (okH_go hk)
  unfold okH checkF
  rw [if_neg (by have := okH_len hk; have := List.length_filter_le (fun o : HOp => p o.tx.toNat) h; omega), this]
theorem okH_done {h : List HOp} (hk : okH h) : okH (doneL h) := okH_filter hk fun t => (flagsF h).getD t false
end Go.Proofs.YtcdinhmdeaplgaaGreatDoor


namespace Go.Proofs.YtcdinhmdeaplgaaGreatDoor
open Go.RowKit

theorem own1_any (o : HOp) (tx : Int) (g : Nat) (w : World) (hB : Blk w g 3 [.int .i64 tx]) :
    Calls Tryz.prog 46 #[o.val, .pointer (some ⟨g, 0, none⟩)] w fun e w' => e = .returned (.bool (!decide (o.tx = tx))) ∧ Below w.heap.size w w' := by
  obtain ⟨a, what, item⟩ := o
  have hlt := hB.lt
  have c0 : (w.alloc (.cells #[.int .i64 a, .int .i64 what, .int .i64 item] 50)).cell? ⟨g, 0, none⟩ = some (.int .i64 tx) := (hB.alloc _).cellS rfl
  have HR : Hid ((a != tx) = !decide (a = tx)) := Lib.hid (by by_cases h : a = tx <;> simp [h])
  clear hB
  unfold HOp.val
  go_enter Tryz.func46, Tryz.ntmps46
  go_wp2
  go_ret
  exact ⟨ret_bool HR.out, (Below.refl _ _).alloc (Nat.le_refl _) _⟩
theorem call_own1 (args : Array Value) (w : World) : (callFunc 46 args).run Tryz.prog w = .ok (.enter 46 args) w := by kernel_rfl

set_option maxHeartbeats 1000000 in
theorem own_any (A : Option Addr) (n cap : Nat) (h : List HOp) (tx : Int) (w : World) (hr : Rd w w.heap.size 3 A n (cellsH h)) (hm : n ≤ 1000000) :
    Calls Tryz.prog 31 #[.slice A n cap, .int .i64 tx] w fun e w' => ∃ A' m c', e = .returned (.slice A' m c') ∧ w'.ownsRow w.heap.size 50 3 (.slice A' m c') m (cellsH (ownL h tx)) ∧ Below w.heap.size w w' := by
  have hB := Blk.new w 3 [.int .i64 tx]
  have hb0 : Below w.heap.size w (w.alloc (.cells #[.int .i64 tx] 3)) := (Below.refl _ _).alloc (Nat.le_refl _) _
  have C1 := hide (clone_op A n cap (cellsH h) _ ((hr.below hb0).more hb0.size) (oneH h) (by omega))
  have HB := hide hB
  have HB0 := hide hb0
  clear hB hb0
  go_enter Tryz.func31, Tryz.ntmps31
  go_wp2_with fail
  refine (unhide C1).mono ?_
  rintro e w1 ⟨v1, rfl, hown1, hb1⟩
  obtain ⟨A1, c1, rfl⟩ := own_slice hown1
  have hz1 : w.heap.size + 1 ≤ w1.heap.size := by have := hb1.size; simpa using this
  have hbw1 := (unhide HB0).trans (hb1.mono (unhide HB0).size)
  have hB1 := (unhide HB).below hb1 (unhide HB).lt
  have C2 := hide (deleteFunc_op A1 n c1 (w.heap.size + 1) h 46 #[.pointer (some ⟨w.heap.size, 0, none⟩)] (fun o => !decide (o.tx = tx)) w1 (own_mono hown1 (by simp)) hz1 (by omega) call_own1 (fun o ho w' hw' => own1_any o tx w.heap.size w' (hB1.below hw' (by omega))))
  clear C1 hb1 HB HB0 hown1
  go_wp2_with fail
  refine (unhide C2).mono ?_
  rintro e w2 ⟨m, rfl, hown2, hb2⟩
  have HQ : Hid (cellsH (ownL h tx) = cellsH (h.filter fun o => !!decide (o.tx = tx))) := Lib.hid (by unfold ownL; simp)
  rw [← HQ.out] at hown2
  have hbw2 := hbw1.trans (hb2.mono (by omega))
  clear C2 hb2 HQ
  go_wp2
  go_ret
  exact ⟨A1, m, c1, rfl, own_mono hown2 (by omega), hbw2⟩

/-! ### slices.Equal at ops. -/
/-! ### odds.SameDeals -/
theorem ownL_len (h : List HOp) (t : Int) : (ownL h t).length ≤ h.length := List.length_filter_le _ _
def sameGo (h g : List HOp) : Nat → Int → Bool
  | 0, _ => true
  | r + 1, t => decide (ownL h t = ownL g t) && sameGo h g r (t + 1)
theorem sameGo_eq (h g : List HOp) : sameGo h g 6 1 = sameOwnB h g := by
  unfold sameOwnB
  simp only [sameGo, List.all_cons, List.all_nil]
  rfl
end Go.Proofs.YtcdinhmdeaplgaaGreatDoor

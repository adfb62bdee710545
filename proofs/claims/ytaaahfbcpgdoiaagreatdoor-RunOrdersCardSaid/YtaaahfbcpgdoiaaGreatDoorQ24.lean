
/-
  PLAIN LAWS: the reference's order of a history; pieces; what is done of a history along an order is itself; edges of what is done.
  PLAIN LAWS for SerialJust and SerialAgain: what holds along an order; deals one behind the other, each in one piece.
-/
import Derived.Test.YtaaahfbcpgdoiaaGreatDoorQ19
import Derived.Test.YtaaahfbcpgdoiaaGreatDoorQ16
import Derived.Test.YtaaahfbcpgdoiaaGreatDoorQ17
import Derived.Test.YtaaahfbcpgdoiaaGreatDoorQ22
import Derived.Test.YtaaahfbcpgdoiaaGreatDoorQ23

namespace Go.Proofs.YtaaahfbcpgdoiaaGreatDoor
open Go.RowKit

/-! ### Deals, rising, as the reference finds them; the reference's order. -/
theorem dealsL_snoc {h : List HOp} {k : Nat} {o : HOp} (ho : h[k]? = some o) : dealsL (h.take (k + 1)) = insS ltI o.tx (dealsL (h.take k)) := by
  unfold dealsL
  rw [List.take_add_one, ho, List.map_append]
  exact sortS_snoc _ _
theorem rsort_order {h : List HOp} (ht : ∀ o ∈ h, 1 ≤ o.tx ∧ o.tx ≤ 6) : rsortF (edgesF h) (dealsL (doneL h)) = orderOf h := by
  have hu := dealsL_up (doneL h)
  have hp : ∀ x ∈ dealsL (doneL h), 0 < x := fun x hx => by
    obtain ⟨o, h1, rfl⟩ := mem_dealsL.1 hx
    have := done_tx ht o h1
    omega
  unfold orderOf rsortF topF
  rw [sortI_of_up hu, ← top_rsort _ _ hu hp]
  congr 1
  simp

/-! ### Pieces. -/
def pcsN : Int → List HOp → Nat
  | _, [] => 0
  | p, o :: t => (if o.tx = p then 0 else 1) + pcsN o.tx t
theorem pcsN_step {p : Int} {o : HOp} {l t : List HOp} (e : l = o :: t) : pcsN p l = (if o.tx = p then 0 else 1) + pcsN o.tx t := by rw [e, pcsN]
def isF (D : List HOp) : Bool := decide (pcsN 0 D = (dealsL D).length)
theorem pcsN_len (D : List HOp) : ∀ p, pcsN p D ≤ D.length := by
  induction D with
  | nil => intro p; simp [pcsN]
  | cons o t ih => intro p; have := ih o.tx; rw [pcsN, List.length_cons]; split <;> omega
theorem pcsN_run {t : Int} : ∀ {l : List HOp} {r : List HOp}, (∀ o ∈ l, o.tx = t) → pcsN t (l ++ r) = pcsN t r
  | [], _, _ => rfl
  | o :: l, r, h => by
    have h0 := h o List.mem_cons_self
    rw [List.cons_append, pcsN, if_pos h0, h0, pcsN_run fun x hx => h x (List.mem_cons_of_mem _ hx)]
    omega
theorem pcsN_own {D : List HOp} {t p : Int} {r : List HOp} (hne : ∃ o ∈ D, o.tx = t) (hp : t ≠ p) : pcsN p (ownL D t ++ r) = 1 + pcsN t r := by
  cases hl : ownL D t with
  | nil =>
    obtain ⟨o, h1, h2⟩ := hne
    have : o ∈ ownL D t := by unfold ownL; rw [List.mem_filter]; exact ⟨h1, by simpa using h2⟩
    rw [hl] at this
    cases this
  | cons o l =>
    have hall : ∀ x ∈ o :: l, x.tx = t := fun x hx => (ownL_tx (by rw [hl]; exact hx)).2
    have h0 := hall o List.mem_cons_self
    rw [List.cons_append, pcsN, if_neg (by rw [h0]; exact hp), h0, pcsN_run fun x hx => hall x (List.mem_cons_of_mem _ hx)]
theorem pcsN_along (D : List HOp) : ∀ (o : List Int) (p : Int), o.Nodup → p ∉ o → (∀ t ∈ o, ∃ x ∈ D, x.tx = t) → pcsN p (alongL D o) = o.length
  | [], _, _, _, _ => rfl
  | t :: o, p, hn, hp, hall => by
    obtain ⟨h1, h2⟩ := List.nodup_cons.1 hn
    rw [alongL_cons, pcsN_own (hall t List.mem_cons_self) (fun e => hp (by rw [← e]; exact List.mem_cons_self)), pcsN_along D o t h2 h1 fun x hx => hall x (List.mem_cons_of_mem _ hx), List.length_cons]
    omega
theorem deals_along {D : List HOp} {o : List Int} (hn : o.Nodup) (hall : ∀ t ∈ o, ∃ x ∈ D, x.tx = t) : (dealsL (alongL D o)).length = o.length := by
  have h1 := nodup_sub_len (dealsL (alongL D o)) o (dealsL_nodup _) fun x hx => by
    obtain ⟨y, h1, rfl⟩ := mem_dealsL.1 hx
    exact (mem_along.1 h1).2
  have h2 := nodup_sub_len o (dealsL (alongL D o)) hn fun x hx => by
    obtain ⟨y, h3, h4⟩ := hall x hx
    exact mem_dealsL.2 ⟨y, mem_along.2 ⟨h3, by rw [h4]; exact hx⟩, h4⟩
  omega
theorem isF_along {D : List HOp} {o : List Int} (hn : o.Nodup) (hall : ∀ t ∈ o, ∃ x ∈ D, x.tx = t) (h0 : (0 : Int) ∉ o) : isF (alongL D o) = true := by
  unfold isF
  rw [decide_eq_true_iff, pcsN_along D o 0 hn h0 hall, deals_along hn hall]

/-! ### What is done of a history along an order: itself. -/
theorem serE_ok {h : List HOp} {o : List Int} (hk : okH h) (hs : serE h o = 0) : sortI o = dealsL (doneL h) ∧ o.Nodup ∧ (∀ t, t ∈ o ↔ t ∈ dealsL (doneL h)) := by
  unfold serE at hs
  rw [if_neg (fun e => e hk)] at hs
  split at hs
  · rename_i e
    refine ⟨e, ?_, fun t => by rw [← e, sortI_mem]⟩
    have h1 : (sortI o).Nodup := by rw [e]; exact dealsL_nodup _
    exact (List.mergeSort_perm _ _).nodup_iff.1 h1
  · cases hs
theorem serE_range {h : List HOp} (hk : okH h) (o : List Int) : serE h o = 0 ∨ serE h o = 3 := by
  unfold serE
  rw [if_neg (fun e => e hk)]
  split
  · exact .inl rfl
  · exact .inr rfl
theorem serE_of {h : List HOp} (hk : okH h) {o : List Int} (hn : o.Nodup) (hm : ∀ t, t ∈ o ↔ t ∈ dealsL (doneL h)) : serE h o = 0 := by
  have e1 : sortI o = dealsL (doneL h) := by
    unfold dealsL
    refine sortS_eq sloI ?_ fun x => ?_
    · have h1 := sortI_up o
      have h2 : (sortI o).Nodup := (List.mergeSort_perm _ _).nodup_iff.2 hn
      exact (h1.and h2).imp fun {a b} ⟨g1, g2⟩ => by simp [ltI] at g1 ⊢; omega
    · rw [sortI_mem, hm]
      unfold dealsL
      rw [mem_sortS]
  unfold serE
  rw [if_neg (fun e => e hk), if_pos e1]
theorem serL_of {h : List HOp} {o : List Int} (hs : serE h o = 0) : serL h o = alongL (doneL h) o := by unfold serL; rw [if_pos hs]
theorem along_all {D : List HOp} {o : List Int} (hm : ∀ t, t ∈ o ↔ t ∈ dealsL D) : ∀ x ∈ D, x.tx ∈ o := fun x hx => (hm _).2 (mem_dealsL.2 ⟨x, hx, rfl⟩)
theorem along_doneL {h : List HOp} (ht : ∀ o ∈ h, 1 ≤ o.tx ∧ o.tx ≤ 6) (o : List Int) : doneL (alongL (doneL h) o) = alongL (doneL h) o := by
  have hta : ∀ x ∈ alongL (doneL h) o, 1 ≤ x.tx ∧ x.tx ≤ 6 := fun x hx => done_tx ht x (mem_along.1 hx).1
  rw [show doneL (alongL (doneL h) o) = (alongL (doneL h) o).filter fun x => (flagsF (alongL (doneL h) o)).getD x.tx.toNat false from rfl, List.filter_eq_self]
  intro x hx
  rw [flagsF_get hta]
  obtain ⟨h1, h2⟩ := mem_along.1 hx
  have h1' : x ∈ doneL h := h1
  obtain ⟨h3, c, h4, h5, h6⟩ := (mem_doneL ht).1 h1'
  refine ⟨c, mem_along.2 ⟨(mem_doneL ht).2 ⟨h4, c, h4, rfl, h6⟩, by rw [h5]; exact h2⟩, by rw [h5], h6⟩
/-- Histories of the same ops of each deal are right together. -/
theorem okH_own {h g : List HOp} (hk : okH h) (hl : g.length = h.length) (hm : ∀ t, 1 ≤ t → t ≤ 6 → ownL g t = ownL h t) (hx : ∀ x ∈ g, x ∈ h) : okH g :=
  (okH_iff).2 ⟨by rw [hl]; exact okH_len hk, fun x h1 => okH_right hk x (hx x h1), fun t h1 h2 => by rw [hm t h1 h2]; exact (okH_iff.1 hk).2.2 t h1 h2⟩
theorem along_count (D : List HOp) (x : HOp) : ∀ {o : List Int}, o.Nodup → (alongL D o).count x = if x.tx ∈ o then D.count x else 0
  | [], _ => by simp [alongL]
  | t :: o, hn => by
    obtain ⟨h1, h2⟩ := List.nodup_cons.1 hn
    rw [alongL_cons, List.count_append, along_count D x h2]
    by_cases e : x.tx = t
    · have hc : (ownL D t).count x = D.count x := by
        unfold ownL
        rw [List.count_filter (by simpa using e)]
      rw [hc, if_neg (by rw [e]; exact h1), if_pos (by simp [e])]
      omega
    · have hc : (ownL D t).count x = 0 := List.count_eq_zero.2 fun hx => e (ownL_tx hx).2
      rw [hc]
      by_cases hm : x.tx ∈ o
      · rw [if_pos hm, if_pos (by simp [hm])]; omega
      · rw [if_neg hm, if_neg (by simp [hm, e])]
theorem along_perm {D : List HOp} {o : List Int} (hn : o.Nodup) (hall : ∀ x ∈ D, x.tx ∈ o) : (alongL D o).Perm D := by
  rw [List.perm_iff_count]
  intro x
  rw [along_count D x hn]
  split
  · rfl
  · rename_i h
    exact (List.count_eq_zero.2 fun hx => h (hall x hx)).symm
theorem okH_along {h : List HOp} (hk : okH h) {o : List Int} (hs : serE h o = 0) : okH (alongL (doneL h) o) := by
  obtain ⟨_, h1, h2⟩ := serE_ok hk hs
  have hp := along_perm h1 (along_all h2)
  refine okH_own (okH_done hk) hp.length_eq (fun t _ _ => ?_) fun x hx => hp.mem_iff.1 hx
  rw [ownL_along _ _ h1]
  by_cases hm : t ∈ o
  · rw [if_pos hm]
  · rw [if_neg hm]
    refine Eq.symm (List.filter_eq_nil_iff.2 fun x hx => ?_)
    simp
    intro e
    exact hm (by rw [← e]; exact along_all h2 x hx)
theorem ser_done {h : List HOp} (hk : okH h) {o : List Int} (hs : serE h o = 0) : doneL (serL h o) = serL h o ∧ okH (serL h o) ∧ isF (serL h o) = true := by
  obtain ⟨_, h1, h2⟩ := serE_ok hk hs
  rw [serL_of hs]
  refine ⟨along_doneL (okH_tx hk) o, okH_along hk hs, ?_⟩
  refine isF_along h1 (fun t ht => by obtain ⟨x, h3, h4⟩ := mem_dealsL.1 ((h2 t).1 ht); exact ⟨x, h3, h4⟩) fun h0 => ?_
  obtain ⟨x, h3, h4⟩ := mem_dealsL.1 ((h2 0).1 h0)
  have := done_tx (okH_tx hk) x h3
  omega

/-! ### Edges of what is done are right, and no edge leads back. -/
theorem edgesF_ok {h : List HOp} (ht : ∀ o ∈ h, 1 ≤ o.tx ∧ o.tx ≤ 6) : okE (edgesF h) ∧ ∀ e ∈ edgesF h, e.1 ≠ e.2 := by
  refine ⟨fun e he => ?_, fun e he => ?_⟩
  · obtain ⟨⟨a, h1, h2⟩, b, h3, h4⟩ := edgeP_mem (mem_edgesF.1 he)
    have ha := done_tx ht a h1
    have hb := done_tx ht b h3
    rw [← h2, ← h4]
    simp [txB]
    omega
  · obtain ⟨x, y⟩ := e
    obtain ⟨i, k, a, b, _, _, _, hab, rfl, rfl⟩ := mem_edgeP.1 (mem_edgesF.1 he)
    unfold oddB at hab
    exact (of_decide_eq_true hab).1
def allE : List (Int × Int) := [1, 2, 3, 4, 5, 6].flatMap fun a : Int => [1, 2, 3, 4, 5, 6].map fun b : Int => (a, b)
theorem nodup_len {α : Type} [DecidableEq α] : ∀ {l s : List α}, l.Nodup → (∀ x ∈ l, x ∈ s) → l.length ≤ s.length
  | [], _, _, _ => Nat.zero_le _
  | a :: t, s, hn, hs => by
    rw [List.nodup_cons] at hn
    have ha := hs a (by simp)
    have := nodup_len (l := t) (s := s.erase a) hn.2 fun x hx => (List.mem_erase_of_ne (fun e => hn.1 (by rw [← e]; exact hx))).2 (hs x (by simp [hx]))
    rw [List.length_erase_of_mem ha] at this
    have h0 : 0 < s.length := List.length_pos_of_mem ha
    simp only [List.length_cons]; omega
theorem edgesF_len {h : List HOp} (ht : ∀ o ∈ h, 1 ≤ o.tx ∧ o.tx ≤ 6) : (edgesF h).length ≤ 36 := by
  have hn : (edgesF h).Nodup := (up_sortS sloE _).imp fun {a b} hab e => by rw [e] at hab; simp [ltE] at hab
  refine nodup_len (s := allE) hn fun ⟨x, y⟩ hx => ?_
  have h1 := (edgesF_ok ht).1 _ hx
  have h2 : 1 ≤ x ∧ x ≤ 6 := by simpa [txB] using h1.1
  have h3 : 1 ≤ y ∧ y ≤ 6 := by simpa [txB] using h1.2
  unfold allE
  rw [List.mem_flatMap]
  refine ⟨x, by simp; omega, ?_⟩
  rw [List.mem_map]
  exact ⟨y, by simp; omega, rfl⟩
theorem edgesF_check {h : List HOp} (ht : ∀ o ∈ h, 1 ≤ o.tx ∧ o.tx ≤ 6) : checkG (edgesF h) = 0 := by
  have h1 := edgesF_len ht
  unfold checkG
  rw [if_neg (by omega), if_neg]
  rw [List.any_eq_true]
  rintro ⟨e, h2, h3⟩
  have h4 := (edgesF_ok ht).1 e h2
  unfold badE at h3
  simp [h4.1, h4.2] at h3
/-- An order, or a ring of two at least. -/
theorem order_either {h : List HOp} (ht : ∀ o ∈ h, 1 ≤ o.tx ∧ o.tx ≤ 6) : (∃ o, orderOf h = some o ∧ ringF (edgesF h) = none) ∨ (orderOf h = none ∧ ∃ r, ringF (edgesF h) = some r ∧ 2 ≤ r.length) := by
  cases ho : orderOf h with
  | some o =>
    refine .inl ⟨o, rfl, ?_⟩
    obtain ⟨h1, _, h3⟩ := orderOf_some ho
    cases hr : ringF (edgesF h) with
    | none => rfl
    | some r => exact (order_ring h1 (fun e he => h3 e (mem_edgesF.1 he)) (ringF_some hr)).elim
  | none =>
    refine .inr ⟨rfl, ?_⟩
    obtain ⟨r, hr⟩ := orderOf_none ht ho
    cases hf : ringF (edgesF h) with
    | none => exact absurd hf (ringF_of hr)
    | some q =>
      refine ⟨q, rfl, ?_⟩
      have hq := ringF_some hf
      obtain ⟨l1, _⟩ := ringE_len hq
      rcases Nat.lt_or_ge q.length 2 with h2 | h2
      · match q, hq, l1, h2 with
        | [x], hq, _, _ => exact absurd rfl ((edgesF_ok ht).2 _ hq.2.2.2.2)
      · exact h2
end Go.Proofs.YtaaahfbcpgdoiaaGreatDoor


namespace Go.Proofs.YtaaahfbcpgdoiaaGreatDoor
open Go.RowKit

theorem play_doneL {h : List HOp} (hk : okH h) : playF (doneL h) = playF h := by
  rw [playF, doneL_doneL (okH_tx hk)]; rfl
/-! ### A history has an order just if its edges have no ring; what holds along that order. -/
theorem just_some {h : List HOp} (hk : okH h) {o : List Int} (ho : orderOf h = some o) : serE h o = 0 ∧ okH (serL h o) ∧ doneL (serL h o) = serL h o ∧ isF (serL h o) = true ∧ sameV (serL h o) (doneL h) = true ∧ sameE (serL h o) (doneL h) = 0 ∧ (playF h).1 = (playF (serL h o)).1 := by
  obtain ⟨h1, h2, h3⟩ := orderOf_some ho
  have e1 := serE_of hk h1 h2
  obtain ⟨d1, d2, d3⟩ := ser_done hk e1
  have hs := orderOf_sw ho
  have hd := okH_done hk
  refine ⟨e1, d2, d1, d3, ?_, ?_, ?_⟩
  · rw [serL_of e1] at d2 ⊢
    unfold sameV
    rw [(alike_iff_sw (okH_tx d2) (okH_tx hd)).2 hs.symm, show (checkF (alongL (doneL h) o)).2 = 0 from d2, show (checkF (doneL h)).2 = 0 from hd]; rfl
  · unfold sameE
    rw [show (checkF (serL h o)).2 = 0 from d2, show (checkF (doneL h)).2 = 0 from hd]; rfl
  · rw [serL_of e1, ← play_doneL hk]
    exact playF_sw hs (okH_right hd)
theorem order_len {h : List HOp} (hk : okH h) {o : List Int} (ho : orderOf h = some o) : o.length ≤ 6 := by
  obtain ⟨h1, h2, _⟩ := orderOf_some ho
  exact serL_len hk (serE_of hk h1 h2)
theorem just_none {h : List HOp} (hk : okH h) (ho : orderOf h = none) (p : List Int) : serE h p ≠ 0 ∨ (sameE (serL h p) (doneL h) = 0 ∧ sameV (serL h p) (doneL h) = false) := by
  by_cases e1 : serE h p = 0
  · right
    obtain ⟨d1, d2, d3⟩ := ser_done hk e1
    obtain ⟨_, h1, h2⟩ := serE_ok hk e1
    have hd := okH_done hk
    refine ⟨?_, ?_⟩
    · unfold sameE
      rw [show (checkF (serL h p)).2 = 0 from d2, show (checkF (doneL h)).2 = 0 from hd]; rfl
    · cases hv : sameV (serL h p) (doneL h) with
      | false => rfl
      | true =>
        unfold sameV at hv
        simp only [Bool.and_eq_true] at hv
        have hs := (alike_iff_sw (okH_tx d2) (okH_tx hd)).1 hv.2
        rw [serL_of e1] at hs
        obtain ⟨o, h5⟩ := serial_order (okH_tx hk) h1 hs
        rw [ho] at h5
        cases h5
  · exact .inl e1
def oneJ : List HOp := [⟨2, 2, 1⟩, ⟨1, 1, 1⟩, ⟨1, 3, 0⟩, ⟨2, 3, 0⟩]
theorem oneJ_ok : okH oneJ := by show (checkF _).2 = 0; decide
theorem oneJ_order : orderOf oneJ = some [2, 1] := by
  unfold orderOf
  rw [topF_up (dealsL_up _)]
  decide

/-! ### Deals one behind the other, each in one piece. -/
theorem before_sym {q : List Int} (hn : q.Nodup) {x y : Int} (h1 : beforeL q x y) (h2 : beforeL q y x) : False := by
  obtain ⟨i, j, hij, hi, hj⟩ := h1
  obtain ⟨k, l, hkl, hk, hl⟩ := h2
  have := idx_inj hn hi hl
  have := idx_inj hn hj hk
  omega
/-- Two orders of the same deals, of which each pair stands alike. -/
theorem order_unique : ∀ {q o : List Int}, q.Nodup → o.Nodup → (∀ x, x ∈ o ↔ x ∈ q) → (∀ x y, beforeL q x y → beforeL o x y) → o = q
  | [], o, _, _, hm, _ => List.eq_nil_iff_forall_not_mem.2 fun x hx => by simpa using (hm x).1 hx
  | t :: q, [], _, _, hm, _ => by
    have := (hm t).2 List.mem_cons_self
    cases this
  | t :: q, s :: o, hq, ho, hm, hb => by
    have hq' := List.nodup_cons.1 hq
    have ho' := List.nodup_cons.1 ho
    have hts : s = t := by
      by_cases e : s = t
      · exact e
      · exfalso
        have hs : s ∈ q := by
          rcases List.mem_cons.1 ((hm s).1 List.mem_cons_self) with h | h
          · exact absurd h e
          · exact h
        obtain ⟨j, hj⟩ := List.mem_iff_getElem?.1 hs
        obtain ⟨i, k, hik, hi, hk⟩ := hb t s ⟨0, j + 1, by omega, by simp, by simpa using hj⟩
        have := idx_inj ho hk (show (s :: o)[0]? = some s by simp)
        omega
    subst hts
    congr 1
    refine order_unique hq'.2 ho'.2 (fun x => ?_) fun x y hxy => ?_
    · have := hm x
      constructor
      · intro hx
        rcases List.mem_cons.1 (this.1 (List.mem_cons_of_mem _ hx)) with h | h
        · exact absurd (h ▸ hx) ho'.1
        · exact h
      · intro hx
        rcases List.mem_cons.1 (this.2 (List.mem_cons_of_mem _ hx)) with h | h
        · exact absurd (h ▸ hx) hq'.1
        · exact h
    · obtain ⟨i, j, hij, hi, hj⟩ := hxy
      obtain ⟨k, l, hkl, hk, hl⟩ := hb x y ⟨i + 1, j + 1, by omega, by simpa using hi, by simpa using hj⟩
      have hxs : x ≠ s := fun e => hq'.1 (by rw [← e]; exact List.mem_of_getElem? hi)
      have hys : y ≠ s := fun e => hq'.1 (by rw [← e]; exact List.mem_of_getElem? hj)
      obtain ⟨k, rfl⟩ : ∃ k', k = k' + 1 := ⟨k - 1, by
        cases k with
        | zero => simp at hk; exact absurd hk.symm hxs
        | succ k => omega⟩
      obtain ⟨l, rfl⟩ : ∃ l', l = l' + 1 := ⟨l - 1, by omega⟩
      exact ⟨k, l, by omega, by simpa using hk, by simpa using hl⟩
def pieceH (a b t : Int) : List HOp := [⟨t, 1, a⟩, ⟨t, 2, b⟩, ⟨t, 3, 0⟩]
theorem ownL_piece (a b s t : Int) : ownL (pieceH a b s) t = if s = t then pieceH a b t else [] := by
  unfold ownL pieceH
  by_cases e : s = t
  · subst e; simp
  · simp [e]
theorem ownL_pieces (a b t : Int) : ∀ {q : List Int}, q.Nodup → ownL (piecesH a b q) t = if t ∈ q then pieceH a b t else []
  | [], _ => rfl
  | s :: q, hn => by
    obtain ⟨h1, h2⟩ := List.nodup_cons.1 hn
    rw [piecesH_cons, ownL_append, ownL_pieces a b t h2]
    have := ownL_piece a b s t
    unfold pieceH at this ⊢
    rw [this]
    by_cases e : s = t
    · subst e
      rw [if_pos rfl, if_neg h1, if_pos (by simp), List.append_nil]
    · rw [if_neg e, List.nil_append]
      by_cases hm : t ∈ q
      · rw [if_pos hm, if_pos (by simp [hm])]
      · rw [if_neg hm, if_neg (by simp [hm]; exact fun e' => e e'.symm)]
theorem along_pieces (a b : Int) {q : List Int} (hn : q.Nodup) : ∀ {r : List Int}, (∀ t ∈ r, t ∈ q) → alongL (piecesH a b q) r = piecesH a b r
  | [], _ => rfl
  | t :: r, hr => by
    rw [alongL_cons, along_pieces a b hn fun x hx => hr x (List.mem_cons_of_mem _ hx), ownL_pieces a b t hn, if_pos (hr t List.mem_cons_self), piecesH_cons]
    rfl
theorem pieces_mem3 {a b : Int} : ∀ {q : List Int} {t : Int}, t ∈ q → (⟨t, 3, 0⟩ : HOp) ∈ piecesH a b q ∧ (⟨t, 2, b⟩ : HOp) ∈ piecesH a b q := fun {q} {t} ht => by
  unfold piecesH
  constructor <;> exact List.mem_flatMap.2 ⟨t, ht, by simp⟩
theorem pieces_doneL {a b : Int} {q : List Int} (h : OrdOk q) : doneL (piecesH a b q) = piecesH a b q := by
  have ht : ∀ x ∈ piecesH a b q, 1 ≤ x.tx ∧ x.tx ≤ 6 := fun x hx => h.rg _ (piecesH_mem hx).1
  rw [show doneL (piecesH a b q) = (piecesH a b q).filter fun x => (flagsF (piecesH a b q)).getD x.tx.toNat false from rfl, List.filter_eq_self]
  intro x hx
  rw [flagsF_get ht]
  exact ⟨_, (pieces_mem3 (a := a) (b := b) (piecesH_mem hx).1).1, rfl, rfl⟩
theorem pieces_deals {a b : Int} {q : List Int} (t : Int) : t ∈ q ↔ t ∈ dealsL (piecesH a b q) := by
  rw [mem_dealsL]
  constructor
  · intro h; exact ⟨_, (pieces_mem3 (a := a) (b := b) h).1, rfl⟩
  · rintro ⟨o, h1, rfl⟩; exact (piecesH_mem h1).1
theorem pieces_again {a b : Int} (ha : 1 ≤ a ∧ a ≤ 6) (hb : 1 ≤ b ∧ b ≤ 6) {q : List Int} (h : OrdOk q) :
    okH (piecesH a b q) ∧ doneL (piecesH a b q) = piecesH a b q ∧ isF (piecesH a b q) = true ∧ serE (piecesH a b q) q = 0 ∧ serL (piecesH a b q) q = piecesH a b q ∧ orderOf (piecesH a b q) = some q := by
  have hk := pieces_ok ha hb h
  have hd := pieces_doneL (a := a) (b := b) h
  have hm : ∀ t, t ∈ q ↔ t ∈ dealsL (doneL (piecesH a b q)) := fun t => by rw [hd]; exact pieces_deals t
  have e1 := serE_of hk h.nd hm
  have e2 : serL (piecesH a b q) q = piecesH a b q := by rw [serL_of e1, hd, along_pieces a b h.nd fun t ht => ht]
  have e3 := ser_done hk e1
  rw [e2] at e3
  refine ⟨hk, hd, e3.2.2, e1, e2, ?_⟩
  have ha2 : alongL (piecesH a b q) q = piecesH a b q := along_pieces a b h.nd fun t ht => ht
  cases ho : orderOf (piecesH a b q) with
  | none =>
    exfalso
    obtain ⟨r, hr⟩ := orderOf_none (okH_tx hk) ho
    refine order_ring h.nd (fun e he => ?_) hr
    have h1 : e ∈ edgeP (doneL (piecesH a b q)) := mem_edgesF.1 he
    rw [hd, ← ha2] at h1
    exact along_edges h.nd h1
  | some o =>
    obtain ⟨h1, h2, h3⟩ := orderOf_some ho
    congr 1
    refine order_unique h.nd h1 (fun x => (h2 x).trans (hm x).symm) fun x y hxy => ?_
    refine h3 (x, y) ?_
    rw [hd, mem_edgeP]
    have hx : x ∈ q := by obtain ⟨i, j, _, hi, _⟩ := hxy; exact List.mem_of_getElem? hi
    have hy : y ∈ q := by obtain ⟨i, j, _, _, hj⟩ := hxy; exact List.mem_of_getElem? hj
    have hne : x ≠ y := by
      rintro rfl
      obtain ⟨i, j, hij, hi, hj⟩ := hxy
      have := idx_inj h.nd hi hj
      omega
    obtain ⟨i, hi⟩ := List.mem_iff_getElem?.1 (pieces_mem3 (a := a) (b := b) hx).2
    obtain ⟨k, hkk⟩ := List.mem_iff_getElem?.1 (pieces_mem3 (a := a) (b := b) hy).2
    have hik : i < k := along_lt (D := piecesH a b q) h.nd (x := ⟨x, 2, b⟩) (y := ⟨y, 2, b⟩) hxy (by rw [ha2]; exact hi) (by rw [ha2]; exact hkk)
    refine ⟨i, k, _, _, hik, hi, hkk, ?_, rfl, rfl⟩
    unfold oddB
    rw [decide_eq_true_iff]
    exact ⟨hne, rfl, by show b ≠ 0; omega, .inl rfl⟩
end Go.Proofs.YtaaahfbcpgdoiaaGreatDoor

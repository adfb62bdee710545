
/-
  PLAIN LAWS: the reference's order of a history; pieces; what is done of a history along an order is itself; edges of what is done.
  PLAIN LAWS for StampOrders: of what is told by numbers each that is at odds with one ahead is of a greater number; an order along rising edges.
  PLAIN LAWS for SerialJust and SerialAgain: what holds along an order; deals one behind the other, each in one piece.
-/
import Derived.Test.YtmehghkpghbpjaaGreatQ38
import Derived.Test.YtmehghkpghbpjaaGreatQ30
import Derived.Test.YtmehghkpghbpjaaGreatQ31
import Derived.Test.YtmehghkpghbpjaaGreatQ19
import Derived.Test.YtmehghkpghbpjaaGreatQ6
import Derived.Test.YtmehghkpghbpjaaGreatQ40

namespace Go.Proofs.YtmehghkpghbpjaaGreat
open Go.RowKit

/-! ### Deals, rising, as the reference finds them; the reference's order. -/
theorem dealsL_snoc {h : List HOp} {k : Nat} {o : HOp} (ho : h[k]? = some o) : dealsL (h.take (k + 1)) = insS ltI o.tx (dealsL (h.take k)) := by
  unfold dealsL
  rw [List.take_add_one, ho, List.map_append]
  exact sortS_snoc _ _
theorem rsort_order {h : List HOp} (ht : ∀ o ∈ h, 1 ≤ o.tx ∧ o.tx ≤ 6) : rsortF (edgesF h) (dealsL (doneL h)) = orderOf h := by
  have hu := dealsL_up (doneL h)
  have hp : ∀ x ∈ dealsL (doneL h), 0 < x := fun x hx => by
    obtain ⟨o, h1, rfl⟩ := mem_dealsL.1 hx
    have := done_tx ht o h1
    omega
  unfold orderOf rsortF topF
  rw [sortI_of_up hu, ← top_rsort _ _ hu hp]
  congr 1
  simp

/-! ### Pieces. -/
def pcsN : Int → List HOp → Nat
  | _, [] => 0
  | p, o :: t => (if o.tx = p then 0 else 1) + pcsN o.tx t
theorem pcsN_step {p : Int} {o : HOp} {l t : List HOp} (e : l = o :: t) : pcsN p l = (if o.tx = p then 0 else 1) + pcsN o.tx t := by rw [e, pcsN]
def isF (D : List HOp) : Bool := decide (pcsN 0 D = (dealsL D).length)
theorem pcsN_len (D : List HOp) : ∀ p, pcsN p D ≤ D.length := by
  induction D with
  | nil => intro p; simp [pcsN]
  | cons o t ih => intro p; have := ih o.tx; rw [pcsN, List.length_cons]; split <;> omega
theorem pcsN_run {t : Int} : ∀ {l : List HOp} {r : List HOp}, (∀ o ∈ l, o.tx = t) → pcsN t (l ++ r) = pcsN t r
  | [], _, _ => rfl
  | o :: l, r, h => by
    have h0 := h o List.mem_cons_self
    rw [List.cons_append, pcsN, if_pos h0, h0, pcsN_run fun x hx => h x (List.mem_cons_of_mem _ hx)]
    omega
theorem pcsN_own {D : List HOp} {t p : Int} {r : List HOp} (hne : ∃ o ∈ D, o.tx = t) (hp : t ≠ p) : pcsN p (ownL D t ++ r) = 1 + pcsN t r := by
  cases hl : ownL D t with
  | nil =>
    obtain ⟨o, h1, h2⟩ := hne
    have : o ∈ ownL D t := by unfold ownL; rw [List.mem_filter]; exact ⟨h1, by simpa using h2⟩
    rw [hl] at this
    cases this
  | cons o l =>
    have hall : ∀ x ∈ o :: l, x.tx = t := fun x hx => (ownL_tx (by rw [hl]; exact hx)).2
    have h0 := hall o List.mem_cons_self
    rw [List.cons_append, pcsN, if_neg (by rw [h0]; exact hp), h0, pcsN_run fun x hx => hall x (List.mem_cons_of_mem _ hx)]
theorem pcsN_along (D : List HOp) : ∀ (o : List Int) (p : Int), o.Nodup → p ∉ o → (∀ t ∈ o, ∃ x ∈ D, x.tx = t) → pcsN p (alongL D o) = o.length
  | [], _, _, _, _ => rfl
  | t :: o, p, hn, hp, hall => by
    obtain ⟨h1, h2⟩ := List.nodup_cons.1 hn
    rw [alongL_cons, pcsN_own (hall t List.mem_cons_self) (fun e => hp (by rw [← e]; exact List.mem_cons_self)), pcsN_along D o t h2 h1 fun x hx => hall x (List.mem_cons_of_mem _ hx), List.length_cons]
    omega
theorem deals_along {D : List HOp} {o : List Int} (hn : o.Nodup) (hall : ∀ t ∈ o, ∃ x ∈ D, x.tx = t) : (dealsL (alongL D o)).length = o.length := by
  have h1 := nodup_sub_len (dealsL (alongL D o)) o (dealsL_nodup _) fun x hx => by
    obtain ⟨y, h1, rfl⟩ := mem_dealsL.1 hx
    exact (mem_along.1 h1).2
  have h2 := nodup_sub_len o (dealsL (alongL D o)) hn fun x hx => by
    obtain ⟨y, h3, h4⟩ := hall x hx
    exact mem_dealsL.2 ⟨y, mem_along.2 ⟨h3, by rw [h4]; exact hx⟩, h4⟩
  omega
theorem isF_along {D : List HOp} {o : List Int} (hn : o.Nodup) (hall : ∀ t ∈ o, ∃ x ∈ D, x.tx = t) (h0 : (0 : Int) ∉ o) : isF (alongL D o) = true := by
  unfold isF
  rw [decide_eq_true_iff, pcsN_along D o 0 hn h0 hall, deals_along hn hall]

/-! ### What is done of a history along an order: itself. -/
theorem serE_ok {h : List HOp} {o : List Int} (hk : okH h) (hs : serE h o = 0) : sortI o = dealsL (doneL h) ∧ o.Nodup ∧ (∀ t, t ∈ o ↔ t ∈ dealsL (doneL h)) := by
  unfold serE at hs
  rw [if_neg (fun e => e hk)] at hs
  split at hs
  · rename_i e
    refine ⟨e, ?_, fun t => by rw [← e, sortI_mem]⟩
    have h1 : (sortI o).Nodup := by rw [e]; exact dealsL_nodup _
    exact (List.mergeSort_perm _ _).nodup_iff.1 h1
  · cases hs
theorem serE_range {h : List HOp} (hk : okH h) (o : List Int) : serE h o = 0 ∨ serE h o = 3 := by
  unfold serE
  rw [if_neg (fun e => e hk)]
  split
  · exact .inl rfl
  · exact .inr rfl
theorem serE_of {h : List HOp} (hk : okH h) {o : List Int} (hn : o.Nodup) (hm : ∀ t, t ∈ o ↔ t ∈ dealsL (doneL h)) : serE h o = 0 := by
  have e1 : sortI o = dealsL (doneL h) := by
    unfold dealsL
    refine sortS_eq sloI ?_ fun x => ?_
    · have h1 := sortI_up o
      have h2 : (sortI o).Nodup := (List.mergeSort_perm _ _).nodup_iff.2 hn
      exact (h1.and h2).imp fun {a b} ⟨g1, g2⟩ => by simp [ltI] at g1 ⊢; omega
    · rw [sortI_mem, hm]
      unfold dealsL
      rw [mem_sortS]
  unfold serE
  rw [if_neg (fun e => e hk), if_pos e1]
theorem serL_of {h : List HOp} {o : List Int} (hs : serE h o = 0) : serL h o = alongL (doneL h) o := by unfold serL; rw [if_pos hs]
theorem along_all {D : List HOp} {o : List Int} (hm : ∀ t, t ∈ o ↔ t ∈ dealsL D) : ∀ x ∈ D, x.tx ∈ o := fun x hx => (hm _).2 (mem_dealsL.2 ⟨x, hx, rfl⟩)
theorem along_doneL {h : List HOp} (ht : ∀ o ∈ h, 1 ≤ o.tx ∧ o.tx ≤ 6) (o : List Int) : doneL (alongL (doneL h) o) = alongL (doneL h) o := by
  have hta : ∀ x ∈ alongL (doneL h) o, 1 ≤ x.tx ∧ x.tx ≤ 6 := fun x hx => done_tx ht x (mem_along.1 hx).1
  rw [show doneL (alongL (doneL h) o) = (alongL (doneL h) o).filter fun x => (flagsF (alongL (doneL h) o)).getD x.tx.toNat false from rfl, List.filter_eq_self]
  intro x hx
  rw [flagsF_get hta]
  obtain ⟨h1, h2⟩ := mem_along.1 hx
  have h1' : x ∈ doneL h := h1
  obtain ⟨h3, c, h4, h5, h6⟩ := (mem_doneL ht).1 h1'
  refine ⟨c, mem_along.2 ⟨(mem_doneL ht).2 ⟨h4, c, h4, rfl, h6⟩, by rw [h5]; exact h2⟩, by rw [h5], h6⟩
/-- Histories of the same ops of each deal are right together. -/
theorem okH_own {h g : List HOp} (hk : okH h) (hl : g.length = h.length) (hm : ∀ t, 1 ≤ t → t ≤ 6 → ownL g t = ownL h t) (hx : ∀ x ∈ g, x ∈ h) : okH g :=
  (okH_iff).2 ⟨by rw [hl]; exact okH_len hk, fun x h1 => okH_right hk x (hx x h1), fun t h1 h2 => by rw [hm t h1 h2]; exact (okH_iff.1 hk).2.2 t h1 h2⟩
theorem along_count (D : List HOp) (x : HOp) : ∀ {o : List Int}, o.Nodup → (alongL D o).count x = if x.tx ∈ o then D.count x else 0
  | [], _ => by simp [alongL]
  | t :: o, hn => by
    obtain ⟨h1, h2⟩ := List.nodup_cons.1 hn
    rw [alongL_cons, List.count_append, along_count D x h2]
    by_cases e : x.tx = t
    · have hc : (ownL D t).count x = D.count x := by
        unfold ownL
        rw [List.count_filter (by simpa using e)]
      rw [hc, if_neg (by rw [e]; exact h1), if_pos (by simp [e])]
      omega
    · have hc : (ownL D t).count x = 0 := List.count_eq_zero.2 fun hx => e (ownL_tx hx).2
      rw [hc]
      by_cases hm : x.tx ∈ o
      · rw [if_pos hm, if_pos (by simp [hm])]; omega
      · rw [if_neg hm, if_neg (by simp [hm, e])]
theorem along_perm {D : List HOp} {o : List Int} (hn : o.Nodup) (hall : ∀ x ∈ D, x.tx ∈ o) : (alongL D o).Perm D := by
  rw [List.perm_iff_count]
  intro x
  rw [along_count D x hn]
  split
  · rfl
  · rename_i h
    exact (List.count_eq_zero.2 fun hx => h (hall x hx)).symm
theorem okH_along {h : List HOp} (hk : okH h) {o : List Int} (hs : serE h o = 0) : okH (alongL (doneL h) o) := by
  obtain ⟨_, h1, h2⟩ := serE_ok hk hs
  have hp := along_perm h1 (along_all h2)
  refine okH_own (okH_done hk) hp.length_eq (fun t _ _ => ?_) fun x hx => hp.mem_iff.1 hx
  rw [ownL_along _ _ h1]
  by_cases hm : t ∈ o
  · rw [if_pos hm]
  · rw [if_neg hm]
    refine Eq.symm (List.filter_eq_nil_iff.2 fun x hx => ?_)
    simp
    intro e
    exact hm (by rw [← e]; exact along_all h2 x hx)
theorem ser_done {h : List HOp} (hk : okH h) {o : List Int} (hs : serE h o = 0) : doneL (serL h o) = serL h o ∧ okH (serL h o) ∧ isF (serL h o) = true := by
  obtain ⟨_, h1, h2⟩ := serE_ok hk hs
  rw [serL_of hs]
  refine ⟨along_doneL (okH_tx hk) o, okH_along hk hs, ?_⟩
  refine isF_along h1 (fun t ht => by obtain ⟨x, h3, h4⟩ := mem_dealsL.1 ((h2 t).1 ht); exact ⟨x, h3, h4⟩) fun h0 => ?_
  obtain ⟨x, h3, h4⟩ := mem_dealsL.1 ((h2 0).1 h0)
  have := done_tx (okH_tx hk) x h3
  omega

/-! ### Edges of what is done are right, and no edge leads back. -/
theorem edgesF_ok {h : List HOp} (ht : ∀ o ∈ h, 1 ≤ o.tx ∧ o.tx ≤ 6) : okE (edgesF h) ∧ ∀ e ∈ edgesF h, e.1 ≠ e.2 := by
  refine ⟨fun e he => ?_, fun e he => ?_⟩
  · obtain ⟨⟨a, h1, h2⟩, b, h3, h4⟩ := edgeP_mem (mem_edgesF.1 he)
    have ha := done_tx ht a h1
    have hb := done_tx ht b h3
    rw [← h2, ← h4]
    simp [txB]
    omega
  · obtain ⟨x, y⟩ := e
    obtain ⟨i, k, a, b, _, _, _, hab, rfl, rfl⟩ := mem_edgeP.1 (mem_edgesF.1 he)
    unfold oddB at hab
    exact (of_decide_eq_true hab).1
def allE : List (Int × Int) := [1, 2, 3, 4, 5, 6].flatMap fun a : Int => [1, 2, 3, 4, 5, 6].map fun b : Int => (a, b)
theorem nodup_len {α : Type} [DecidableEq α] : ∀ {l s : List α}, l.Nodup → (∀ x ∈ l, x ∈ s) → l.length ≤ s.length
  | [], _, _, _ => Nat.zero_le _
  | a :: t, s, hn, hs => by
    rw [List.nodup_cons] at hn
    have ha := hs a (by simp)
    have := nodup_len (l := t) (s := s.erase a) hn.2 fun x hx => (List.mem_erase_of_ne (fun e => hn.1 (by rw [← e]; exact hx))).2 (hs x (by simp [hx]))
    rw [List.length_erase_of_mem ha] at this
    have h0 : 0 < s.length := List.length_pos_of_mem ha
    simp only [List.length_cons]; omega
theorem edgesF_len {h : List HOp} (ht : ∀ o ∈ h, 1 ≤ o.tx ∧ o.tx ≤ 6) : (edgesF h).length ≤ 36 := by
  have hn : (edgesF h).Nodup := (up_sortS sloE _).imp fun {a b} hab e => by rw [e] at hab; simp [ltE] at hab
  refine nodup_len (s := allE) hn fun ⟨x, y⟩ hx => ?_
  have h1 := (edgesF_ok ht).1 _ hx
  have h2 : 1 ≤ x ∧ x ≤ 6 := by simpa [txB] using h1.1
  have h3 : 1 ≤ y ∧ y ≤ 6 := by simpa [txB] using h1.2
  unfold allE
  rw [List.mem_flatMap]
  refine ⟨x, by simp; omega, ?_⟩
  rw [List.mem_map]
  exact ⟨y, by simp; omega, rfl⟩
theorem edgesF_check {h : List HOp} (ht : ∀ o ∈ h, 1 ≤ o.tx ∧ o.tx ≤ 6) : checkG (edgesF h) = 0 := by
  have h1 := edgesF_len ht
  unfold checkG
  rw [if_neg (by omega), if_neg]
  rw [List.any_eq_true]
  rintro ⟨e, h2, h3⟩
  have h4 := (edgesF_ok ht).1 e h2
  unfold badE at h3
  simp [h4.1, h4.2] at h3
/-- An order, or a ring of two at least. -/
theorem order_either {h : List HOp} (ht : ∀ o ∈ h, 1 ≤ o.tx ∧ o.tx ≤ 6) : (∃ o, orderOf h = some o ∧ ringF (edgesF h) = none) ∨ (orderOf h = none ∧ ∃ r, ringF (edgesF h) = some r ∧ 2 ≤ r.length) := by
  cases ho : orderOf h with
  | some o =>
    refine .inl ⟨o, rfl, ?_⟩
    obtain ⟨h1, _, h3⟩ := orderOf_some ho
    cases hr : ringF (edgesF h) with
    | none => rfl
    | some r => exact (order_ring h1 (fun e he => h3 e (mem_edgesF.1 he)) (ringF_some hr)).elim
  | none =>
    refine .inr ⟨rfl, ?_⟩
    obtain ⟨r, hr⟩ := orderOf_none ht ho
    cases hf : ringF (edgesF h) with
    | none => exact absurd hf (ringF_of hr)
    | some q =>
      refine ⟨q, rfl, ?_⟩
      have hq := ringF_some hf
      obtain ⟨l1, _⟩ := ringE_len hq
      rcases Nat.lt_or_ge q.length 2 with h2 | h2
      · match q, hq, l1, h2 with
        | [x], hq, _, _ => exact absurd rfl ((edgesF_ok ht).2 _ hq.2.2.2.2)
      · exact h2
end Go.Proofs.YtmehghkpghbpjaaGreat


namespace Go.Proofs.YtmehghkpghbpjaaGreat
open Go.RowKit

/-! ### What is told by numbers: each that is at odds with one ahead is of a greater number. -/
structure TInv (pre : List HOp) (ms : List (Int × Int)) (told : List HOp) (vic : List Int) : Prop where
  ml : ms.length = 7
  ok : okH told
  len : told.length ≤ pre.length
  rd : ∀ x ∈ told, x.what = 1 → x.tx ≤ (ms.getD x.item.toNat (0, 0)).1
  wr : ∀ x ∈ told, x.what = 2 → x.tx ≤ (ms.getD x.item.toNat (0, 0)).2
  up : told.Pairwise fun a b => oddB a b = true → a.tx < b.tx
  en : ∀ t, endIn t told = true → t ∈ vic ∨ endIn t pre = true
  vi : ∀ v ∈ vic, ∃ l, ownL told v = l ++ [⟨v, 4, 0⟩]
  vr : ∀ v ∈ vic, 1 ≤ v ∧ v ≤ 6
def MsLe (ms ms' : List (Int × Int)) : Prop := ∀ i, (ms.getD i (0, 0)).1 ≤ (ms'.getD i (0, 0)).1 ∧ (ms.getD i (0, 0)).2 ≤ (ms'.getD i (0, 0)).2
theorem MsLe.refl (ms : List (Int × Int)) : MsLe ms ms := fun _ => ⟨Int.le_refl _, Int.le_refl _⟩
theorem MsLe.set {ms : List (Int × Int)} {i : Nat} {p : Int × Int} (h1 : (ms.getD i (0, 0)).1 ≤ p.1) (h2 : (ms.getD i (0, 0)).2 ≤ p.2) : MsLe ms (ms.set i p) := fun j => by
  simp only [List.getD_eq_getElem?_getD] at h1 h2 ⊢
  rw [List.getElem?_set]
  by_cases e : i = j
  · subst e
    rw [if_pos rfl]
    by_cases hl : i < ms.length
    · rw [if_pos hl]; exact ⟨h1, h2⟩
    · rw [if_neg hl, List.getElem?_eq_none (by omega)]; exact ⟨Int.le_refl _, Int.le_refl _⟩
  · rw [if_neg e]; exact ⟨Int.le_refl _, Int.le_refl _⟩
theorem getD_set {ms : List (Int × Int)} {i : Nat} {p : Int × Int} (h : i < ms.length) : (ms.set i p).getD i (0, 0) = p := by
  rw [List.getD_eq_getElem?_getD, List.getElem?_set, if_pos rfl, if_pos h]; rfl
theorem TInv.not_in {pre : List HOp} {ms : List (Int × Int)} {told : List HOp} {vic : List Int} (h : TInv pre ms told vic) {o : HOp} {r : List HOp} (hk : okH (pre ++ o :: r)) (hv : o.tx ∉ vic) : endIn o.tx told = false := by
  cases he : endIn o.tx told with
  | false => rfl
  | true =>
    rcases h.en o.tx he with h1 | h1
    · exact absurd h1 hv
    · rw [(okH_after hk).2] at h1
      cases h1
theorem pre_len {pre : List HOp} {o : HOp} {r : List HOp} (hk : okH (pre ++ o :: r)) : pre.length ≤ 39 := by
  have := okH_len hk
  simp at this
  omega
theorem TInv.tell {pre : List HOp} {ms ms' : List (Int × Int)} {told : List HOp} {vic : List Int} (h : TInv pre ms told vic) {o x : HOp} {r : List HOp} (hk : okH (pre ++ o :: r)) (hv : o.tx ∉ vic) (hl : ms'.length = 7) (hms : MsLe ms ms')
    (hx : x.tx = o.tx) (hxr : rightB x = true) (h1 : x.what = 1 → x.tx ≤ (ms'.getD x.item.toNat (0, 0)).1 ∧ (ms.getD x.item.toNat (0, 0)).2 ≤ x.tx)
    (h2 : x.what = 2 → x.tx ≤ (ms'.getD x.item.toNat (0, 0)).2 ∧ (ms.getD x.item.toNat (0, 0)).1 ≤ x.tx ∧ (ms.getD x.item.toNat (0, 0)).2 ≤ x.tx)
    (vic' : List Int) (hvic : vic' = vic ∧ x = o ∨ vic' = vic ++ [o.tx] ∧ x = ⟨o.tx, 4, 0⟩) : TInv (pre ++ [o]) ms' (told ++ [x]) vic' := by
  have hn := h.not_in hk hv
  have hp := pre_len hk
  have hlen := h.len
  have hor := (okH_after hk).1
  have hg := rightB_get hor
  refine ⟨hl, okH_snoc h.ok (by omega) hxr (by rw [hx]; exact hn), by simp; omega, ?_, ?_, ?_, ?_, ?_, ?_⟩
  · intro y hy hw
    rcases List.mem_append.1 hy with hy | hy
    · exact Int.le_trans (h.rd y hy hw) (hms _).1
    · rw [List.mem_singleton.1 hy] at hw ⊢; exact (h1 hw).1
  · intro y hy hw
    rcases List.mem_append.1 hy with hy | hy
    · exact Int.le_trans (h.wr y hy hw) (hms _).2
    · rw [List.mem_singleton.1 hy] at hw ⊢; exact (h2 hw).1
  · rw [List.pairwise_append]
    refine ⟨h.up, List.pairwise_singleton _ _, fun a ha b hb hab => ?_⟩
    rw [List.mem_singleton.1 hb] at hab ⊢
    unfold oddB at hab
    obtain ⟨g1, g2, g3, g4⟩ := of_decide_eq_true hab
    have hra := rightB_get (okH_right h.ok a ha)
    have hrx := rightB_get hxr
    have hle : a.tx ≤ x.tx := by
      by_cases ha2 : a.what = 2
      · have q := h.wr a ha ha2
        rw [g2] at q
        by_cases hx1 : x.what = 1
        · exact Int.le_trans q (h1 hx1).2
        · by_cases hx2 : x.what = 2
          · exact Int.le_trans q (h2 hx2).2.2
          · have := hrx.2.2.2.2.2 (by omega); omega
      · have hx2 : x.what = 2 := by exact g4.resolve_left ha2
        by_cases ha1 : a.what = 1
        · have q := h.rd a ha ha1
          rw [g2] at q
          exact Int.le_trans q (h2 hx2).2.1
        · have := hra.2.2.2.2.2 (by omega); omega
    omega
  · intro t ht
    rw [endIn_snoc, Bool.or_eq_true] at ht
    rcases ht with ht | ht
    · rcases h.en t ht with h5 | h5
      · rcases hvic with ⟨e, _⟩ | ⟨e, _⟩
        · left; rw [e]; exact h5
        · left; rw [e]; exact List.mem_append_left _ h5
      · right; rw [endIn_snoc, h5]; rfl
    · obtain ⟨h5, h6⟩ := of_decide_eq_true ht
      rcases hvic with ⟨_, e⟩ | ⟨e, _⟩
      · right
        rw [endIn_snoc, ← e, decide_eq_true (show x.tx = t ∧ 3 ≤ x.what from ⟨h5, h6⟩), Bool.or_true]
      · left; rw [e]; exact List.mem_append_right _ (by rw [← h5, hx]; exact List.mem_singleton.2 rfl)
  · intro v hvv
    rcases hvic with ⟨e, _⟩ | ⟨e, ex⟩
    · rw [e] at hvv
      obtain ⟨l, hl⟩ := h.vi v hvv
      refine ⟨l, ?_⟩
      rw [ownL_append, hl]
      have : ownL [x] v = [] := by
        unfold ownL
        rw [List.filter_eq_nil_iff]
        intro y hy
        rw [List.mem_singleton.1 hy]
        simp
        rintro rfl
        exact hv (by rw [← hx]; exact hvv)
      rw [this, List.append_nil]
    · rw [e] at hvv
      by_cases ev : v = o.tx
      · subst ev
        refine ⟨ownL told o.tx, ?_⟩
        rw [ownL_append, ex]
        simp [ownL]
      · have hvv2 : v ∈ vic := by
          rcases List.mem_append.1 hvv with h5 | h5
          · exact h5
          · exact absurd (List.mem_singleton.1 h5) ev
        obtain ⟨l, hl⟩ := h.vi v hvv2
        refine ⟨l, ?_⟩
        rw [ownL_append, hl]
        have : ownL [x] v = [] := by
          unfold ownL
          rw [List.filter_eq_nil_iff]
          intro y hy
          rw [List.mem_singleton.1 hy]
          simp
          rintro rfl
          exact ev hx
        rw [this, List.append_nil]
  · intro v hvv
    rcases hvic with ⟨e, _⟩ | ⟨e, _⟩
    · exact h.vr v (by rw [e] at hvv; exact hvv)
    · rw [e] at hvv
      rcases List.mem_append.1 hvv with h5 | h5
      · exact h.vr v h5
      · rw [List.mem_singleton.1 h5]; exact ⟨hg.1, hg.2.1⟩
theorem TInv.skip {pre : List HOp} {ms ms' : List (Int × Int)} {told : List HOp} {vic : List Int} (h : TInv pre ms told vic) (o : HOp) (hl : ms'.length = 7) (hms : MsLe ms ms') : TInv (pre ++ [o]) ms' told vic :=
  ⟨hl, h.ok, by have := h.len; simp; omega, fun x hx hw => Int.le_trans (h.rd x hx hw) (hms _).1, fun x hx hw => Int.le_trans (h.wr x hx hw) (hms _).2, h.up,
    fun t ht => (h.en t ht).imp id fun h5 => by rw [endIn_snoc, h5]; rfl, h.vi, h.vr⟩
theorem stampGo_inv (lv : Bool) : ∀ (rest pre : List HOp) (ms : List (Int × Int)) (told : List HOp) (vic : List Int), okH (pre ++ rest) → TInv pre ms told vic →
    ∃ ms', TInv (pre ++ rest) ms' (stampGo lv ms told vic rest).1 (stampGo lv ms told vic rest).2
  | [], pre, ms, told, vic, _, h => ⟨ms, by rw [List.append_nil]; exact h⟩
  | o :: t, pre, ms, told, vic, hk, h => by
    have hk2 : okH ((pre ++ [o]) ++ t) := by rw [List.append_assoc]; exact hk
    have goal : ∀ ms' told' vic', TInv (pre ++ [o]) ms' told' vic' → ∃ ms'', TInv (pre ++ o :: t) ms'' (stampGo lv ms' told' vic' t).1 (stampGo lv ms' told' vic' t).2 := fun ms' told' vic' hs => by
      obtain ⟨m, hm⟩ := stampGo_inv lv t (pre ++ [o]) ms' told' vic' hk2 hs
      exact ⟨m, by rw [List.append_assoc] at hm; exact hm⟩
    have hor := (okH_after hk).1
    have hg := rightB_get hor
    rw [stampGo]
    by_cases hv : o.tx ∈ vic
    · rw [if_pos hv]
      exact goal _ _ _ (h.skip o h.ml (MsLe.refl _))
    · rw [if_neg hv]
      by_cases he : endsB o = true
      · rw [if_pos he]
        unfold endsB at he
        have he := of_decide_eq_true he
        exact goal _ _ _ (h.tell hk hv h.ml (MsLe.refl _) rfl hor (fun h1 => by omega) (fun h1 => by omega) vic (.inl ⟨rfl, rfl⟩))
      · rw [if_neg he]
        have hit : 1 ≤ o.item ∧ o.item ≤ 6 := hg.2.2.2.2.1 (by unfold endsB at he; simp at he; omega)
        have hlt : o.item.toNat < ms.length := by rw [h.ml]; omega
        have hw12 : o.what = 1 ∨ o.what = 2 := by unfold endsB at he; simp at he; omega
        have hlen : ∀ p, (ms.set o.item.toNat p).length = 7 := fun p => by rw [List.length_set]; exact h.ml
        simp only
        have hr4 : rightB (⟨o.tx, 4, 0⟩ : HOp) = true := rightB_mk ⟨hg.1, hg.2.1, by simp, by simp, fun h => by simp at h, fun _ => rfl⟩
        unfold lookM
        generalize hm : ms.getD o.item.toNat (0, 0) = m
        obtain ⟨r, wv⟩ := m
        simp only
        have hset : ∀ p : Int × Int, r ≤ p.1 → wv ≤ p.2 → MsLe ms (ms.set o.item.toNat p) := fun p h1 h2 => MsLe.set (by rw [hm]; exact h1) (by rw [hm]; exact h2)
        have habort : ∀ ms', ms'.length = 7 → MsLe ms ms' → ∃ ms'', TInv (pre ++ o :: t) ms'' (stampGo lv ms' (told ++ [⟨o.tx, 4, 0⟩]) (vic ++ [o.tx]) t).1 (stampGo lv ms' (told ++ [⟨o.tx, 4, 0⟩]) (vic ++ [o.tx]) t).2 := fun ms' hl hms =>
          goal _ _ _ (h.tell hk hv hl hms (x := ⟨o.tx, 4, 0⟩) rfl hr4 (fun h1 => by simp at h1) (fun h1 => by simp at h1) (vic ++ [o.tx]) (.inr ⟨rfl, rfl⟩))
        by_cases h1 : o.what = 1
        · rw [if_pos h1]
          by_cases h2 : wv > o.tx
          · rw [if_pos h2, if_neg (by simp), if_pos (by rfl)]
            exact habort _ (hlen _) (hset _ (Int.le_refl _) (Int.le_refl _))
          · rw [if_neg h2, if_pos (by rfl)]
            refine goal _ _ _ (h.tell hk hv (hlen _) (hset _ (Int.le_max_left _ _) (Int.le_refl _)) rfl hor (fun _ => ?_) (fun h3 => by omega) vic (.inl ⟨rfl, rfl⟩))
            rw [getD_set hlt, hm]
            exact ⟨Int.le_max_right _ _, by simp only; omega⟩
        · rw [if_neg h1]
          have h12 : o.what = 2 := by omega
          by_cases h2 : r > o.tx ∨ (wv > o.tx ∧ lv = false)
          · rw [if_pos h2, if_neg (by simp), if_pos (by rfl)]
            exact habort _ (hlen _) (hset _ (Int.le_refl _) (Int.le_refl _))
          · rw [if_neg h2]
            by_cases h3 : wv > o.tx
            · rw [if_pos h3, if_neg (by simp), if_neg (by simp)]
              exact goal _ _ _ (h.skip o (hlen _) (hset _ (Int.le_refl _) (Int.le_refl _)))
            · rw [if_neg h3, if_pos (by rfl)]
              refine goal _ _ _ (h.tell hk hv (hlen _) (hset _ (Int.le_refl _) (by simp only; omega)) rfl hor (fun h4 => absurd h4 h1) (fun _ => ?_) vic (.inl ⟨rfl, rfl⟩))
              rw [getD_set hlt, hm]
              refine ⟨Int.le_refl _, ?_, ?_⟩
              · simp only; have := fun e => h2 (.inl e); omega
              · simp only; omega
theorem stamp_inv (lv : Bool) {h : List HOp} (hk : okH h) : ∃ ms, TInv h ms (stampF lv h).1 (stampF lv h).2 := by
  obtain ⟨ms, this⟩ := stampGo_inv lv h [] (List.replicate 7 (0, 0)) [] [] (by simpa using hk) ⟨by simp, by show (checkF _).2 = 0; decide, by simp, by simp, by simp, List.Pairwise.nil, by simp [endIn], by simp, by simp⟩
  exact ⟨ms, by rw [List.nil_append] at this; exact this⟩

/-! ### An order along rising edges is the deals, rising. -/
theorem topGo_rise {E : List (Int × Int)} (hE : ∀ e ∈ E, e.1 < e.2) : ∀ (f : Nat) (left acc : List Int), left.length = f → Up ltI left → topGo E f left acc = some (acc ++ left)
  | 0, left, acc, hl, _ => by rw [topGo, List.eq_nil_of_length_eq_zero hl, List.append_nil]
  | f + 1, [], _, hl, _ => by simp at hl
  | f + 1, d :: t, acc, hl, hu => by
    have hu' := List.pairwise_cons.1 hu
    have hrd : readyB E (d :: t) d = true := by
      unfold readyB
      rw [Bool.not_eq_true', List.any_eq_false]
      rintro ⟨x, y⟩ he hc
      unfold holdsE at hc
      simp only [Bool.and_eq_true, decide_eq_true_eq] at hc
      have h1 := hE _ he
      simp only at h1
      rcases List.mem_cons.1 hc.2 with h2 | h2
      · omega
      · have := hu'.1 x h2
        simp [ltI] at this
        omega
    have hidx : idxGo (readyB E (d :: t)) 0 (d :: t) = 0 := by
      rw [idxGo, if_pos hrd]
    rw [topGo, hidx, if_neg (by omega)]
    have e0 : (0 : Int).toNat = 0 := rfl
    rw [e0, List.eraseIdx_zero, List.tail_cons, topGo_rise hE f t _ (by simpa using hl) hu'.2]
    simp
theorem order_rise {h : List HOp} (hE : ∀ e ∈ edgesF h, e.1 < e.2) : orderOf h = some (dealsL (doneL h)) := by
  unfold orderOf
  rw [topF_up (dealsL_up _), topGo_rise hE _ _ _ rfl (dealsL_up _)]
  rfl
theorem stamp_edges (lv : Bool) {h : List HOp} (hk : okH h) : ∀ e ∈ edgesF (stampF lv h).1, e.1 < e.2 := by
  obtain ⟨ms, hs⟩ := stamp_inv lv hk
  intro ⟨x, y⟩ he
  obtain ⟨i, k, a, b, hik, ha, hb, hab, rfl, rfl⟩ := mem_edgeP.1 (mem_edgesF.1 he)
  have hP := hs.up.sublist (List.filter_sublist (l := (stampF lv h).1) (p := fun o => (flagsF (stampF lv h).1).getD o.tx.toNat false))
  obtain ⟨hi', ea⟩ := List.getElem?_eq_some_iff.1 ha
  obtain ⟨hk', eb⟩ := List.getElem?_eq_some_iff.1 hb
  have := List.pairwise_iff_getElem.1 hP i k hi' hk' hik
  have e1 : ((stampF lv h).1.filter fun o => (flagsF (stampF lv h).1).getD o.tx.toNat false)[i] = a := ea
  have e2 : ((stampF lv h).1.filter fun o => (flagsF (stampF lv h).1).getD o.tx.toNat false)[k] = b := eb
  rw [e1, e2] at this
  exact this hab
theorem stamp_orders (lv : Bool) {h : List HOp} (hk : okH h) : okH (stampF lv h).1 ∧ (∀ e ∈ edgesF (stampF lv h).1, e.1 < e.2) ∧ (∃ o, orderOf (stampF lv h).1 = some o ∧ Up ltI o) ∧ ∀ v ∈ (stampF lv h).2, 1 ≤ v ∧ v ≤ 6 ∧ ∃ l, ownL (stampF lv h).1 v = l ++ [⟨v, 4, 0⟩] := by
  obtain ⟨ms, hs⟩ := stamp_inv lv hk
  exact ⟨hs.ok, stamp_edges lv hk, ⟨_, order_rise (stamp_edges lv hk), dealsL_up _⟩, fun v hv => ⟨(hs.vr v hv).1, (hs.vr v hv).2, hs.vi v hv⟩⟩
end Go.Proofs.YtmehghkpghbpjaaGreat


namespace Go.Proofs.YtmehghkpghbpjaaGreat
open Go.RowKit

theorem play_doneL {h : List HOp} (hk : okH h) : playF (doneL h) = playF h := by
  rw [playF, doneL_doneL (okH_tx hk)]; rfl
/-! ### A history has an order just if its edges have no ring; what holds along that order. -/
theorem just_some {h : List HOp} (hk : okH h) {o : List Int} (ho : orderOf h = some o) : serE h o = 0 ∧ okH (serL h o) ∧ doneL (serL h o) = serL h o ∧ isF (serL h o) = true ∧ sameV (serL h o) (doneL h) = true ∧ sameE (serL h o) (doneL h) = 0 ∧ (playF h).1 = (playF (serL h o)).1 := by
  obtain ⟨h1, h2, h3⟩ := orderOf_some ho
  have e1 := serE_of hk h1 h2
  obtain ⟨d1, d2, d3⟩ := ser_done hk e1
  have hs := orderOf_sw ho
  have hd := okH_done hk
  refine ⟨e1, d2, d1, d3, ?_, ?_, ?_⟩
  · rw [serL_of e1] at d2 ⊢
    unfold sameV
    rw [(alike_iff_sw (okH_tx d2) (okH_tx hd)).2 hs.symm, show (checkF (alongL (doneL h) o)).2 = 0 from d2, show (checkF (doneL h)).2 = 0 from hd]; rfl
  · unfold sameE
    rw [show (checkF (serL h o)).2 = 0 from d2, show (checkF (doneL h)).2 = 0 from hd]; rfl
  · rw [serL_of e1, ← play_doneL hk]
    exact playF_sw hs (okH_right hd)
theorem order_len {h : List HOp} (hk : okH h) {o : List Int} (ho : orderOf h = some o) : o.length ≤ 6 := by
  obtain ⟨h1, h2, _⟩ := orderOf_some ho
  exact serL_len hk (serE_of hk h1 h2)
theorem just_none {h : List HOp} (hk : okH h) (ho : orderOf h = none) (p : List Int) : serE h p ≠ 0 ∨ (sameE (serL h p) (doneL h) = 0 ∧ sameV (serL h p) (doneL h) = false) := by
  by_cases e1 : serE h p = 0
  · right
    obtain ⟨d1, d2, d3⟩ := ser_done hk e1
    obtain ⟨_, h1, h2⟩ := serE_ok hk e1
    have hd := okH_done hk
    refine ⟨?_, ?_⟩
    · unfold sameE
      rw [show (checkF (serL h p)).2 = 0 from d2, show (checkF (doneL h)).2 = 0 from hd]; rfl
    · cases hv : sameV (serL h p) (doneL h) with
      | false => rfl
      | true =>
        unfold sameV at hv
        simp only [Bool.and_eq_true] at hv
        have hs := (alike_iff_sw (okH_tx d2) (okH_tx hd)).1 hv.2
        rw [serL_of e1] at hs
        obtain ⟨o, h5⟩ := serial_order (okH_tx hk) h1 hs
        rw [ho] at h5
        cases h5
  · exact .inl e1
def oneJ : List HOp := [⟨2, 2, 1⟩, ⟨1, 1, 1⟩, ⟨1, 3, 0⟩, ⟨2, 3, 0⟩]
theorem oneJ_ok : okH oneJ := by show (checkF _).2 = 0; decide
theorem oneJ_order : orderOf oneJ = some [2, 1] := by
  unfold orderOf
  rw [topF_up (dealsL_up _)]
  decide

/-! ### Deals one behind the other, each in one piece. -/
theorem before_sym {q : List Int} (hn : q.Nodup) {x y : Int} (h1 : beforeL q x y) (h2 : beforeL q y x) : False := by
  obtain ⟨i, j, hij, hi, hj⟩ := h1
  obtain ⟨k, l, hkl, hk, hl⟩ := h2
  have := idx_inj hn hi hl
  have := idx_inj hn hj hk
  omega
/-- Two orders of the same deals, of which each pair stands alike. -/
theorem order_unique : ∀ {q o : List Int}, q.Nodup → o.Nodup → (∀ x, x ∈ o ↔ x ∈ q) → (∀ x y, beforeL q x y → beforeL o x y) → o = q
  | [], o, _, _, hm, _ => List.eq_nil_iff_forall_not_mem.2 fun x hx => by simpa using (hm x).1 hx
  | t :: q, [], _, _, hm, _ => by
    have := (hm t).2 List.mem_cons_self
    cases this
  | t :: q, s :: o, hq, ho, hm, hb => by
    have hq' := List.nodup_cons.1 hq
    have ho' := List.nodup_cons.1 ho
    have hts : s = t := by
      by_cases e : s = t
      · exact e
      · exfalso
        have hs : s ∈ q := by
          rcases List.mem_cons.1 ((hm s).1 List.mem_cons_self) with h | h
          · exact absurd h e
          · exact h
        obtain ⟨j, hj⟩ := List.mem_iff_getElem?.1 hs
        obtain ⟨i, k, hik, hi, hk⟩ := hb t s ⟨0, j + 1, by omega, by simp, by simpa using hj⟩
        have := idx_inj ho hk (show (s :: o)[0]? = some s by simp)
        omega
    subst hts
    congr 1
    refine order_unique hq'.2 ho'.2 (fun x => ?_) fun x y hxy => ?_
    · have := hm x
      constructor
      · intro hx
        rcases List.mem_cons.1 (this.1 (List.mem_cons_of_mem _ hx)) with h | h
        · exact absurd (h ▸ hx) ho'.1
        · exact h
      · intro hx
        rcases List.mem_cons.1 (this.2 (List.mem_cons_of_mem _ hx)) with h | h
        · exact absurd (h ▸ hx) hq'.1
        · exact h
    · obtain ⟨i, j, hij, hi, hj⟩ := hxy
      obtain ⟨k, l, hkl, hk, hl⟩ := hb x y ⟨i + 1, j + 1, by omega, by simpa using hi, by simpa using hj⟩
      have hxs : x ≠ s := fun e => hq'.1 (by rw [← e]; exact List.mem_of_getElem? hi)
      have hys : y ≠ s := fun e => hq'.1 (by rw [← e]; exact List.mem_of_getElem? hj)
      obtain ⟨k, rfl⟩ : ∃ k', k = k' + 1 := ⟨k - 1, by
        cases k with
        | zero => simp at hk; exact absurd hk.symm hxs
        | succ k => omega⟩
      obtain ⟨l, rfl⟩ : ∃ l', l = l' + 1 := ⟨l - 1, by omega⟩
      exact ⟨k, l, by omega, by simpa using hk, by simpa using hl⟩
def pieceH (a b t : Int) : List HOp := [⟨t, 1, a⟩, ⟨t, 2, b⟩, ⟨t, 3, 0⟩]
theorem ownL_piece (a b s t : Int) : ownL (pieceH a b s) t = if s = t then pieceH a b t else [] := by
  unfold ownL pieceH
  by_cases e : s = t
  · subst e; simp
  · simp [e]
theorem ownL_pieces (a b t : Int) : ∀ {q : List Int}, q.Nodup → ownL (piecesH a b q) t = if t ∈ q then pieceH a b t else []
  | [], _ => rfl
  | s :: q, hn => by
    obtain ⟨h1, h2⟩ := List.nodup_cons.1 hn
    rw [piecesH_cons, ownL_append, ownL_pieces a b t h2]
    have := ownL_piece a b s t
    unfold pieceH at this ⊢
    rw [this]
    by_cases e : s = t
    · subst e
      rw [if_pos rfl, if_neg h1, if_pos (by simp), List.append_nil]
    · rw [if_neg e, List.nil_append]
      by_cases hm : t ∈ q
      · rw [if_pos hm, if_pos (by simp [hm])]
      · rw [if_neg hm, if_neg (by simp [hm]; exact fun e' => e e'.symm)]
theorem along_pieces (a b : Int) {q : List Int} (hn : q.Nodup) : ∀ {r : List Int}, (∀ t ∈ r, t ∈ q) → alongL (piecesH a b q) r = piecesH a b r
  | [], _ => rfl
  | t :: r, hr => by
    rw [alongL_cons, along_pieces a b hn fun x hx => hr x (List.mem_cons_of_mem _ hx), ownL_pieces a b t hn, if_pos (hr t List.mem_cons_self), piecesH_cons]
    rfl
theorem pieces_mem3 {a b : Int} : ∀ {q : List Int} {t : Int}, t ∈ q → (⟨t, 3, 0⟩ : HOp) ∈ piecesH a b q ∧ (⟨t, 2, b⟩ : HOp) ∈ piecesH a b q := fun {q} {t} ht => by
  unfold piecesH
  constructor <;> exact List.mem_flatMap.2 ⟨t, ht, by simp⟩
theorem pieces_doneL {a b : Int} {q : List Int} (h : OrdOk q) : doneL (piecesH a b q) = piecesH a b q := by
  have ht : ∀ x ∈ piecesH a b q, 1 ≤ x.tx ∧ x.tx ≤ 6 := fun x hx => h.rg _ (piecesH_mem hx).1
  rw [show doneL (piecesH a b q) = (piecesH a b q).filter fun x => (flagsF (piecesH a b q)).getD x.tx.toNat false from rfl, List.filter_eq_self]
  intro x hx
  rw [flagsF_get ht]
  exact ⟨_, (pieces_mem3 (a := a) (b := b) (piecesH_mem hx).1).1, rfl, rfl⟩
theorem pieces_deals {a b : Int} {q : List Int} (t : Int) : t ∈ q ↔ t ∈ dealsL (piecesH a b q) := by
  rw [mem_dealsL]
  constructor
  · intro h; exact ⟨_, (pieces_mem3 (a := a) (b := b) h).1, rfl⟩
  · rintro ⟨o, h1, rfl⟩; exact (piecesH_mem h1).1
theorem pieces_again {a b : Int} (ha : 1 ≤ a ∧ a ≤ 6) (hb : 1 ≤ b ∧ b ≤ 6) {q : List Int} (h : OrdOk q) :
    okH (piecesH a b q) ∧ doneL (piecesH a b q) = piecesH a b q ∧ isF (piecesH a b q) = true ∧ serE (piecesH a b q) q = 0 ∧ serL (piecesH a b q) q = piecesH a b q ∧ orderOf (piecesH a b q) = some q := by
  have hk := pieces_ok ha hb h
  have hd := pieces_doneL (a := a) (b := b) h
  have hm : ∀ t, t ∈ q ↔ t ∈ dealsL (doneL (piecesH a b q)) := fun t => by rw [hd]; exact pieces_deals t
  have e1 := serE_of hk h.nd hm
  have e2 : serL (piecesH a b q) q = piecesH a b q := by rw [serL_of e1, hd, along_pieces a b h.nd fun t ht => ht]
  have e3 := ser_done hk e1
  rw [e2] at e3
  refine ⟨hk, hd, e3.2.2, e1, e2, ?_⟩
  have ha2 : alongL (piecesH a b q) q = piecesH a b q := along_pieces a b h.nd fun t ht => ht
  cases ho : orderOf (piecesH a b q) with
  | none =>
    exfalso
    obtain ⟨r, hr⟩ := orderOf_none (okH_tx hk) ho
    refine order_ring h.nd (fun e he => ?_) hr
    have h1 : e ∈ edgeP (doneL (piecesH a b q)) := mem_edgesF.1 he
    rw [hd, ← ha2] at h1
    exact along_edges h.nd h1
  | some o =>
    obtain ⟨h1, h2, h3⟩ := orderOf_some ho
    congr 1
    refine order_unique h.nd h1 (fun x => (h2 x).trans (hm x).symm) fun x y hxy => ?_
    refine h3 (x, y) ?_
    rw [hd, mem_edgeP]
    have hx : x ∈ q := by obtain ⟨i, j, _, hi, _⟩ := hxy; exact List.mem_of_getElem? hi
    have hy : y ∈ q := by obtain ⟨i, j, _, _, hj⟩ := hxy; exact List.mem_of_getElem? hj
    have hne : x ≠ y := by
      rintro rfl
      obtain ⟨i, j, hij, hi, hj⟩ := hxy
      have := idx_inj h.nd hi hj
      omega
    obtain ⟨i, hi⟩ := List.mem_iff_getElem?.1 (pieces_mem3 (a := a) (b := b) hx).2
    obtain ⟨k, hkk⟩ := List.mem_iff_getElem?.1 (pieces_mem3 (a := a) (b := b) hy).2
    have hik : i < k := along_lt (D := piecesH a b q) h.nd (x := ⟨x, 2, b⟩) (y := ⟨y, 2, b⟩) hxy (by rw [ha2]; exact hi) (by rw [ha2]; exact hkk)
    refine ⟨i, k, _, _, hik, hi, hkk, ?_, rfl, rfl⟩
    unfold oddB
    rw [decide_eq_true_iff]
    exact ⟨hne, rfl, by show b ≠ 0; omega, .inl rfl⟩
end Go.Proofs.YtmehghkpghbpjaaGreat

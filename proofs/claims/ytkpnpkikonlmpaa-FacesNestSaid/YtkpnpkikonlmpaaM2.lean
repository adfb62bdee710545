
/-
  PLAIN LAWS: histories one behind the other along an order; an order of deals along edges, or a ring.
  PLAIN LAWS for FacesNest: each in the next; who is rigorous has an order: that in which its deals commit.
-/
import Derived.Test.YtkpnpkikonlmpaaM1
import Derived.Test.YtkpnpkikonlmpaaEitherP
import Derived.Test.YtkpnpkikonlmpaaRFacesP
import Derived.Test.YtkpnpkikonlmpaaM6

namespace Go.Proofs.Ytkpnpkikonlmpaa
open Go.RowKit

/-! ### One behind the other. -/
def alongL (D : List HOp) (o : List Int) : List HOp := o.flatMap (ownL D)
theorem alongL_append (D : List HOp) (a b : List Int) : alongL D (a ++ b) = alongL D a ++ alongL D b := by simp [alongL]
theorem alongL_cons (D : List HOp) (t : Int) (b : List Int) : alongL D (t :: b) = ownL D t ++ alongL D b := by simp [alongL]
theorem ownL_tx {D : List HOp} {t : Int} {o : HOp} (h : o ∈ ownL D t) : o ∈ D ∧ o.tx = t := by
  unfold ownL at h
  rw [List.mem_filter] at h
  exact ⟨h.1, by simpa using h.2⟩
theorem mem_along {D : List HOp} {o : List Int} {x : HOp} : x ∈ alongL D o ↔ x ∈ D ∧ x.tx ∈ o := by
  unfold alongL
  rw [List.mem_flatMap]
  constructor
  · rintro ⟨t, h1, h2⟩
    obtain ⟨h3, h4⟩ := ownL_tx h2
    exact ⟨h3, by rw [h4]; exact h1⟩
  · rintro ⟨h1, h2⟩
    exact ⟨x.tx, h2, by unfold ownL; rw [List.mem_filter]; exact ⟨h1, by simp⟩⟩
theorem ownL_own (D : List HOp) (s t : Int) : ownL (ownL D s) t = if s = t then ownL D t else [] := by
  by_cases e : s = t
  · subst e
    rw [if_pos rfl]
    unfold ownL
    rw [List.filter_filter]
    simp
  · rw [if_neg e]
    unfold ownL
    rw [List.filter_filter, List.filter_eq_nil_iff]
    intro x _
    simp
    rintro h1 h2
    exact absurd (h2.symm.trans h1) e
theorem ownL_along (D : List HOp) (t : Int) : ∀ {o : List Int}, o.Nodup → ownL (alongL D o) t = if t ∈ o then ownL D t else []
  | [], _ => rfl
  | s :: o, hn => by
    obtain ⟨h1, h2⟩ := List.nodup_cons.1 hn
    rw [alongL_cons, ownL_append, ownL_own, ownL_along D t h2]
    by_cases e : s = t
    · subst e
      rw [if_pos rfl, if_neg h1, if_pos (by simp), List.append_nil]
    · rw [if_neg e, List.nil_append]
      by_cases hm : t ∈ o
      · rw [if_pos hm, if_pos (by simp [hm])]
      · rw [if_neg hm, if_neg (by simp [hm]; exact fun e' => e e'.symm)]
theorem before_cut {o : List Int} {x y : Int} (h : beforeL o x y) : ∃ u v, o = u ++ v ∧ x ∈ u ∧ y ∈ v := by
  obtain ⟨i, j, hij, hi, hj⟩ := h
  refine ⟨o.take j, o.drop j, (List.take_append_drop _ _).symm, ?_, ?_⟩
  · exact List.mem_iff_getElem?.2 ⟨i, by rw [List.getElem?_take, if_pos hij]; exact hi⟩
  · exact List.mem_iff_getElem?.2 ⟨0, by rw [List.getElem?_drop]; exact hj⟩
theorem cut_before {u v : List Int} {x y : Int} (hx : x ∈ u) (hy : y ∈ v) : beforeL (u ++ v) x y := by
  obtain ⟨i, hi⟩ := List.mem_iff_getElem?.1 hx
  obtain ⟨j, hj⟩ := List.mem_iff_getElem?.1 hy
  have hl := (List.getElem?_eq_some_iff.1 hi).1
  exact ⟨i, u.length + j, by omega, by rw [List.getElem?_append_left hl]; exact hi, by rw [List.getElem?_append_right (by omega), Nat.add_sub_cancel_left]; exact hj⟩
/-- In a history along an order the ops of an earlier deal stand ahead. -/
theorem along_lt {D : List HOp} {o : List Int} (hn : o.Nodup) {x y : HOp} (hb : beforeL o x.tx y.tx) {i k : Nat} (hi : (alongL D o)[i]? = some x) (hk : (alongL D o)[k]? = some y) : i < k := by
  obtain ⟨u, v, rfl, hu, hv⟩ := before_cut hb
  rw [alongL_append] at hi hk
  have hd := List.nodup_append.1 hn
  have h1 : i < (alongL D u).length := by
    rcases Nat.lt_or_ge i (alongL D u).length with h | h
    · exact h
    · rw [List.getElem?_append_right h] at hi
      have := (mem_along.1 (List.mem_of_getElem? hi)).2
      exact absurd rfl (hd.2.2 x.tx hu x.tx this)
  have h2 : (alongL D u).length ≤ k := by
    rcases Nat.lt_or_ge k (alongL D u).length with h | h
    · rw [List.getElem?_append_left h] at hk
      have := (mem_along.1 (List.mem_of_getElem? hk)).2
      exact absurd rfl (hd.2.2 y.tx this y.tx hv)
    · exact h
  omega
theorem along_sw {D : List HOp} {o : List Int} (hn : o.Nodup) (hall : ∀ x ∈ D, x.tx ∈ o) (he : ∀ e ∈ edgeP D, beforeL o e.1 e.2) : Sw D (alongL D o) := by
  refine alike_sw D _ (fun t => ?_) ?_
  · rw [ownL_along D t hn]
    by_cases hm : t ∈ o
    · rw [if_pos hm]
    · rw [if_neg hm]
      unfold ownL
      rw [List.filter_eq_nil_iff]
      intro x hx
      simp
      intro e
      exact hm (by rw [← e]; exact hall x hx)
  · intro i k a b hik ha hb hab i' k' ha' hb' _ _
    exact along_lt hn (he (a.tx, b.tx) (mem_edgeP.2 ⟨i, k, a, b, hik, ha, hb, hab, rfl, rfl⟩)) ha' hb'
/-- Along an order all edges go forward. -/
theorem along_edges {D : List HOp} {o : List Int} (hn : o.Nodup) {e : Int × Int} (he : e ∈ edgeP (alongL D o)) : beforeL o e.1 e.2 := by
  obtain ⟨x, y⟩ := e
  obtain ⟨i, k, a, b, hik, ha, hb, hab, rfl, rfl⟩ := mem_edgeP.1 he
  have hao := (mem_along.1 (List.mem_of_getElem? ha)).2
  have hbo := (mem_along.1 (List.mem_of_getElem? hb)).2
  have hne : a.tx ≠ b.tx := by
    unfold oddB at hab
    exact (of_decide_eq_true hab).1
  obtain ⟨p, hp⟩ := List.mem_iff_getElem?.1 hao
  obtain ⟨q, hq⟩ := List.mem_iff_getElem?.1 hbo
  rcases Nat.lt_trichotomy p q with h | h | h
  · exact ⟨p, q, h, hp, hq⟩
  · subst h
    rw [hp] at hq
    injection hq with hq
    exact absurd hq hne
  · have := along_lt hn (x := b) (y := a) ⟨q, p, h, hq, hp⟩ hb ha
    omega
theorem edgeP_mem {D : List HOp} {e : Int × Int} (he : e ∈ edgeP D) : (∃ a ∈ D, a.tx = e.1) ∧ ∃ b ∈ D, b.tx = e.2 := by
  obtain ⟨x, y⟩ := e
  obtain ⟨i, k, a, b, _, ha, hb, _, rfl, rfl⟩ := mem_edgeP.1 he
  exact ⟨⟨a, List.mem_of_getElem? ha, rfl⟩, b, List.mem_of_getElem? hb, rfl⟩

/-! ### Deals of a history. -/
def dealsL (h : List HOp) : List Int := sortS ltI (h.map (·.tx))
theorem mem_dealsL {h : List HOp} {t : Int} : t ∈ dealsL h ↔ ∃ o ∈ h, o.tx = t := by
  unfold dealsL
  rw [mem_sortS, List.mem_map]
theorem dealsL_up (h : List HOp) : Up ltI (dealsL h) := up_sortS sloI _
theorem dealsL_nodup (h : List HOp) : (dealsL h).Nodup := up_nodup (dealsL_up h)

/-! ### An order of deals along edges, in general. -/
theorem topF_up {E : List (Int × Int)} {d : List Int} (hd : Up ltI d) : topF E d = topGo E d.length d [] := by
  unfold topF
  rw [sortI_of_up hd]
theorem top_some {E : List (Int × Int)} {d o : List Int} (hd : Up ltI d) (ho : topF E d = some o) : o.Nodup ∧ (∀ x, x ∈ o ↔ x ∈ d) ∧ ∀ e ∈ E, e.1 ∈ d → e.2 ∈ d → beforeL o e.1 e.2 := by
  rw [topF_up hd] at ho
  obtain ⟨s, h1, h2, h3, h4⟩ := topGo_spec E _ _ _ _ rfl (up_nodup hd) ho
  rw [List.nil_append] at h1
  subst h1
  exact ⟨h2, h3, h4⟩
theorem top_none {E : List (Int × Int)} {d : List Int} (hd : Up ltI d) (hb : ∀ x ∈ d, 1 ≤ x ∧ x ≤ 6) (ho : topF E d = none) : ∃ r, ringE E r := by
  rw [topF_up hd] at ho
  exact topGo_none E _ _ _ rfl hb ho
/-- Where all edges go forward along an order there is no ring. -/
theorem order_ring {E : List (Int × Int)} {o r : List Int} (hn : o.Nodup) (h3 : ∀ e ∈ E, beforeL o e.1 e.2) (hr : ringE E r) : False := by
  obtain ⟨l1, _⟩ := ringE_len hr
  have hstep : ∀ k : Nat, ∀ x y : Int, r[0]? = some x → r[k]? = some y → ∀ i : Nat, o[i]? = some x → ∃ j : Nat, o[j]? = some y ∧ i ≤ j := by
    intro k
    induction k with
    | zero =>
      intro x y hx hy i hi
      rw [hx] at hy
      injection hy with hy
      exact ⟨i, by rw [← hy]; exact hi, Nat.le_refl _⟩
    | succ k ih =>
      intro x y hx hy i hi
      have hkl := (List.getElem?_eq_some_iff.1 hy).1
      have hz : r[k]? = some (r[k]'(by omega)) := List.getElem?_eq_getElem (by omega)
      obtain ⟨j, hj, hij⟩ := ih x _ hx hz i hi
      obtain ⟨a, b, hab, ha, hb⟩ := h3 _ (hr.1 k _ _ hz hy)
      have := idx_inj hn ha hj
      exact ⟨b, hb, by omega⟩
  have hx : r[0]? = some (r[0]'(by omega)) := List.getElem?_eq_getElem (by omega)
  have hy : r[r.length - 1]? = some (r[r.length - 1]'(by omega)) := List.getElem?_eq_getElem (by omega)
  have hc := hr.2.2.2.2
  rw [lastD_at hy (by omega), headD_at hx] at hc
  obtain ⟨a, b, hab, ha, hb⟩ := h3 _ hc
  obtain ⟨j, hj, hbj⟩ := hstep _ _ _ hx hy b hb
  have := idx_inj hn ha hj
  omega

/-! ### The order of a history. -/
def orderOf (h : List HOp) : Option (List Int) := topF (edgesF h) (dealsL (doneL h))
theorem mem_edgesF {h : List HOp} {e : Int × Int} : e ∈ edgesF h ↔ e ∈ edgeP (doneL h) := by unfold edgesF; rw [mem_sortS]
theorem orderOf_some {h : List HOp} {o : List Int} (ho : orderOf h = some o) : o.Nodup ∧ (∀ x, x ∈ o ↔ x ∈ dealsL (doneL h)) ∧ ∀ e ∈ edgeP (doneL h), beforeL o e.1 e.2 := by
  obtain ⟨h1, h2, h3⟩ := top_some (dealsL_up _) ho
  refine ⟨h1, h2, fun e he => ?_⟩
  obtain ⟨g1, g2⟩ := edgeP_mem he
  exact h3 e (mem_edgesF.2 he) (mem_dealsL.2 g1) (mem_dealsL.2 g2)
theorem orderOf_sw {h : List HOp} {o : List Int} (ho : orderOf h = some o) : Sw (doneL h) (alongL (doneL h) o) := by
  obtain ⟨h1, h2, h3⟩ := orderOf_some ho
  exact along_sw h1 (fun x hx => (h2 _).2 (mem_dealsL.2 ⟨x, hx, rfl⟩)) h3
theorem done_tx {h : List HOp} (ht : ∀ o ∈ h, 1 ≤ o.tx ∧ o.tx ≤ 6) : ∀ o ∈ doneL h, 1 ≤ o.tx ∧ o.tx ≤ 6 := fun o ho => ht o ((mem_doneL ht).1 ho).1
theorem orderOf_none {h : List HOp} (ht : ∀ o ∈ h, 1 ≤ o.tx ∧ o.tx ≤ 6) (ho : orderOf h = none) : ∃ r, ringE (edgesF h) r :=
  top_none (dealsL_up _) (fun x hx => by
    obtain ⟨o, h1, rfl⟩ := mem_dealsL.1 hx
    exact done_tx ht o h1) ho
theorem edgeP_done {h : List HOp} (ht : ∀ o ∈ h, 1 ≤ o.tx ∧ o.tx ≤ 6) : edgesF (doneL h) = edgesF h := by
  unfold edgesF
  rw [doneL_doneL ht]
/-- Where a serial history is alike there is an order. -/
theorem serial_order {h : List HOp} (ht : ∀ o ∈ h, 1 ≤ o.tx ∧ o.tx ≤ 6) {p : List Int} (hn : p.Nodup) (hs : Sw (alongL (doneL h) p) (doneL h)) : ∃ o, orderOf h = some o := by
  cases ho : orderOf h with
  | some o => exact ⟨o, rfl⟩
  | none =>
    exfalso
    obtain ⟨r, hr⟩ := orderOf_none ht ho
    refine order_ring hn (fun e he => ?_) hr
    refine along_edges (D := doneL h) hn ?_
    have h1 : e ∈ edgeP (doneL h) := mem_edgesF.1 he
    exact (Sw.inv (P := fun _ => True) (fun l => (e ∈ edgeP l)) (fun p q a b _ ho _ => propext (edgeP_swap ho p e)) hs (fun _ _ => trivial)).mpr h1
end Go.Proofs.Ytkpnpkikonlmpaa


namespace Go.Proofs.Ytkpnpkikonlmpaa
open Go.RowKit

/-! ### Who is rigorous is strict, who is strict is cautious, who is cautious is recoverable. -/
theorem scanB_at {p : List HOp → HOp → Bool} {h : List HOp} : scanB p [] h = true ↔ ∀ (k : Nat) (o : HOp), h[k]? = some o → p (h.take k) o = true := by
  suffices H : ∀ (l pre : List HOp), scanB p pre l = true ↔ ∀ (k : Nat) (o : HOp), l[k]? = some o → p (pre ++ l.take k) o = true by
    simpa using H h []
  intro l
  induction l with
  | nil => intro pre; simp [scanB]
  | cons x t ih =>
    intro pre
    rw [scanB, Bool.and_eq_true, ih]
    constructor
    · rintro ⟨h1, h2⟩ k o hk
      cases k with
      | zero =>
        simp only [List.getElem?_cons_zero, Option.some.injEq] at hk
        subst hk
        simpa using h1
      | succ k =>
        have := h2 k o (by simpa using hk)
        simpa using this
    · intro hall
      refine ⟨by simpa using hall 0 x rfl, fun k o hk => ?_⟩
      have := hall (k + 1) o (by simpa using hk)
      simpa using this
theorem fromB_or {pre : List HOp} {x : HOp} : fromB pre x = 0 ∨ ∃ o ∈ pre, o.tx = fromB pre x ∧ fromT (endedF pre) x o = true := by
  cases hf : pre.reverse.find? (fromT (endedF pre) x) with
  | none => left; unfold fromB; rw [hf]
  | some o =>
    right
    refine ⟨o, by simpa using List.mem_of_find?_eq_some hf, ?_, List.find?_some hf⟩
    unfold fromB; rw [hf]
theorem endGo_range (tx : Int) {h : List HOp} (hr : ∀ o ∈ h, rightB o = true) : endGo tx h = 0 ∨ endGo tx h = 3 ∨ endGo tx h = 4 := by
  cases he : endIn tx h
  · exact .inl (endGo_zero.2 he)
  · obtain ⟨o, h1, _, h3, h4⟩ := endGo_mem he
    obtain ⟨_, _, _, h5, _⟩ := rightB_get (hr o h1)
    rw [h4]; omega
theorem strict_caut {h : List HOp} (hk : okH h) (hs : scanB strictT [] h = true) : scanB cautT [] h = true := by
  rw [scanB_at] at hs ⊢
  intro k o ho
  have h1 := hs k o ho
  unfold strictT at h1
  unfold cautT
  by_cases he : endsB o = true
  · simp [he]
  · have he : endsB o = false := by simpa using he
    rw [he, Bool.false_or] at h1
    by_cases hw : o.what = 1
    · rcases fromB_or (pre := h.take k) (x := o) with h0 | ⟨x, hx, hxt, hxf⟩
      · simp [h0]
      · by_cases hown : fromB (h.take k) o = o.tx
        · simp [hown]
        · have hnot : openB (h.take k) o 2 = false := by simpa using h1
          unfold openB at hnot
          have h2 := List.any_eq_false.1 hnot x hx
          unfold fromT at hxf
          have h3 := of_decide_eq_true hxf
          have h4 : ¬ ((endedF (h.take k)).getD x.tx.toNat 0 = 0) := by
            intro h5
            apply h2
            unfold openT
            rw [decide_eq_true_iff]
            exact ⟨h3.1, h3.2.1, fun e => hown (by rw [← hxt]; exact e), h5⟩
          have ht := okH_tx hk x (List.mem_of_mem_take hx)
          have h5 := endedF_get hk k x.tx ht.1 ht.2
          have h6 := endGo_range x.tx (h := h.take k) (fun o ho => okH_right hk o (List.mem_of_mem_take ho))
          have h7 : (endedF (h.take k)).getD (fromB (h.take k) o).toNat 0 = 3 := by
            rw [← hxt]
            rw [h5] at h4 h3 ⊢
            rcases h6 with h6 | h6 | h6
            · exact absurd h6 h4
            · exact h6
            · exact absurd h6 h3.2.2
          rw [h7]
          simp
    · simp [hw]
theorem idx_when {h : List HOp} (hk : okH h) (t : Int) : (idxGo (fun x => decide (x = HOp.mk t 3 0)) 0 h = -1 ∧ ∀ o ∈ h, ¬ (o.tx = t ∧ o.what = 3)) ∨ ∃ i : Nat, idxGo (fun x => decide (x = HOp.mk t 3 0)) 0 h = i ∧ h[i]? = some ⟨t, 3, 0⟩ := by
  rcases idxGo_spec (fun x => decide (x = HOp.mk t 3 0)) 0 h with ⟨h1, h2⟩ | ⟨i, o, h1, h2, _, h4⟩
  · refine .inl ⟨h2, fun o ho hc => ?_⟩
    obtain ⟨_, _, _, _, _, h6⟩ := rightB_get (okH_right hk o ho)
    have := h1 o ho
    rw [decide_eq_false_iff_not] at this
    apply this
    obtain ⟨a, b, c⟩ := o
    simp only at hc h6
    rw [hc.1, hc.2, h6 (by omega)]
  · refine .inr ⟨i, by rw [h4]; omega, ?_⟩
    rw [h1]
    rw [decide_eq_true_iff] at h2
    rw [h2]
theorem end_at {h : List HOp} (hk : okH h) {k : Nat} {o : HOp} (ho : h[k]? = some o) : ∀ (j : Nat) (x : HOp), h[j]? = some x → x.tx = o.tx → 3 ≤ x.what → k ≤ j := by
  intro j x hx ht hw
  rcases Nat.lt_or_ge j k with hlt | hge
  · exfalso
    have hd : h = h.take k ++ o :: h.drop (k + 1) := split_at ho
    obtain ⟨_, hn⟩ := okH_after (a := h.take k) (r := h.drop (k + 1)) (o := o) (by rw [← hd]; exact hk)
    have hm : x ∈ h.take k := List.mem_iff_getElem?.2 ⟨j, by rw [List.getElem?_take, if_pos hlt]; exact hx⟩
    unfold endIn at hn
    have := List.any_eq_false.1 hn x hm
    simp at this
    exact absurd hw (by have := this ht; omega)
  · exact hge
theorem caut_rec {h : List HOp} (hk : okH h) (hs : scanB cautT [] h = true) : recF h = true := by
  unfold recF
  rw [scanB_at] at hs ⊢
  intro k o ho
  have h1 := hs k o ho
  unfold cautT at h1
  unfold recT
  by_cases hw : o.what = 1
  · have he : endsB o = false := by unfold endsB; rw [decide_eq_false_iff_not]; omega
    by_cases h0 : fromB (h.take k) o = 0
    · simp [h0]
    · by_cases hown : fromB (h.take k) o = o.tx
      · simp [hown]
      · simp only [he, hw, h0, hown, decide_true, decide_false, Bool.not_true, Bool.false_or, Bool.or_false, decide_eq_true_eq] at h1
        have hrg := fromB_range (pre := h.take k) (x := o) (fun x hx => okH_tx hk x (List.mem_of_mem_take hx))
        have hr2 : 1 ≤ fromB (h.take k) o ∧ fromB (h.take k) o ≤ 6 := by omega
        rw [endedF_get hk k _ hr2.1 hr2.2] at h1
        generalize fromB (h.take k) o = f at *
        have he2 : endIn f (h.take k) = true := by
          rw [← endGo_in, h1]; omega
        obtain ⟨c, hc, hct, hc3, hcw⟩ := endGo_mem he2
        rw [h1] at hcw
        obtain ⟨j, hj⟩ := List.mem_iff_getElem?.1 hc
        have hjk : j < k := by have := (List.getElem?_eq_some_iff.1 hj).1; rw [List.length_take] at this; omega
        rw [List.getElem?_take, if_pos hjk] at hj
        have hfi : ∃ i : Nat, idxGo (fun x => decide (x = HOp.mk f 3 0)) 0 h = i ∧ i ≤ j := by
          rcases idx_when hk f with ⟨_, h3⟩ | ⟨i, h3, h4⟩
          · exact absurd ⟨hct, hcw.symm⟩ (h3 c (List.mem_of_getElem? hj))
          · exact ⟨i, h3, end_at hk h4 j c hj hct hc3⟩
        obtain ⟨i, hi, hij⟩ := hfi
        rw [hi]
        rcases idx_when hk o.tx with ⟨h3, _⟩ | ⟨m, h3, h4⟩
        · rw [h3]; simp
        · have := end_at hk ho m _ h4 rfl (by simp)
          rw [h3]
          have e1 : ¬ ((i : Int) < 0) := by omega
          have e2 : ¬ ((m : Int) < (i : Int)) := by omega
          simp [e1, e2]
  · simp [hw]

/-! ### Who is rigorous has an order: that in which deals commit. -/
def commitsL (h : List HOp) : List Int := (h.filter fun o => decide (o.what = 3)).map (·.tx)
theorem mem_commits {h : List HOp} {t : Int} : t ∈ commitsL h ↔ ∃ o ∈ h, o.tx = t ∧ o.what = 3 := by
  unfold commitsL
  rw [List.mem_map]
  constructor
  · rintro ⟨o, h1, h2⟩
    rw [List.mem_filter] at h1
    exact ⟨o, h1.1, h2, by simpa using h1.2⟩
  · rintro ⟨o, h1, h2, h3⟩
    exact ⟨o, List.mem_filter.2 ⟨h1, by simpa using h3⟩, h2⟩
theorem commitsL_append (a b : List HOp) : commitsL (a ++ b) = commitsL a ++ commitsL b := by simp [commitsL]
theorem commits_nodup {h : List HOp} (hk : okH h) : (commitsL h).Nodup := by
  have key : ∀ k : Nat, (commitsL (h.take k)).Nodup := by
    intro k
    induction k with
    | zero => simp [commitsL]
    | succ k ih =>
      rcases Nat.lt_or_ge k h.length with hlt | hge
      · have ho : h[k]? = some h[k] := List.getElem?_eq_getElem hlt
        obtain ⟨_, h2⟩ := okH_after (a := h.take k) (r := h.drop (k + 1)) (o := h[k]) (by rw [← split_at ho]; exact hk)
        rw [take_snoc ho, commitsL_append]
        by_cases hw : (h[k]).what = 3
        · have e : commitsL [h[k]] = [(h[k]).tx] := by simp [commitsL, hw]
          rw [e]
          refine List.nodup_append.2 ⟨ih, by simp, fun x hx y hy hxy => ?_⟩
          rw [List.mem_singleton] at hy
          subst hy
          obtain ⟨c, h3, h4, h5⟩ := mem_commits.1 hx
          unfold endIn at h2
          have := List.any_eq_false.1 h2 c h3
          simp at this
          have := this (h4.trans hxy)
          omega
        · have e : commitsL [h[k]] = [] := by simp [commitsL, hw]
          rw [e, List.append_nil]
          exact ih
      · rw [List.take_of_length_le (by omega), ← List.take_of_length_le (l := h) (i := k) hge]; exact ih
  have := key h.length
  rwa [List.take_length] at this
theorem commits_before {h : List HOp} {i j : Nat} {a b : HOp} (hij : i < j) (ha : h[i]? = some a) (hb : h[j]? = some b) (ha3 : a.what = 3) (hb3 : b.what = 3) : beforeL (commitsL h) a.tx b.tx := by
  have e : h = h.take j ++ h.drop j := (List.take_append_drop _ _).symm
  rw [e, commitsL_append]
  refine cut_before (mem_commits.2 ⟨a, List.mem_iff_getElem?.2 ⟨i, by rw [List.getElem?_take, if_pos hij]; exact ha⟩, rfl, ha3⟩) (mem_commits.2 ⟨b, List.mem_iff_getElem?.2 ⟨0, by rw [List.getElem?_drop]; exact hb⟩, rfl, hb3⟩)
theorem done_sub {h : List HOp} (p : HOp → Bool) : ∀ {i k : Nat} {a b : HOp}, i < k → (h.filter p)[i]? = some a → (h.filter p)[k]? = some b → ∃ i' k' : Nat, i' < k' ∧ h[i']? = some a ∧ h[k']? = some b := by
  induction h with
  | nil => intro i k a b _ ha; simp at ha
  | cons x t ih =>
    intro i k a b hik ha hb
    by_cases hx : p x = true
    · rw [List.filter_cons_of_pos hx] at ha hb
      obtain ⟨k, rfl⟩ : ∃ k', k = k' + 1 := ⟨k - 1, by omega⟩
      rw [List.getElem?_cons_succ] at hb
      cases i with
      | zero =>
        simp only [List.getElem?_cons_zero] at ha
        have hm := (List.mem_filter.1 (List.mem_of_getElem? hb)).1
        obtain ⟨k', hk'⟩ := List.mem_iff_getElem?.1 hm
        exact ⟨0, k' + 1, by omega, by simpa using ha, by simpa using hk'⟩
      | succ i =>
        rw [List.getElem?_cons_succ] at ha
        obtain ⟨i', k', h1, h2, h3⟩ := ih (by omega) ha hb
        exact ⟨i' + 1, k' + 1, by omega, by simpa using h2, by simpa using h3⟩
    · rw [List.filter_cons_of_neg hx] at ha hb
      obtain ⟨i', k', h1, h2, h3⟩ := ih hik ha hb
      exact ⟨i' + 1, k' + 1, by omega, by simpa using h2, by simpa using h3⟩
theorem rig_edges {h : List HOp} (hk : okH h) (hr : (facesF h).rig = true) : ∀ e ∈ edgeP (doneL h), beforeL (commitsL h) e.1 e.2 := by
  rintro ⟨x, y⟩ he
  obtain ⟨i, k, a, b, hik, ha, hb, hab, rfl, rfl⟩ := mem_edgeP.1 he
  have hta := (mem_doneL (okH_tx hk)).1 (List.mem_of_getElem? ha)
  have htb := (mem_doneL (okH_tx hk)).1 (List.mem_of_getElem? hb)
  obtain ⟨i', k', hik', ha', hb'⟩ := done_sub _ hik ha hb
  obtain ⟨_, ca, hca, hcat, hca3⟩ := hta
  obtain ⟨_, cb, hcb, hcbt, hcb3⟩ := htb
  obtain ⟨p, hp⟩ := List.mem_iff_getElem?.1 hca
  obtain ⟨q, hq⟩ := List.mem_iff_getElem?.1 hcb
  have hqk := end_at hk hb' q cb hq hcbt (by omega)
  unfold oddB at hab
  obtain ⟨o1, o2, o3, o4⟩ := of_decide_eq_true hab
  have hra := rightB_get (okH_right hk a (List.mem_of_getElem? ha'))
  have hrb := rightB_get (okH_right hk b (List.mem_of_getElem? hb'))
  -- b finds a open, unless a's deal has ended
  have hfin : endGo a.tx (h.take k') ≠ 0 := by
    intro h0
    have hae : endsB b = false := by
      unfold endsB
      rw [decide_eq_false_iff_not]
      intro hc
      have := hrb.2.2.2.2.2 (by omega)
      omega
    have haw : a.what < 3 := by
      by_cases h : a.what < 3
      · exact h
      · exact absurd (hra.2.2.2.2.2 (by omega)) o3
    have hopen : openB (h.take k') b a.what = true := by
      unfold openB
      refine List.any_eq_true.2 ⟨a, List.mem_iff_getElem?.2 ⟨i', by rw [List.getElem?_take, if_pos hik']; exact ha'⟩, ?_⟩
      unfold openT
      rw [decide_eq_true_iff, endedF_get hk k' a.tx hra.1 hra.2.1]
      exact ⟨rfl, o2, o1, h0⟩
    unfold facesF at hr
    simp only [Bool.and_eq_true] at hr
    have g1 := scanB_at.1 hr.1 k' b hb'
    have g2 := scanB_at.1 hr.2 k' b hb'
    unfold rigT at g1
    unfold strictT at g2
    rw [hae, Bool.false_or] at g1 g2
    have haw1 := hra.2.2.1
    obtain ha1 | ha2 : a.what = 1 ∨ a.what = 2 := by omega
    · rw [ha1] at hopen
      have hb2 : b.what = 2 := by omega
      rw [hopen, hb2] at g1
      simp at g1
    · rw [ha2] at hopen
      rw [hopen] at g2
      simp at g2
  have he2 : endIn a.tx (h.take k') = true := endGo_in.1 hfin
  obtain ⟨c, hc, hct, hc3, _⟩ := endGo_mem he2
  obtain ⟨j, hj⟩ := List.mem_iff_getElem?.1 hc
  have hjk : j < k' := by have := (List.getElem?_eq_some_iff.1 hj).1; rw [List.length_take] at this; omega
  rw [List.getElem?_take, if_pos hjk] at hj
  have hpj := end_at hk hp j c hj (by rw [hct, hcat]) hc3
  have := commits_before (h := h) (i := p) (j := q) (by omega) hp hq hca3 hcb3
  rw [hcat, hcbt] at this
  exact this
theorem commits_deals {h : List HOp} (hk : okH h) {t : Int} : t ∈ commitsL h ↔ t ∈ dealsL (doneL h) := by
  rw [mem_commits, mem_dealsL]
  constructor
  · rintro ⟨o, h1, h2, h3⟩
    exact ⟨o, (mem_doneL (okH_tx hk)).2 ⟨h1, o, h1, rfl, h3⟩, h2⟩
  · rintro ⟨o, h1, h2⟩
    obtain ⟨_, c, h3, h4, h5⟩ := (mem_doneL (okH_tx hk)).1 h1
    exact ⟨c, h3, by rw [h4, h2], h5⟩
theorem rig_serial {h : List HOp} (hk : okH h) (hr : (facesF h).rig = true) : Sw (doneL h) (alongL (doneL h) (commitsL h)) :=
  along_sw (commits_nodup hk) (fun x hx => (commits_deals hk).2 (mem_dealsL.2 ⟨x, hx, rfl⟩)) (rig_edges hk hr)
end Go.Proofs.Ytkpnpkikonlmpaa

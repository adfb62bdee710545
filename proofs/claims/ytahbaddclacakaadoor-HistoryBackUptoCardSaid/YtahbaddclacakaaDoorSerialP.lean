
/-
  PLAIN LAWS: histories one behind the other along an order; an order of deals along edges, or a ring.
-/
import Derived.Test.YtahbaddclacakaaDoorM1
import Derived.Test.YtahbaddclacakaaDoorEitherP

namespace Go.Proofs.YtahbaddclacakaaDoor
open Go.RowKit

/-! ### One behind the other. -/
def alongL (D : List HOp) (o : List Int) : List HOp := o.flatMap (ownL D)
theorem alongL_append (D : List HOp) (a b : List Int) : alongL D (a ++ b) = alongL D a ++ alongL D b := by simp [alongL]
theorem alongL_cons (D : List HOp) (t : Int) (b : List Int) : alongL D (t :: b) = ownL D t ++ alongL D b := by simp [alongL]
theorem ownL_tx {D : List HOp} {t : Int} {o : HOp} (h : o ∈ ownL D t) : o ∈ D ∧ o.tx = t := by
  unfold ownL at h
  rw [List.mem_filter] at h
  exact ⟨h.1, by simpa using h.2⟩
theorem mem_along {D : List HOp} {o : List Int} {x : HOp} : x ∈ alongL D o ↔ x ∈ D ∧ x.tx ∈ o := by
  unfold alongL
  rw [List.mem_flatMap]
  constructor
  · rintro ⟨t, h1, h2⟩
    obtain ⟨h3, h4⟩ := ownL_tx h2
    exact ⟨h3, by rw [h4]; exact h1⟩
  · rintro ⟨h1, h2⟩
    exact ⟨x.tx, h2, by unfold ownL; rw [List.mem_filter]; exact ⟨h1, by simp⟩⟩
theorem ownL_own (D : List HOp) (s t : Int) : ownL (ownL D s) t = if s = t then ownL D t else [] := by
  by_cases e : s = t
  · subst e
    rw [if_pos rfl]
    unfold ownL
    rw [List.filter_filter]
    simp
  · rw [if_neg e]
    unfold ownL
    rw [List.filter_filter, List.filter_eq_nil_iff]
    intro x _
    simp
    rintro h1 h2
    exact absurd (h2.symm.trans h1) e
theorem ownL_along (D : List HOp) (t : Int) : ∀ {o : List Int}, o.Nodup → ownL (alongL D o) t = if t ∈ o then ownL D t else []
  | [], _ => rfl
  | s :: o, hn => by
    obtain ⟨h1, h2⟩ := List.nodup_cons.1 hn
    rw [alongL_cons, ownL_append, ownL_own, ownL_along D t h2]
    by_cases e : s = t
    · subst e
      rw [if_pos rfl, if_neg h1, if_pos (by simp), List.append_nil]
    · rw [if_neg e, List.nil_append]
      by_cases hm : t ∈ o
      · rw [if_pos hm, if_pos (by simp [hm])]
      · rw [if_neg hm, if_neg (by simp [hm]; exact fun e' => e e'.symm)]
theorem before_cut {o : List Int} {x y : Int} (h : beforeL o x y) : ∃ u v, o = u ++ v ∧ x ∈ u ∧ y ∈ v := by
  obtain ⟨i, j, hij, hi, hj⟩ := h
  refine ⟨o.take j, o.drop j, (List.take_append_drop _ _).symm, ?_, ?_⟩
  · exact List.mem_iff_getElem?.2 ⟨i, by rw [List.getElem?_take, if_pos hij]; exact hi⟩
  · exact List.mem_iff_getElem?.2 ⟨0, by rw [List.getElem?_drop]; exact hj⟩
theorem cut_before {u v : List Int} {x y : Int} (hx : x ∈ u) (hy : y ∈ v) : beforeL (u ++ v) x y := by
  obtain ⟨i, hi⟩ := List.mem_iff_getElem?.1 hx
  obtain ⟨j, hj⟩ := List.mem_iff_getElem?.1 hy
  have hl := (List.getElem?_eq_some_iff.1 hi).1
  exact ⟨i, u.length + j, by omega, by rw [List.getElem?_append_left hl]; exact hi, by rw [List.getElem?_append_right (by omega), Nat.add_sub_cancel_left]; exact hj⟩
/-- In a history along an order the ops of an earlier deal stand ahead. -/
theorem along_lt {D : List HOp} {o : List Int} (hn : o.Nodup) {x y : HOp} (hb : beforeL o x.tx y.tx) {i k : Nat} (hi : (alongL D o)[i]? = some x) (hk : (alongL D o)[k]? = some y) : i < k := by
  obtain ⟨u, v, rfl, hu, hv⟩ := before_cut hb
  rw [alongL_append] at hi hk
  have hd := List.nodup_append.1 hn
  have h1 : i < (alongL D u).length := by
    rcases Nat.lt_or_ge i (alongL D u).length with h | h
    · exact h
    · rw [List.getElem?_append_right h] at hi
      have := (mem_along.1 (List.mem_of_getElem? hi)).2
      exact absurd rfl (hd.2.2 x.tx hu x.tx this)
  have h2 : (alongL D u).length ≤ k := by
    rcases Nat.lt_or_ge k (alongL D u).length with h | h
    · rw [List.getElem?_append_left h] at hk
      have := (mem_along.1 (List.mem_of_getElem? hk)).2
      exact absurd rfl (hd.2.2 y.tx this y.tx hv)
    · exact h
  omega
theorem along_sw {D : List HOp} {o : List Int} (hn : o.Nodup) (hall : ∀ x ∈ D, x.tx ∈ o) (he : ∀ e ∈ edgeP D, beforeL o e.1 e.2) : Sw D (alongL D o) := by
  refine alike_sw D _ (fun t => ?_) ?_
  · rw [ownL_along D t hn]
    by_cases hm : t ∈ o
    · rw [if_pos hm]
    · rw [if_neg hm]
      unfold ownL
      rw [List.filter_eq_nil_iff]
      intro x hx
      simp
      intro e
      exact hm (by rw [← e]; exact hall x hx)
  · intro i k a b hik ha hb hab i' k' ha' hb' _ _
    exact along_lt hn (he (a.tx, b.tx) (mem_edgeP.2 ⟨i, k, a, b, hik, ha, hb, hab, rfl, rfl⟩)) ha' hb'
/-- Along an order all edges go forward. -/
theorem along_edges {D : List HOp} {o : List Int} (hn : o.Nodup) {e : Int × Int} (he : e ∈ edgeP (alongL D o)) : beforeL o e.1 e.2 := by
  obtain ⟨x, y⟩ := e
  obtain ⟨i, k, a, b, hik, ha, hb, hab, rfl, rfl⟩ := mem_edgeP.1 he
  have hao := (mem_along.1 (List.mem_of_getElem? ha)).2
  have hbo := (mem_along.1 (List.mem_of_getElem? hb)).2
  have hne : a.tx ≠ b.tx := by
    unfold oddB at hab
    exact (of_decide_eq_true hab).1
  obtain ⟨p, hp⟩ := List.mem_iff_getElem?.1 hao
  obtain ⟨q, hq⟩ := List.mem_iff_getElem?.1 hbo
  rcases Nat.lt_trichotomy p q with h | h | h
  · exact ⟨p, q, h, hp, hq⟩
  · subst h
    rw [hp] at hq
    injection hq with hq
    exact absurd hq hne
  · have := along_lt hn (x := b) (y := a) ⟨q, p, h, hq, hp⟩ hb ha
    omega
theorem edgeP_mem {D : List HOp} {e : Int × Int} (he : e ∈ edgeP D) : (∃ a ∈ D, a.tx = e.1) ∧ ∃ b ∈ D, b.tx = e.2 := by
  obtain ⟨x, y⟩ := e
  obtain ⟨i, k, a, b, _, ha, hb, _, rfl, rfl⟩ := mem_edgeP.1 he
  exact ⟨⟨a, List.mem_of_getElem? ha, rfl⟩, b, List.mem_of_getElem? hb, rfl⟩

/-! ### Deals of a history. -/
def dealsL (h : List HOp) : List Int := sortS ltI (h.map (·.tx))
theorem mem_dealsL {h : List HOp} {t : Int} : t ∈ dealsL h ↔ ∃ o ∈ h, o.tx = t := by
  unfold dealsL
  rw [mem_sortS, List.mem_map]
theorem dealsL_up (h : List HOp) : Up ltI (dealsL h) := up_sortS sloI _
theorem dealsL_nodup (h : List HOp) : (dealsL h).Nodup := up_nodup (dealsL_up h)

/-! ### An order of deals along edges, in general. -/
theorem topF_up {E : List (Int × Int)} {d : List Int} (hd : Up ltI d) : topF E d = topGo E d.length d [] := by
  unfold topF
  rw [sortI_of_up hd]
theorem top_some {E : List (Int × Int)} {d o : List Int} (hd : Up ltI d) (ho : topF E d = some o) : o.Nodup ∧ (∀ x, x ∈ o ↔ x ∈ d) ∧ ∀ e ∈ E, e.1 ∈ d → e.2 ∈ d → beforeL o e.1 e.2 := by
  rw [topF_up hd] at ho
  obtain ⟨s, h1, h2, h3, h4⟩ := topGo_spec E _ _ _ _ rfl (up_nodup hd) ho
  rw [List.nil_append] at h1
  subst h1
  exact ⟨h2, h3, h4⟩
theorem top_none {E : List (Int × Int)} {d : List Int} (hd : Up ltI d) (hb : ∀ x ∈ d, 1 ≤ x ∧ x ≤ 6) (ho : topF E d = none) : ∃ r, ringE E r := by
  rw [topF_up hd] at ho
  exact topGo_none E _ _ _ rfl hb ho
/-- Where all edges go forward along an order there is no ring. -/
theorem order_ring {E : List (Int × Int)} {o r : List Int} (hn : o.Nodup) (h3 : ∀ e ∈ E, beforeL o e.1 e.2) (hr : ringE E r) : False := by
  obtain ⟨l1, _⟩ := ringE_len hr
  have hstep : ∀ k : Nat, ∀ x y : Int, r[0]? = some x → r[k]? = some y → ∀ i : Nat, o[i]? = some x → ∃ j : Nat, o[j]? = some y ∧ i ≤ j := by
    intro k
    induction k with
    | zero =>
      intro x y hx hy i hi
      rw [hx] at hy
      injection hy with hy
      exact ⟨i, by rw [← hy]; exact hi, Nat.le_refl _⟩
    | succ k ih =>
      intro x y hx hy i hi
      have hkl := (List.getElem?_eq_some_iff.1 hy).1
      have hz : r[k]? = some (r[k]'(by omega)) := List.getElem?_eq_getElem (by omega)
      obtain ⟨j, hj, hij⟩ := ih x _ hx hz i hi
      obtain ⟨a, b, hab, ha, hb⟩ := h3 _ (hr.1 k _ _ hz hy)
      have := idx_inj hn ha hj
      exact ⟨b, hb, by omega⟩
  have hx : r[0]? = some (r[0]'(by omega)) := List.getElem?_eq_getElem (by omega)
  have hy : r[r.length - 1]? = some (r[r.length - 1]'(by omega)) := List.getElem?_eq_getElem (by omega)
  have hc := hr.2.2.2.2
  rw [lastD_at hy (by omega), headD_at hx] at hc
  obtain ⟨a, b, hab, ha, hb⟩ := h3 _ hc
  obtain ⟨j, hj, hbj⟩ := hstep _ _ _ hx hy b hb
  have := idx_inj hn ha hj
  omega

/-! ### The order of a history. -/
def orderOf (h : List HOp) : Option (List Int) := topF (edgesF h) (dealsL (doneL h))
theorem mem_edgesF {h : List HOp} {e : Int × Int} : e ∈ edgesF h ↔ e ∈ edgeP (doneL h) := by unfold edgesF; rw [mem_sortS]
theorem orderOf_some {h : List HOp} {o : List Int} (ho : orderOf h = some o) : o.Nodup ∧ (∀ x, x ∈ o ↔ x ∈ dealsL (doneL h)) ∧ ∀ e ∈ edgeP (doneL h), beforeL o e.1 e.2 := by
  obtain ⟨h1, h2, h3⟩ := top_some (dealsL_up _) ho
  refine ⟨h1, h2, fun e he => ?_⟩
  obtain ⟨g1, g2⟩ := edgeP_mem he
  exact h3 e (mem_edgesF.2 he) (mem_dealsL.2 g1) (mem_dealsL.2 g2)
theorem orderOf_sw {h : List HOp} {o : List Int} (ho : orderOf h = some o) : Sw (doneL h) (alongL (doneL h) o) := by
  obtain ⟨h1, h2, h3⟩ := orderOf_some ho
  exact along_sw h1 (fun x hx => (h2 _).2 (mem_dealsL.2 ⟨x, hx, rfl⟩)) h3
theorem done_tx {h : List HOp} (ht : ∀ o ∈ h, 1 ≤ o.tx ∧ o.tx ≤ 6) : ∀ o ∈ doneL h, 1 ≤ o.tx ∧ o.tx ≤ 6 := fun o ho => ht o ((mem_doneL ht).1 ho).1
theorem orderOf_none {h : List HOp} (ht : ∀ o ∈ h, 1 ≤ o.tx ∧ o.tx ≤ 6) (ho : orderOf h = none) : ∃ r, ringE (edgesF h) r :=
  top_none (dealsL_up _) (fun x hx => by
    obtain ⟨o, h1, rfl⟩ := mem_dealsL.1 hx
    exact done_tx ht o h1) ho
theorem edgeP_done {h : List HOp} (ht : ∀ o ∈ h, 1 ≤ o.tx ∧ o.tx ≤ 6) : edgesF (doneL h) = edgesF h := by
  unfold edgesF
  rw [doneL_doneL ht]
/-- Where a serial history is alike there is an order. -/
theorem serial_order {h : List HOp} (ht : ∀ o ∈ h, 1 ≤ o.tx ∧ o.tx ≤ 6) {p : List Int} (hn : p.Nodup) (hs : Sw (alongL (doneL h) p) (doneL h)) : ∃ o, orderOf h = some o := by
  cases ho : orderOf h with
  | some o => exact ⟨o, rfl⟩
  | none =>
    exfalso
    obtain ⟨r, hr⟩ := orderOf_none ht ho
    refine order_ring hn (fun e he => ?_) hr
    refine along_edges (D := doneL h) hn ?_
    have h1 : e ∈ edgeP (doneL h) := mem_edgesF.1 he
    exact (Sw.inv (P := fun _ => True) (fun l => (e ∈ edgeP l)) (fun p q a b _ ho _ => propext (edgeP_swap ho p e)) hs (fun _ _ => trivial)).mpr h1
end Go.Proofs.YtahbaddclacakaaDoor

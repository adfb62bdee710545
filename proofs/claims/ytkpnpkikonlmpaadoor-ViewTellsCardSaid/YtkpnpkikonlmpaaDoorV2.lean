
/-
  PLAIN LAWS: views as the reference asks for them, read by read.
  PLAIN LAWS: views, step by step as the reference goes.
-/
import Derived.Test.YtkpnpkikonlmpaaDoorViewS
import Derived.Test.YtkpnpkikonlmpaaDoorRAlike

namespace Go.Proofs.YtkpnpkikonlmpaaDoor
open Go.RowKit

/-! ### The place of the last write of an item. -/
def wrGo (x : Int) : Int → Int → List HOp → Int
  | _, at', [] => at'
  | i, at', o :: t => wrGo x (i + 1) (if o.what = 2 ∧ o.item = x then i else at') t
def wrF (x : Int) (p : List HOp) : Int := wrGo x 0 (-1) p
theorem wrGo_step {x i a : Int} {o : HOp} {l t : List HOp} (e : l = o :: t) : wrGo x i a l = wrGo x (i + 1) (if o.what = 2 ∧ o.item = x then i else a) t := by rw [e, wrGo]
theorem wrGo_snoc (x : Int) (o : HOp) : ∀ (l : List HOp) (i a : Int), wrGo x i a (l ++ [o]) = if o.what = 2 ∧ o.item = x then i + l.length else wrGo x i a l
  | [], i, a => by simp [wrGo]
  | p :: l, i, a => by
    rw [List.cons_append, wrGo, wrGo_snoc x o l, wrGo]
    split
    · simp; omega
    · rfl
theorem wrF_spec (h : List HOp) (x : Int) : ∀ k : Nat, (wrF x (h.take k) = -1 ∧ (srcF (h.take k)).last x = (0, 0)) ∨
    ∃ (i : Nat) (o : HOp), i < k ∧ h[i]? = some o ∧ wrF x (h.take k) = i ∧ (srcF (h.take k)).last x = (o.tx, (cntT (h.take i) o.tx : Int) + 1)
  | 0 => .inl ⟨by rw [List.take_zero]; rfl, by rw [List.take_zero]; rfl⟩
  | k + 1 => by
    cases ho : h[k]? with
    | none =>
      have hl : h.length ≤ k := List.getElem?_eq_none_iff.1 ho
      rw [show h.take (k + 1) = h.take k by rw [List.take_of_length_le (by omega), List.take_of_length_le (by omega)]]
      rcases wrF_spec h x k with h1 | ⟨i, o, h1, h2⟩
      · exact .inl h1
      · exact .inr ⟨i, o, by omega, h2⟩
    | some o =>
      have hlk : (h.take k).length = k := by have := (List.getElem?_eq_some_iff.1 ho).1; rw [List.length_take]; omega
      have e1 : wrF x (h.take (k + 1)) = if o.what = 2 ∧ o.item = x then (k : Int) else wrF x (h.take k) := by
        unfold wrF
        rw [takeSnoc ho, wrGo_snoc, hlk]
        simp
      rw [e1, srcF_at ho]
      by_cases hw : o.what = 2 ∧ o.item = x
      · rw [if_pos hw]
        refine .inr ⟨k, o, by omega, ho, rfl, ?_⟩
        unfold stepS
        rw [if_neg (by omega), if_pos hw.1, hw.2]
        simp only [upd_same]
        rw [many_cnt]
      · rw [if_neg hw]
        have hl : (stepS (srcF (h.take k)) o).last x = (srcF (h.take k)).last x := by
          unfold stepS
          split
          · rfl
          · split
            · rename_i h2
              exact upd_other _ (fun e => hw ⟨h2, e.symm⟩) _
            · rfl
        rw [hl]
        rcases wrF_spec h x k with h1 | ⟨i, p, h1, h2⟩
        · exact .inl h1
        · exact .inr ⟨i, p, by omega, h2⟩

/-! ### Views as the reference asks for them: read by read. -/
def readT (h g : List HOp) (i : Nat) : Bool := match h[i]? with
  | some o => !decide (o.what = 1) || decide ((srcF (h.take i)).last o.item = (srcF (g.take (placeF g o.tx (cntT (h.take i) o.tx)).toNat)).last o.item)
  | none => true
def viewsR (h g : List HOp) : Bool := sameOwnB h g && (decide (lastL h = lastL g) && (List.range h.length).all (readT h g))
theorem nth_read {h : List HOp} {t : Int} : ∀ (k r : Nat), r < rdC (ownL (h.take k) t) → ∃ (i : Nat) (o : HOp), h[i]? = some o ∧ o.tx = t ∧ o.what = 1 ∧ rdC (ownL (h.take i) t) = r
  | 0, r, hr => by rw [List.take_zero] at hr; simp [ownL, rdC] at hr
  | k + 1, r, hr => by
    cases ho : h[k]? with
    | none =>
      have hl : h.length ≤ k := List.getElem?_eq_none_iff.1 ho
      rw [show h.take (k + 1) = h.take k by rw [List.take_of_length_le (by omega), List.take_of_length_le (by omega)]] at hr
      exact nth_read k r hr
    | some o =>
      rcases Nat.lt_or_ge r (rdC (ownL (h.take k) t)) with hlt | hge
      · exact nth_read k r hlt
      · rw [takeSnoc ho, ownL_append] at hr
        have hc : rdC (ownL (h.take k) t ++ ownL [o] t) = rdC (ownL (h.take k) t) + rdC (ownL [o] t) := List.countP_append
        rw [hc] at hr
        by_cases e : o.tx = t ∧ o.what = 1
        · refine ⟨k, o, ho, e.1, e.2, ?_⟩
          have : rdC (ownL [o] t) ≤ 1 := by
            refine Nat.le_trans List.countP_le_length ?_
            exact Nat.le_trans (List.length_filter_le _ _) (by simp)
          omega
        · exfalso
          have : rdC (ownL [o] t) = 0 := by
            unfold rdC ownL
            rw [List.countP_eq_zero]
            intro x hx
            obtain ⟨h1, h2⟩ := List.mem_filter.1 hx
            rw [List.mem_singleton.1 h1] at h2 ⊢
            simp at h2 ⊢
            exact fun e' => e ⟨h2, e'⟩
          omega
theorem place_at {g : List HOp} {j : Nat} {o : HOp} (hg : g[j]? = some o) : placeF g o.tx (cntT (g.take j) o.tx) = j := by
  have := placeGo_at (i := 0) hg (t := o.tx) rfl
  unfold placeF
  rw [this]; omega
theorem views_view {h g : List HOp} (hr : ∀ o ∈ h, rightB o = true) (hrg : ∀ o ∈ g, rightB o = true) : viewsR h g = viewB h g := by
  have htx : ∀ o ∈ h, 1 ≤ o.tx ∧ o.tx ≤ 6 := fun o ho => ⟨(rightB_get (hr o ho)).1, (rightB_get (hr o ho)).2.1⟩
  rw [Bool.eq_iff_iff]
  constructor
  · intro hv
    unfold viewsR at hv
    rw [Bool.and_eq_true, Bool.and_eq_true, decide_eq_true_iff, List.all_eq_true] at hv
    obtain ⟨h1, h2, h3⟩ := hv
    have h1' := sameOwnB_iff.1 h1
    refine viewB_iff.2 ⟨h1', h2, fun t t0 t6 => ?_⟩
    have hown : ownL h t = ownL g t := by
      by_cases e : t = 0
      · subst e
        have hz : ∀ l : List HOp, (∀ o ∈ l, rightB o = true) → ownL l 0 = [] := fun l hl => by
          unfold ownL
          rw [List.filter_eq_nil_iff]
          intro x hx
          have := (rightB_get (hl x hx)).1
          simp
          omega
        rw [hz h hr, hz g hrg]
      · exact h1' t (by omega) t6
    have lh := out_len h t h.length
    have lg := out_len g t g.length
    rw [List.take_length] at lh lg
    refine List.ext_getElem? fun r => ?_
    rcases Nat.lt_or_ge r ((srcF h).out t).length with hlt | hge
    · obtain ⟨i, o, ho, e, hw, hc⟩ := nth_read (h := h) (t := t) h.length r (by rw [List.take_length, ← lh]; exact hlt)
      subst e
      have hot := htx o (List.mem_of_getElem? ho)
      obtain ⟨j, hj, hcj⟩ := name_in ho hown
      have e1 := out_at ho hw
      have e2 := out_at hj hw
      rw [hc] at e1
      rw [own_take, hcj, ← hown, ← own_take, hc] at e2
      rw [e1, e2]
      have hi := (List.getElem?_eq_some_iff.1 ho).1
      have := h3 i (List.mem_range.2 hi)
      unfold readT at this
      rw [ho] at this
      simp only [hw, decide_true, Bool.not_true, Bool.false_or, decide_eq_true_eq] at this
      rw [this, ← hcj, place_at hj]
      rfl
    · rw [List.getElem?_eq_none hge, List.getElem?_eq_none (by rw [lg, ← hown, ← lh]; exact hge)]
  · intro hv
    obtain ⟨h1, h2, h3⟩ := viewB_iff.1 hv
    unfold viewsR
    rw [Bool.and_eq_true, Bool.and_eq_true, decide_eq_true_iff, List.all_eq_true]
    refine ⟨sameOwnB_iff.2 h1, h2, fun i hi => ?_⟩
    unfold readT
    cases ho : h[i]? with
    | none => rfl
    | some o =>
      simp only
      by_cases hw : o.what = 1
      · have hot := htx o (List.mem_of_getElem? ho)
        obtain ⟨j, hj, hcj⟩ := name_in ho (h1 o.tx hot.1 hot.2)
        have := view_read hv ho hj hot hcj hw
        rw [← hcj, place_at hj]
        simp [this]
      · simp [hw]
theorem place_lt {g : List HOp} {j : Nat} {o : HOp} (hg : g[j]? = some o) : j < g.length := (List.getElem?_eq_some_iff.1 hg).1
end Go.Proofs.YtkpnpkikonlmpaaDoor


namespace Go.Proofs.YtkpnpkikonlmpaaDoor
open Go.RowKit

/-! ### Step by step, as the reference goes. -/
theorem wrF_at {h : List HOp} {k : Nat} {o : HOp} (x : Int) (ho : h[k]? = some o) : wrF x (h.take (k + 1)) = if o.what = 2 ∧ o.item = x then (k : Int) else wrF x (h.take k) := by
  have hlk : (h.take k).length = k := by have := (List.getElem?_eq_some_iff.1 ho).1; rw [List.length_take]; omega
  unfold wrF
  rw [takeSnoc ho, wrGo_snoc, hlk]
  simp
theorem wrF_nil (x : Int) : wrF x [] = -1 := rfl
theorem last_at {h : List HOp} {k : Nat} {o : HOp} (x : Int) (ho : h[k]? = some o) : (srcF (h.take (k + 1))).last x = if o.what = 2 ∧ o.item = x then (o.tx, (srcF (h.take k)).many o.tx + 1) else (srcF (h.take k)).last x := by
  rw [srcF_at ho]
  unfold stepS
  by_cases h1 : o.what = 1
  · rw [if_pos h1, if_neg (by omega)]
  · rw [if_neg h1]
    by_cases h2 : o.what = 2
    · rw [if_pos h2]
      by_cases h3 : o.item = x
      · rw [if_pos ⟨h2, h3⟩, h3]; exact upd_same _ _ _
      · rw [if_neg (fun e => h3 e.2)]; exact upd_other _ (fun e => h3 e.symm) _
    · rw [if_neg h2, if_neg (fun e => h2 e.1)]
def frF (x : Int) (p : List HOp) : Int := ((srcF p).last x).1
theorem frF_at {h : List HOp} {k : Nat} {o : HOp} (x : Int) (ho : h[k]? = some o) : frF x (h.take (k + 1)) = if o.what = 2 ∧ o.item = x then o.tx else frF x (h.take k) := by
  unfold frF
  rw [last_at x ho]
  split <;> rfl
theorem frF_nil (x : Int) : frF x [] = 0 := rfl
theorem lastL_eq (h : List HOp) : lastL h = nums6.map fun x => frF x h := rfl
theorem lastL_step {h : List HOp} {k : Nat} {o : HOp} (ho : h[k]? = some o) (hr : rightB o = true) : lastL (h.take (k + 1)) = if o.what = 2 then (lastL (h.take k)).set (o.item.toNat - 1) o.tx else lastL (h.take k) := by
  rw [lastL_eq, lastL_eq]
  by_cases h2 : o.what = 2
  · have hi := (rightB_get hr).2.2.2.2.1 (by omega)
    rw [if_pos h2, set_nums6 _ _ hi]
    refine List.map_congr_left fun x _ => ?_
    rw [frF_at x ho]
    unfold upd
    by_cases e : x = o.item
    · rw [if_pos ⟨h2, e.symm⟩, if_pos e]
    · rw [if_neg (fun e' => e e'.2.symm), if_neg e]
  · rw [if_neg h2]
    refine List.map_congr_left fun x _ => ?_
    rw [frF_at x ho, if_neg (fun e => h2 e.1)]
def rdF (h : List HOp) : List (Int × Int) := (lookF h).1
theorem lookGo_app : ∀ (r : List HOp) (i : Int) (last : List Int) (out : List (Int × Int)), (lookGo i last out r).1 = out ++ (lookGo i last [] r).1
  | [], _, _, out => by simp [lookGo]
  | o :: t, i, last, out => by
    rw [lookGo, lookGo]
    split
    · rw [lookGo_app t _ _ (out ++ _), lookGo_app t _ _ ([] ++ _)]; simp
    · split
      · exact lookGo_app t _ _ out
      · exact lookGo_app t _ _ out
theorem lookGo_snoc (o : HOp) : ∀ (r : List HOp) (i : Int) (last : List Int) (out : List (Int × Int)), lookGo i last out (r ++ [o]) = lookGo (i + r.length) (lookGo i last out r).2 (lookGo i last out r).1 [o]
  | [], i, last, out => by simp [lookGo]
  | p :: t, i, last, out => by
    have e : i + ((p :: t).length : Int) = i + 1 + (t.length : Int) := by simp; omega
    rw [e, List.cons_append]
    by_cases h1 : p.what = 1
    · rw [show lookGo i last out (p :: (t ++ [o])) = lookGo (i + 1) last (out ++ [(i, last.getD (p.item.toNat - 1) 0)]) (t ++ [o]) by rw [lookGo, if_pos h1], show lookGo i last out (p :: t) = lookGo (i + 1) last (out ++ [(i, last.getD (p.item.toNat - 1) 0)]) t by rw [lookGo, if_pos h1]]
      exact lookGo_snoc o t _ _ _
    · by_cases h2 : p.what = 2
      · rw [show lookGo i last out (p :: (t ++ [o])) = lookGo (i + 1) (last.set (p.item.toNat - 1) p.tx) out (t ++ [o]) by rw [lookGo, if_neg h1, if_pos h2], show lookGo i last out (p :: t) = lookGo (i + 1) (last.set (p.item.toNat - 1) p.tx) out t by rw [lookGo, if_neg h1, if_pos h2]]
        exact lookGo_snoc o t _ _ _
      · rw [show lookGo i last out (p :: (t ++ [o])) = lookGo (i + 1) last out (t ++ [o]) by rw [lookGo, if_neg h1, if_neg h2], show lookGo i last out (p :: t) = lookGo (i + 1) last out t by rw [lookGo, if_neg h1, if_neg h2]]
        exact lookGo_snoc o t _ _ _
theorem rdF_at {h : List HOp} {k : Nat} {o : HOp} (hr : ∀ o ∈ h, rightB o = true) (ho : h[k]? = some o) : rdF (h.take (k + 1)) = if o.what = 1 then rdF (h.take k) ++ [((k : Int), frF o.item (h.take k))] else rdF (h.take k) := by
  have hlk : (h.take k).length = k := by have := (List.getElem?_eq_some_iff.1 ho).1; rw [List.length_take]; omega
  have hro := hr o (List.mem_of_getElem? ho)
  have hlast : (lookF (h.take k)).2 = lastL (h.take k) := look_last fun x hx => hr x (List.mem_of_mem_take hx)
  unfold rdF
  have e : lookF (h.take (k + 1)) = lookGo (k : Int) (lookF (h.take k)).2 (lookF (h.take k)).1 [o] := by
    unfold lookF
    rw [takeSnoc ho, lookGo_snoc, hlk]
    simp
  rw [e, lookGo]
  by_cases h1 : o.what = 1
  · have hi := (rightB_get hro).2.2.2.2.1 (by omega)
    rw [if_pos h1, if_pos h1, lookGo, hlast, lastL_eq, getD_nums6 _ _ hi]
  · rw [if_neg h1, if_neg h1]
    split <;> rfl
theorem rdF_len (h : List HOp) : (rdF h).length ≤ h.length := by
  have key : ∀ (r : List HOp) (i : Int) (last : List Int), (lookGo i last [] r).1.length ≤ r.length := by
    intro r
    induction r with
    | nil => intro i last; simp [lookGo]
    | cons o t ih =>
      intro i last
      rw [lookGo]
      split
      · rw [lookGo_app]
        have := ih (i + 1) last
        simp; omega
      · split
        · have := ih (i + 1) (last.set (o.item.toNat - 1) o.tx); simp; omega
        · have := ih (i + 1) last; simp; omega
  exact key h 0 _
def allGo (h g : List HOp) (i : Nat) : Nat → Bool
  | 0 => true
  | r + 1 => readT h g i && allGo h g (i + 1) r
theorem allGo_range (h g : List HOp) : ∀ (r i : Nat), allGo h g i r = (List.range' i r).all (readT h g)
  | 0, _ => rfl
  | r + 1, i => by rw [allGo, allGo_range h g r (i + 1), List.range'_succ, List.all_cons]
theorem viewsR_go (h g : List HOp) : viewsR h g = (sameOwnB h g && (decide (lastL h = lastL g) && allGo h g 0 h.length)) := by
  unfold viewsR
  rw [allGo_range, List.range_eq_range']
end Go.Proofs.YtkpnpkikonlmpaaDoor

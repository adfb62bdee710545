
/-
  PLAIN LAWS: the first order that is as something says; the order by which a history looks the same.
-/
import Derived.Test.YtaaahfbcpgdoiaaGreatDoorQ24
import Derived.Test.YtaaahfbcpgdoiaaGreatDoorQ27

namespace Go.Proofs.YtaaahfbcpgdoiaaGreatDoor
open Go.RowKit

/-! ### The first order, behind a beginning, that is as something says. -/
def tryL (g : Int → Option (List Int)) : List Int → Option (List Int)
  | [] => none
  | d :: t => match g d with
    | some o => some o
    | none => tryL g t
def permGo (deals : List Int) (is : List Int → Bool) : Nat → List Int → Option (List Int)
  | 0, begun => if is begun = true then some begun else none
  | f + 1, begun => tryL (fun d => if d ∈ begun then none else permGo deals is f (begun ++ [d])) deals
def permF (deals : List Int) (is : List Int → Bool) : Option (List Int) := permGo deals is deals.length []
theorem tryL_some {g : Int → Option (List Int)} {o : List Int} : ∀ {l : List Int}, tryL g l = some o → ∃ d ∈ l, g d = some o
  | [], h => by cases h
  | d :: t, h => by
    rw [tryL] at h
    split at h
    · rename_i hg
      cases h
      exact ⟨d, List.mem_cons_self, hg⟩
    · obtain ⟨x, hx, hg⟩ := tryL_some h
      exact ⟨x, List.mem_cons_of_mem _ hx, hg⟩
theorem tryL_none {g : Int → Option (List Int)} : ∀ {l : List Int}, tryL g l = none → ∀ d ∈ l, g d = none
  | [], _, d, hd => by cases hd
  | x :: t, h, d, hd => by
    rw [tryL] at h
    split at h
    · cases h
    · rename_i hg
      rcases List.mem_cons.1 hd with e | e
      · rw [e]; exact hg
      · exact tryL_none h d e
theorem tryL_congr {g g' : Int → Option (List Int)} : ∀ {l : List Int}, (∀ d ∈ l, g d = g' d) → tryL g l = tryL g' l
  | [], _ => rfl
  | d :: t, h => by
    rw [tryL, tryL, h d List.mem_cons_self, tryL_congr fun x hx => h x (List.mem_cons_of_mem _ hx)]
theorem permGo_some (deals : List Int) (is : List Int → Bool) : ∀ (f : Nat) (begun o : List Int), begun.Nodup → (∀ x ∈ begun, x ∈ deals) → permGo deals is f begun = some o → is o = true ∧ o.Nodup ∧ (∀ x ∈ o, x ∈ deals) ∧ o.length = begun.length + f
  | 0, begun, o, hn, hm, h => by
    rw [permGo] at h
    split at h
    · rename_i hi
      cases h
      exact ⟨hi, hn, hm, rfl⟩
    · cases h
  | f + 1, begun, o, hn, hm, h => by
    rw [permGo] at h
    obtain ⟨d, hd, hg⟩ := tryL_some h
    split at hg
    · cases hg
    · rename_i hnd
      obtain ⟨h1, h2, h3, h4⟩ := permGo_some deals is f (begun ++ [d]) o (List.nodup_append.2 ⟨hn, by simp, fun x hx y hy e => hnd (by rw [List.mem_singleton] at hy; rw [← hy, ← e]; exact hx)⟩) (fun x hx => by
        rcases List.mem_append.1 hx with hx | hx
        · exact hm x hx
        · rw [List.mem_singleton.1 hx]; exact hd) hg
      exact ⟨h1, h2, h3, by rw [h4, List.length_append, List.length_singleton]; omega⟩
theorem permGo_none (deals : List Int) (is : List Int → Bool) : ∀ (f : Nat) (begun r : List Int), permGo deals is f begun = none → (begun ++ r).Nodup → (∀ x ∈ r, x ∈ deals) → r.length = f → is (begun ++ r) = false
  | 0, begun, r, h, _, _, hl => by
    rw [permGo] at h
    have : r = [] := List.eq_nil_of_length_eq_zero hl
    subst this
    rw [List.append_nil]
    split at h
    · cases h
    · rename_i hi
      simpa using hi
  | f + 1, begun, [], _, _, _, hl => by simp at hl
  | f + 1, begun, d :: r, h, hn, hm, hl => by
    rw [permGo] at h
    have hg := tryL_none h d (hm d List.mem_cons_self)
    have hnd : d ∉ begun := fun hd => (List.nodup_append.1 hn).2.2 d hd d List.mem_cons_self rfl
    rw [if_neg hnd] at hg
    have e : begun ++ d :: r = (begun ++ [d]) ++ r := by simp
    rw [e] at hn ⊢
    exact permGo_none deals is f (begun ++ [d]) r hg hn (fun x hx => hm x (List.mem_cons_of_mem _ hx)) (by simpa using hl)
theorem permGo_congr (deals : List Int) {is is' : List Int → Bool} : ∀ (f : Nat) (begun : List Int), begun.Nodup → (∀ x ∈ begun, x ∈ deals) → (∀ o : List Int, o.Nodup → (∀ x ∈ o, x ∈ deals) → o.length = begun.length + f → is o = is' o) → permGo deals is f begun = permGo deals is' f begun
  | 0, begun, hn, hm, h => by rw [permGo, permGo, h begun hn hm rfl]
  | f + 1, begun, hn, hm, h => by
    rw [permGo, permGo]
    refine tryL_congr fun d hd => ?_
    split
    · rfl
    · rename_i hnd
      refine permGo_congr deals f (begun ++ [d]) (List.nodup_append.2 ⟨hn, by simp, fun x hx y hy e => hnd (by rw [List.mem_singleton] at hy; rw [← hy, ← e]; exact hx)⟩) (fun x hx => ?_) fun o h1 h2 h3 => h o h1 h2 (by rw [h3, List.length_append, List.length_singleton]; omega)
      rcases List.mem_append.1 hx with hx | hx
      · exact hm x hx
      · rw [List.mem_singleton.1 hx]; exact hd

/-! ### The order by which a history looks the same. -/
def vOrd (D : List HOp) : Option (List Int) := permF (dealsL D) fun o => viewB D (alongL D o)
/-- Of the deals each once. -/
theorem full_mem {deals o : List Int} (ho : o.Nodup) (hm : ∀ x ∈ o, x ∈ deals) (hl : o.length = deals.length) : ∀ x, x ∈ o ↔ x ∈ deals := fun x => by
  refine ⟨hm x, fun hx => ?_⟩
  by_cases hxo : x ∈ o
  · exact hxo
  · exfalso
    have := nodup_sub_len (x :: o) deals (List.nodup_cons.2 ⟨hxo, ho⟩) fun y hy => by
      rcases List.mem_cons.1 hy with e | e
      · rw [e]; exact hx
      · exact hm y e
    simp at this
    omega
theorem vOrd_some {D : List HOp} {o : List Int} (h : vOrd D = some o) : viewB D (alongL D o) = true ∧ o.Nodup ∧ (∀ x, x ∈ o ↔ x ∈ dealsL D) := by
  obtain ⟨h1, h2, h3, h4⟩ := permGo_some _ _ _ _ _ List.nodup_nil (by simp) h
  exact ⟨h1, h2, full_mem h2 h3 (by simpa using h4)⟩
theorem vOrd_none {D : List HOp} (h : vOrd D = none) {o : List Int} (hn : o.Nodup) (hm : ∀ x, x ∈ o ↔ x ∈ dealsL D) : viewB D (alongL D o) = false := by
  have h1 := nodup_sub_len o (dealsL D) hn fun x hx => (hm x).1 hx
  have h2 := nodup_sub_len (dealsL D) o (dealsL_nodup D) fun x hx => (hm x).2 hx
  exact permGo_none _ _ _ [] o h (by simpa using hn) (fun x hx => (hm x).1 hx) (by omega)
/-- Who is serial by odds is by view. -/
theorem order_view {h : List HOp} (hk : okH h) {o : List Int} (ho : orderOf h = some o) : ∃ p, vOrd (doneL h) = some p := by
  obtain ⟨h1, h2, _⟩ := orderOf_some ho
  cases hv : vOrd (doneL h) with
  | some p => exact ⟨p, rfl⟩
  | none =>
    have := vOrd_none hv h1 h2
    rw [view_sw (orderOf_sw ho) fun o ho => okH_right hk o (List.mem_filter.1 ho).1] at this
    cases this
/-- Along an order by view all looks the same, and comes to the same. -/
theorem view_serial {h : List HOp} (hk : okH h) {o : List Int} (ho : vOrd (doneL h) = some o) : serE h o = 0 ∧ okH (serL h o) ∧ doneL (serL h o) = serL h o ∧ viewB (doneL h) (serL h o) = true ∧ (playF h).1 = (playF (serL h o)).1 := by
  obtain ⟨h1, h2, h3⟩ := vOrd_some ho
  have e1 := serE_of hk h2 h3
  obtain ⟨d1, d2, _⟩ := ser_done hk e1
  have hv : viewB (doneL h) (serL h o) = true := by rw [serL_of e1]; exact h1
  refine ⟨e1, d2, d1, hv, ?_⟩
  refine view_play (okH_right hk) (okH_right d2) ?_
  rw [d1]
  exact hv
end Go.Proofs.YtaaahfbcpgdoiaaGreatDoor

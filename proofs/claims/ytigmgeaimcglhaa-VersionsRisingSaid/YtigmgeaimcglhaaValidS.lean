
/-
  PLAIN LAWS: a deal's ops, what it saw and what it wrote; deals one behind the other.
-/
import Derived.Test.YtigmgeaimcglhaaValidQ
import Derived.Test.YtigmgeaimcglhaaAlikeP

namespace Go.Proofs.Ytigmgeaimcglhaa
open Go.RowKit

/-- A deal's ops, what it saw (each item that it had not written itself, and from whom, as something says), and what it wrote. -/
inductive Runs (tx : Int) (P : Int → Int → Prop) : List HOp → List HOp → List Int → Prop
  | nil : Runs tx P [] [] []
  | own {ops seen wrote} (i : Int) (h : Runs tx P ops seen wrote) (hi : i ∈ wrote) : Runs tx P (ops ++ [⟨tx, 1, i⟩]) (seen ++ [⟨tx, i, tx⟩]) wrote
  | other {ops seen wrote} (i f : Int) (h : Runs tx P ops seen wrote) (hi : i ∉ wrote) (hP : P i f) : Runs tx P (ops ++ [⟨tx, 1, i⟩]) (seen ++ [⟨tx, i, f⟩]) wrote
  | write {ops seen wrote} (i : Int) (h : Runs tx P ops seen wrote) : Runs tx P (ops ++ [⟨tx, 2, i⟩]) seen (wrote ++ [i])
  | skip {ops seen wrote} (w i : Int) (h : Runs tx P ops seen wrote) (hw : 3 ≤ w) : Runs tx P (ops ++ [⟨tx, w, i⟩]) seen wrote
theorem Runs.mono {tx : Int} {P P' : Int → Int → Prop} {ops seen : List HOp} {wrote : List Int} (h : Runs tx P ops seen wrote) : (∀ i f, ⟨tx, i, f⟩ ∈ seen → P i f → P' i f) → Runs tx P' ops seen wrote := by
  induction h with
  | nil => exact fun _ => .nil
  | own i _ hi ih => exact fun hp => .own i (ih fun i f hm => hp i f (List.mem_append_left _ hm)) hi
  | other i f _ hi hP ih => exact fun hp => .other i f (ih fun i f hm => hp i f (List.mem_append_left _ hm)) hi (hp i f (List.mem_append_right _ List.mem_cons_self) hP)
  | write i _ ih => exact fun hp => .write i (ih hp)
  | skip w i _ hw ih => exact fun hp => .skip w i (ih hp) hw
/-- One deal behind the others: who wrote each item last, and what it sees. -/
def simStep (tx : Int) (p : List Int × List HOp) (o : HOp) : List Int × List HOp :=
  if o.what = 2 then (p.1.set (o.item.toNat - 1) tx, p.2) else if o.what = 1 then (p.1, p.2 ++ [⟨tx, o.item, p.1.getD (o.item.toNat - 1) 0⟩]) else p
def simL (tx : Int) (la : List Int) (ops : List HOp) : List Int × List HOp := ops.foldl (simStep tx) (la, [])
/-- Deals one behind the other. -/
def byL (l seen : List HOp) : List Int → List Int → Option (List Int)
  | [], la => some la
  | tx :: t, la => if (simL tx la (ownL l tx)).2 = seen.filter (fun s => decide (s.tx = tx)) then byL l seen t (simL tx la (ownL l tx)).1 else none
theorem byL_snoc (l seen : List HOp) (tx : Int) : ∀ (o : List Int) (la : List Int), byL l seen (o ++ [tx]) la = (byL l seen o la).bind fun la => if (simL tx la (ownL l tx)).2 = seen.filter (fun s => decide (s.tx = tx)) then some (simL tx la (ownL l tx)).1 else none
  | [], la => by simp [byL]
  | t :: o, la => by
    rw [List.cons_append, byL, byL]
    split
    · exact byL_snoc l seen tx o _
    · rfl
theorem setsL_snoc (tx i : Int) : ∀ (l m : List Int), setsL tx (l ++ [i]) m = (setsL tx l m).set (i.toNat - 1) tx
  | [], m => rfl
  | j :: t, m => by rw [List.cons_append, setsL, setsL, setsL_snoc tx i t]
/-- Of what a deal wrote itself it is the last; all else is as it was. -/
theorem setsL_get {tx : Int} {la : List Int} (hla : la.length = 6) : ∀ {l : List Int}, (∀ i ∈ l, 1 ≤ i ∧ i ≤ 6) → ∀ {i : Int}, 1 ≤ i → i ≤ 6 → (setsL tx l la).getD (i.toNat - 1) 0 = if i ∈ l then tx else la.getD (i.toNat - 1) 0 := by
  intro l hl i hi hi2
  have key : ∀ (r : List Int), (∀ j ∈ r, 1 ≤ j ∧ j ≤ 6) → (setsL tx r.reverse la).getD (i.toNat - 1) 0 = if i ∈ r then tx else la.getD (i.toNat - 1) 0 := by
    intro r
    induction r with
    | nil => intro _; simp [setsL]
    | cons j t ih =>
      intro hr
      have hj := hr j List.mem_cons_self
      rw [List.reverse_cons, setsL_snoc]
      by_cases e : i = j
      · subst e
        rw [if_pos List.mem_cons_self]
        have hlen : (setsL tx t.reverse la).length = 6 := by rw [setsL_len]; exact hla
        rw [List.getD_eq_getElem?_getD, List.getElem?_set_self (by rw [hlen]; omega)]
        rfl
      · rw [List.getD_eq_getElem?_getD, List.getElem?_set_ne (by omega), ← List.getD_eq_getElem?_getD, ih fun x hx => hr x (List.mem_cons_of_mem _ hx)]
        by_cases h : i ∈ t
        · rw [if_pos h, if_pos (List.mem_cons_of_mem _ h)]
        · rw [if_neg h, if_neg (by simp [e, h])]
  have := key l.reverse (fun j hj => hl j (List.mem_reverse.1 hj))
  rw [List.reverse_reverse] at this
  rw [this]
  simp
/-- Who saw what was last, of whom it had not written itself, goes as one behind the others. -/
theorem Runs.sim {tx : Int} {la : List Int} (hla : la.length = 6) {ops seen : List HOp} {wrote : List Int} (h : Runs tx (fun i f => f = la.getD (i.toNat - 1) 0) ops seen wrote) : (∀ o ∈ ops, o.what < 3 → 1 ≤ o.item ∧ o.item ≤ 6) → (∀ i ∈ wrote, 1 ≤ i ∧ i ≤ 6) → simL tx la ops = (setsL tx wrote la, seen) := by
  induction h with
  | nil => intro _ _; rfl
  | own i h hi ih =>
    intro h1 h2
    have hr := h1 ⟨tx, 1, i⟩ (List.mem_append_right _ List.mem_cons_self) (by show (1 : Int) < 3; decide)
    unfold simL at ih ⊢
    rw [List.foldl_append, ih (fun o ho => h1 o (List.mem_append_left _ ho)) h2]
    show (_, _) = _
    dsimp only
    rw [setsL_get hla h2 hr.1 hr.2, if_pos hi]
  | other i f h hi hP ih =>
    intro h1 h2
    have hr := h1 ⟨tx, 1, i⟩ (List.mem_append_right _ List.mem_cons_self) (by show (1 : Int) < 3; decide)
    unfold simL at ih ⊢
    rw [List.foldl_append, ih (fun o ho => h1 o (List.mem_append_left _ ho)) h2]
    show (_, _) = _
    dsimp only
    rw [setsL_get hla h2 hr.1 hr.2, if_neg hi, hP]
  | write i h ih =>
    intro h1 h2
    unfold simL at ih ⊢
    rw [List.foldl_append, ih (fun o ho => h1 o (List.mem_append_left _ ho)) (fun j hj => h2 j (List.mem_append_left _ hj)), setsL_snoc]
    rfl
  | skip w i h hw ih =>
    intro h1 h2
    unfold simL at ih ⊢
    rw [List.foldl_append, ih (fun o ho => h1 o (List.mem_append_left _ ho)) h2]
    show simStep tx _ _ = _
    unfold simStep
    rw [if_neg (by simp only; omega), if_neg (by simp only; omega)]
end Go.Proofs.Ytigmgeaimcglhaa

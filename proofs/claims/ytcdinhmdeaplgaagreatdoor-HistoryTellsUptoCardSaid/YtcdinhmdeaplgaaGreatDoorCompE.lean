
/-
  CONTRACT of slices.Compact at edges, on a row that the call owns.
-/
import Derived.Test.YtcdinhmdeaplgaaGreatDoorQ10
import Derived.Test.YtcdinhmdeaplgaaGreatDoorQ8
import Derived.Test.YtcdinhmdeaplgaaGreatDoorQ26

namespace Go.Proofs.YtcdinhmdeaplgaaGreatDoor
open Go.RowKit

theorem tkSnoc {α : Type} {l : List α} {k : Nat} {x : α} (h : l[k]? = some x) : l.take (k + 1) = l.take k ++ [x] := by rw [List.take_add_one, h]; rfl
theorem compGo_snocG {α : Type} [DecidableEq α] (x : α) : ∀ (l : List α) (p : α), compGo p (l ++ [x]) = if x = l.getLastD p then compGo p l else compGo p l ++ [x]
  | [], p => by simp [compGo]
  | y :: t, p => by
    rw [List.cons_append, compGo, compGo, compGo_snocG x t y, List.getLastD_cons]
    by_cases h1 : y = p
    · rw [if_pos h1, if_pos h1]
    · rw [if_neg h1, if_neg h1]
      by_cases h2 : x = t.getLastD y
      · rw [if_pos h2, if_pos h2]
      · rw [if_neg h2, if_neg h2]; rfl
theorem compL_step {α : Type} [DecidableEq α] {l : List α} {q : Nat} {y x : α} (hy : l[q]? = some y) (hx : l[q + 1]? = some x) :
    compL (l.take (q + 2)) = if x = y then compL (l.take (q + 1)) else compL (l.take (q + 1)) ++ [x] := by
  cases l with
  | nil => simp at hx
  | cons a t =>
    rw [List.getElem?_cons_succ] at hx
    rw [List.take_succ_cons, List.take_succ_cons, compL, compL, tkSnoc hx, compGo_snocG]
    have hl : (t.take q).getLastD a = y := by
      cases q with
      | zero => simpa using hy
      | succ r =>
        rw [List.getElem?_cons_succ] at hy
        rw [tkSnoc hy]
        simp
    rw [hl]
    split <;> simp
theorem compL_one {α : Type} [DecidableEq α] (l : List α) (h : l.length < 2) : compL l = l := by
  match l, h with
  | [], _ => rfl
  | [x], _ => rfl
theorem own_set2 {w : World} {base : Nat} {e : TypeId} {g n c : Nat} {l : List (Int × Int)} (hown : w.ownsRow base e 2 (.slice (some ⟨g, 0, none⟩) n c) n (dcells l)) (i : Nat) (d : Int × Int) :
    ((w.setCell ⟨g, i * 2, none⟩ (.int .i64 d.1)).setCell ⟨g, i * 2 + 1, none⟩ (.int .i64 d.2)).ownsRow base e 2 (.slice (some ⟨g, 0, none⟩) n c) n (dcells (l.set i d)) := by
  rw [← dcells_set]
  exact ((hown.stored (i * 2) _).1.stored (i * 2 + 1) _).1
theorem dcells_take (l : List (Int × Int)) (i : Nat) : (dcells l).take (i * 2) = dcells (l.take i) := by
  induction l generalizing i with
  | nil => simp [dcells]
  | cons p t ih =>
    cases i with
    | zero => simp [dcells]
    | succ i =>
      have e : dcells (p :: t) = [.int .i64 p.1, .int .i64 p.2] ++ dcells t := rfl
      have e2 : dcells ((p :: t).take (i + 1)) = [.int .i64 p.1, .int .i64 p.2] ++ dcells (t.take i) := rfl
      have e0 : (i + 1) * 2 = i * 2 + 2 := by omega
      rw [e, e2, e0, ← ih]
      simp
theorem own_drew2 {w : World} {base : Nat} {e : TypeId} {size : Nat} {v : Value} {n : Nat} {xs : List Value} (h : w.ownsRow base e size v n xs) (k : Nat) : (w.drewN k).ownsRow base e size v n xs := h

end Go.Proofs.YtcdinhmdeaplgaaGreatDoor


/-
  CONTRACTS of graph.Sort and its function values, graph.Order.
  CONTRACTS of graph.Order; slices.Index, Contains at edges; graph.around, Ring.
-/
import Derived.Test.YtbccnafdfeempaaGreatDoorQ24
import Derived.WalkSpells

namespace Go.Proofs.YtbccnafdfeempaaGreatDoor
open Go.RowKit Go.Shelf

/-- Is no edge to d from one that is left? -/
def holdsE (left : List Int) (d : Int) (e : Int × Int) : Bool := decide (e.2 = d) && decide (e.1 ∈ left)
def readyB (E : List (Int × Int)) (left : List Int) (d : Int) : Bool := !E.any (holdsE left d)
def topGo (E : List (Int × Int)) : Nat → List Int → List Int → Option (List Int)
  | 0, _, acc => some acc
  | f + 1, left, acc => if idxGo (readyB E left) 0 left < 0 then none else topGo E f (left.eraseIdx (idxGo (readyB E left) 0 left).toNat) (acc ++ [left.getD (idxGo (readyB E left) 0 left).toNat 0])
def topF (E : List (Int × Int)) (deals : List Int) : Option (List Int) := topGo E deals.length (sortI deals) []

/-- A row whose blocks lie from base on stays while a block ahead of that is written. -/
theorem own_past {w w' : World} {base k : Nat} {e : TypeId} {size : Nat} {v : Value} {n : Nat} {xs : List Value} (h : w.ownsRow base e size v n xs) (hg : w.grownBy w' (some k)) (hk : k < base) : w'.ownsRow base e size v n xs := by
  obtain ⟨hl, h0 | ⟨g, cap, cur, rfl, hb, hh, h1⟩⟩ := h
  · exact ⟨hl, .inl h0⟩
  · exact ⟨hl, .inr ⟨g, cap, cur, rfl, hb, (hg.block g (Array.getElem?_eq_some_iff.1 hh).1 (fun e => by injection e; omega)).trans hh, h1⟩⟩
/-- A row stays while all below a bound stays. -/
theorem own_under {w w' : World} {base B g c : Nat} {e : TypeId} {size : Nat} {n : Nat} {xs : List Value} (h : w.ownsRow base e size (.slice (some ⟨g, 0, none⟩) n c) n xs) (hb : Below B w w') (hg : g < B) : w'.ownsRow base e size (.slice (some ⟨g, 0, none⟩) n c) n xs := by
  obtain ⟨hl, ⟨he, _⟩ | ⟨g', cap, cur, he, hbb, hh, h1⟩⟩ := h
  · cases he
  · injection he with e1 e2 e3
    injection e1 with e1
    injection e1 with e1
    subst e1 e3
    exact ⟨hl, .inr ⟨g, c, cur, rfl, hbb, (hb.block g hg).trans hh, h1⟩⟩
theorem own_far2 {w : World} {base : Nat} {e : TypeId} {size : Nat} {v : Value} {n : Nat} {xs : List Value} (h : w.ownsRow base e size v n xs) {p : Addr} (hp : p.block < base) (u : Value) : (w.setCell p u).ownsRow base e size v n xs := own_far h hp u
theorem own_apart {w : World} {base g c : Nat} {e : TypeId} {size : Nat} {n : Nat} {xs : List Value} (h : w.ownsRow base e size (.slice (some ⟨g, 0, none⟩) n c) n xs) {p : Addr} (hp : g ≠ p.block) (u : Value) : (w.setCell p u).ownsRow base e size (.slice (some ⟨g, 0, none⟩) n c) n xs := by
  obtain ⟨hl, ⟨he, _⟩ | ⟨g', cap, cur, he, hbb, hh, h1⟩⟩ := h
  · cases he
  · injection he with e1 e2 e3
    injection e1 with e1
    injection e1 with e1
    subst e1 e3
    exact ⟨hl, .inr ⟨g, c, cur, rfl, hbb, (Below.heap_setCell w p u g hp).trans hh, h1⟩⟩
def lenV : Value → Nat
  | .slice _ n _ => n
  | _ => 0
def SortPost (E : List (Int × Int)) (deals : List Int) (w : World) (e : Ending) (w' : World) : Prop :=
  ∃ v k r L, e = .returned (.tuple #[v, .bool r]) ∧ w'.ownsRow w.heap.size 3 1 v k (cellsI L) ∧ ((topF E deals = some L ∧ r = true) ∨ (topF E deals = none ∧ r = false ∧ L = [])) ∧ Below w.heap.size w w'

end Go.Proofs.YtbccnafdfeempaaGreatDoor


namespace Go.Proofs.YtbccnafdfeempaaGreatDoor
open Go.RowKit Go.Shelf

/-! ### Order. -/
def orderE (E : List (Int × Int)) : Int := if checkG E ≠ 0 then checkG E else match topF E (namedF E) with | some _ => 0 | none => 8
def orderL (E : List (Int × Int)) : List Int := if checkG E ≠ 0 then [] else (topF E (namedF E)).getD []
theorem ends2_len (E : List (Int × Int)) : (ends2 E).length = E.length * 2 := by
  induction E with
  | nil => rfl
  | cons e t ih =>
    have : ends2 (e :: t) = [e.1, e.2] ++ ends2 t := rfl
    rw [this, List.length_append, ih]; simp; omega
theorem compL_le (l : List Int) : (compL l).length ≤ l.length := by
  have h : ∀ (t : List Int) (p : Int), (compGo p t).length ≤ t.length := by
    intro t
    induction t with
    | nil => intro p; exact Nat.le_refl _
    | cons y t ih => intro p; unfold compGo; split <;> simp <;> have := ih y <;> omega
  cases l with
  | nil => exact Nat.le_refl _
  | cons x t => simp only [compL, List.length_cons]; have := h t x; omega
theorem namedF_len (E : List (Int × Int)) : (namedF E).length ≤ E.length * 2 := by
  have := compL_le (sortI (ends2 E))
  rw [sortI_len, ends2_len] at this
  exact this
/-! ### Index, Contains at edges. -/
/-! ### around. -/
def tryGo (g : Int → Option (List Int)) : Nat → Int → Option (List Int)
  | 0, _ => none
  | k + 1, d => match g d with
    | some L => some L
    | none => tryGo g k (d + 1)
def nextB (E : List (Int × Int)) (way : List Int) (d : Int) : Bool := decide ((way.getLastD 0, d) ∈ E) && !decide (d ∈ way)
def roundGo (E : List (Int × Int)) : Nat → List Int → Option (List Int)
  | 0, way => if (way.getLastD 0, way.headD 0) ∈ E then some way else none
  | f + 1, way => tryGo (fun d => if nextB E way d then roundGo E f (way ++ [d]) else none) 6 1
def WayPost (R : Option (List Int)) (w : World) (e : Ending) (w' : World) : Prop :=
  Below w.heap.size w w' ∧ ((R = none ∧ e = .returned (.slice none 0 0)) ∨ ∃ L a n c, R = some L ∧ e = .returned (.slice (some a) n c) ∧ Rd w' w'.heap.size 1 (some a) n (cellsI L))
theorem lastD_at {l : List Int} {n : Nat} {x : Int} (h : l[n]? = some x) (hl : l.length = n + 1) : l.getLastD 0 = x := by
  have h1 : l.getLast? = some x := by rw [List.getLast?_eq_getElem?, hl]; exact h
  rw [List.getLastD_eq_getLast?, h1]; rfl
theorem headD_at {l : List Int} {x : Int} (h : l[0]? = some x) : l.headD 0 = x := by
  cases l with
  | nil => simp at h
  | cons a t => simpa using h
theorem tryGo_step (g : Int → Option (List Int)) (k : Nat) (d : Int) : tryGo g (k + 1) d = match g d with | some L => some L | none => tryGo g k (d + 1) := rfl

end Go.Proofs.YtbccnafdfeempaaGreatDoor


/-
  A LAW: a region that draws its order and only reads, within a round of a range over a function.
  CONTRACTS of slices.Backward over ops (a range over a function) and faces.from.
-/
import Derived.Test.YtcdinhmdeaplgaaGreatDoorQ0
import Derived.Sort.QuietIn
import Derived.RangeFuncNested
import Derived.Test.YtcdinhmdeaplgaaGreatDoorQ9
import Derived.RangeFuncBound
import Derived.RangeFuncCalls
import Derived.RangeFuncLeaves
import Derived.RangeFuncBox
import Derived.Shelf.Abstract
import Derived.Shelf.RegionOpen
import Derived.OwnWalkIn
import Derived.TacticsInMore
import Derived.LoopNIn
import Derived.LoopIn
import Derived.Outline

namespace Go.Proofs.YtcdinhmdeaplgaaGreatDoor
open Go.RowKit

section
variable {F : Fence} {n : Nat} {P : Program} {ops : Array Oper} {md : Region.Mode} {C : World → Prop}
theorem oper_of_quiet_r {o : Oper} {a : Act} {K : Act → Prop} {K' : Act → World → Prop} {Q' : Exit → Act → World → Prop} {w : World} {l : Nat} (hro : F.round = some l) (hnd : ∀ c, o.op ≠ .defer c) (hw : C w) (h : ∀ a w', C w' → K a → K' a w')
    (ha : o.askedIn F P a C) (hh : o.quietIn F n P a C K) : o.wpIn F n P a w K' Q' := by
  obtain ⟨v, h1, h2⟩ := hh
  have h3 := h1 w hw
  unfold Oper.quietAtIn at h3
  unfold Oper.wpIn
  refine ⟨ha w hw, ?_⟩
  rw [hro, Oper.semAt_some _ _ _ hnd]
  generalize (execOp a.eval o).run P w = r at *
  cases r with
  | ok x w' =>
    cases x <;> simp only [Oper.quietUponIn] at h3 <;> simp only [Oper.uponIn]
    case value u =>
      obtain ⟨e1, e2⟩ := h3
      rw [e1, e2]
      exact h _ _ hw h2
    case skip =>
      obtain ⟨e1, e2⟩ := h3
      rw [e1, ← e2]
      exact h _ _ hw h2
    case enter f args =>
      obtain ⟨e1, hd, hc⟩ := h3
      rw [e1]
      exact ⟨hd, hc.mono fun e w'' ⟨he, hw''⟩ => by subst he; exact h _ _ hw'' h2⟩
  | halt x w' => simp only [Oper.quietUponIn] at h3
theorem op_of_quiet_r {i : Nat} {a : Act} {K : Act → Prop} {K' : Act → World → Prop} {Q' : Exit → Act → World → Prop} {w : World} {l : Nat} (hro : F.round = some l) (hnd : ∀ (i : Nat) o, ops[i]? = some o → ∀ c, o.op ≠ .defer c) (hC : C w) (h : ∀ a w', C w' → K a → K' a w')
    (hh : qOpIn F n P ops C i K a) : wpOpIn F n P ops Q' i K' a w := by
  unfold qOpIn at hh
  unfold wpOpIn
  split
  · rename_i ho; simp only [ho] at hh; exact h _ _ hC hh
  · rename_i o ho
    simp only [ho] at hh
    obtain ⟨ha, hh⟩ := hh
    split
    · rename_i hw; simp only [hw, if_true] at hh; exact oper_of_quiet_r hro (hnd i o ho) hC h ha hh
    · rename_i hw; simp only [hw] at hh; exact ⟨ha w hC, h _ _ hC hh⟩
theorem any_of_quiet_r {Q : Act → Prop} {Q' : Exit → Act → World → Prop} {l : Nat} (hro : F.round = some l) (hnd : ∀ (i : Nat) o, ops[i]? = some o → ∀ c, o.op ≠ .defer c) (hQ : ∀ a w, C w → Q a → Q' .normal a w) : ∀ (fuel : Nat) (listed : Array Bool) (a : Act) (w : World), C w →
    wpAnyQIn F n P md ops C Q fuel listed a → wpAnyIn F n P md ops Q' fuel listed a w
  | 0, _, _, _, hw, h => ⟨h.1, hQ _ _ hw h.2⟩
  | fuel + 1, _, _, _, hw, h => ⟨fun h0 => hQ _ _ hw (h.1 h0), fun i hi => op_of_quiet_r hro hnd hw (fun a' w' hw' => any_of_quiet_r hro hnd hQ fuel _ a' w' hw') (h.2 i hi)⟩
theorem region_quiet_r {id : Nat} {Q : Exit → Act → World → Prop} {a : Act} {w : World} {l : List Oper} {lp : Nat} (hro : F.round = some lp) (hm : P.follows .mixedOrders = true) (hB : Region.lexB .any l.toArray = true)
    (hnd : (l.all fun o => match o.op with | .defer _ => false | _ => true) = true)
    (h : wpQuietIn F n P l.toArray (fun w' => ∃ n, w' = w.drewN n) (fun a' => ∀ w', (∃ n, w' = w.drewN n) → Q .normal a' w') l a) : (Code.region id l.toArray true).wpIn F n P Q a w := by
  have hnd' : ∀ (i : Nat) o, l.toArray[i]? = some o → ∀ c, o.op ≠ .defer c := by
    intro i o ho c hc
    have hm := List.all_eq_true.1 hnd o (by simpa using Array.mem_of_getElem? ho)
    rw [hc] at hm
    cases hm
  simp only [Region.lexB, Bool.and_eq_true] at hB
  refine wpIn_region_any hm (any_of_quiet_r (Q := fun a' => ∀ w', (∃ n, w' = w.drewN n) → Q .normal a' w') hro hnd' (fun _ w' hw' h => h w' hw') _ _ _ _ (C := fun w' => ∃ n, w' = w.drewN n) ⟨1, rfl⟩ ?_)
  have := wpAnyQIn_lex (F := F) (n := n) (C := fun w' => ∃ n, w' = w.drewN n) (md := .any) hB.1 l.toArray.toList 0 (Array.replicate l.toArray.size false) a (by simp) (by simpa using hB.2) (by simpa using h)
  simpa using this
end
end Go.Proofs.YtcdinhmdeaplgaaGreatDoor


namespace Go.Proofs.YtcdinhmdeaplgaaGreatDoor
open Go.RowKit Go.Shelf

attribute [local go_sem] Oper.semAt_some

/-- What comes in a round: the place and the op there, whose deal is one. -/
abbrev Al := { x : Nat × HOp // 1 ≤ x.2.tx ∧ x.2.tx ≤ 6 }
def Al.vals (x : Al) : Array Value := #[.int .i64 x.1.1, .agg #[.int .i64 x.1.2.tx, .int .i64 x.1.2.what, .int .i64 x.1.2.item]]
/-- What comes backward. -/
def BackOf (h : List HOp) (zs : List Al) : Prop := zs.length = h.length ∧ ∀ j x, zs[j]? = some x → x.1.1 + 1 + j = h.length ∧ h[x.1.1]? = some x.1.2

theorem backOf_rev (t : List HOp) (ht : ∀ o ∈ t, 1 ≤ o.tx ∧ o.tx ≤ 6) : ∃ zs, BackOf t.reverse zs ∧ zs.map (fun x => x.1.2) = t := by
  induction t with
  | nil => exact ⟨[], ⟨rfl, by simp⟩, rfl⟩
  | cons o t ih =>
    obtain ⟨zs, ⟨hl, hz⟩, hm⟩ := ih fun x hx => ht x (by simp [hx])
    refine ⟨⟨(t.length, o), ht o (by simp)⟩ :: zs, ⟨by simpa using hl, fun j x hx => ?_⟩, by simp [hm]⟩
    cases j with
    | zero =>
      simp at hx; subst hx
      simp
    | succ j =>
      obtain ⟨h1, h2⟩ := hz j x (by simpa using hx)
      refine ⟨by simp at h1 ⊢; omega, ?_⟩
      rw [List.reverse_cons, List.getElem?_append_left (by omega)]; exact h2
theorem backOf_ex (h : List HOp) (ht : ∀ o ∈ h, 1 ≤ o.tx ∧ o.tx ≤ 6) : ∃ zs, BackOf h zs ∧ zs.map (fun x => x.1.2) = h.reverse := by
  have := backOf_rev h.reverse (fun o ho => ht o (by simpa using ho))
  rwa [List.reverse_reverse] at this

theorem keepsOthers_drewN (W : World) (n : Nat) : KeepsOthers W (W.drewN n) := ⟨Nat.le_refl _, fun _ _ h _ => h⟩
/-! ### faces.from -/
def fromT (es : List Int) (x o : HOp) : Bool := decide (o.what = 2 ∧ o.item = x.item ∧ es.getD o.tx.toNat 0 ≠ 4)
def fromB (pre : List HOp) (x : HOp) : Int := match pre.reverse.find? (fromT (endedF pre) x) with
  | some o => o.tx
  | none => 0

theorem fromB_none {pre : List HOp} {x : HOp} {zs : List Al} (hz : zs.map (fun x => x.1.2) = pre.reverse) (h : ∀ y ∈ zs, fromT (endedF pre) x y.1.2 = false) : fromB pre x = 0 := by
  have : pre.reverse.find? (fromT (endedF pre) x) = none := by
    rw [← hz, List.find?_eq_none]
    intro o ho
    obtain ⟨y, hy, rfl⟩ := List.mem_map.1 ho
    simp [h y hy]
  rw [fromB, this]
theorem fromB_some {pre : List HOp} {x : HOp} {zs ini q : List Al} {last : Al} (hz : zs.map (fun x => x.1.2) = pre.reverse) (hp : q <+: zs) (hq : q = ini ++ [last]) (h : ∀ y ∈ ini, fromT (endedF pre) x y.1.2 = false) (h2 : fromT (endedF pre) x last.1.2 = true) : fromB pre x = last.1.2.tx := by
  obtain ⟨r, rfl⟩ := hp
  subst hq
  have h3 : (ini.map (fun x => x.1.2)).find? (fromT (endedF pre) x) = none := by
    rw [List.find?_eq_none]
    intro o ho
    obtain ⟨y, hy, rfl⟩ := List.mem_map.1 ho
    simp [h y hy]
  have : pre.reverse.find? (fromT (endedF pre) x) = some last.1.2 := by
    rw [← hz]
    simp only [List.map_append, List.map_cons, List.map_nil, List.append_assoc]
    rw [List.find?_append, h3]
    simp [h2]
  rw [fromB, this]

end Go.Proofs.YtcdinhmdeaplgaaGreatDoor

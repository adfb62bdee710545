
/-
  CONTRACTS of stamp.marks.look, stamp.Run.
  MAPS from int to bool, all true: look-up and store.
  CONTRACT of stamp.Run where the ops are right.
-/
import Derived.Test.YtbccnafdfeempaaGreatDoorQ1
import Derived.Test.YtbccnafdfeempaaGreatDoorQ4
import Derived.BigQuiet
import Derived.Deep.RegionWith

namespace Go.Proofs.YtbccnafdfeempaaGreatDoor
open Go.RowKit

theorem grown_set {w w' : World} {g : Nat} (h : w.grownBy w' (some g)) (i : Nat) (v : Value) : w.grownBy (w'.setCell ⟨g, i, none⟩ v) (some g) :=
  ⟨h.os, h.tape, h.output, by simpa using h.size, fun j hj hne => (Below.heap_setCell w' ⟨g, i, none⟩ v j (fun e => hne (by rw [e]))).trans (h.block j hj hne)⟩
theorem grown_alloc {w w' : World} {row : Option Nat} (h : w.grownBy w' row) (o : Obj) : w.grownBy (w'.alloc o) row := h.trans (World.grownBy_alloc w' o row)

theorem grown_drewN {w w' : World} {row : Option Nat} (h : w.grownBy w' row) (n : Nat) : w.grownBy (w'.drewN n) row := ⟨h.os, h.tape, h.output, h.size, h.block⟩

/-- What look says, and the two marks behind it. -/
def lookM (r wv : Int) (o : HOp) (lv : Bool) : Int × Int × Int :=
  if o.what = 1 then if wv > o.tx then (2, r, wv) else (0, max r o.tx, wv)
  else if r > o.tx ∨ (wv > o.tx ∧ lv = false) then (2, r, wv) else if wv > o.tx then (1, r, wv) else (0, r, o.tx)

end Go.Proofs.YtbccnafdfeempaaGreatDoor


namespace Go.Proofs.YtbccnafdfeempaaGreatDoor
open Go.RowKit

theorem own_but {w w' : World} {base : Nat} {e : TypeId} {size : Nat} {v : Value} {n : Nat} {xs : List Value} {g : Nat} (h : w.ownsRow base e size v n xs) (hg : w.grownBy w' (some g)) (hlt : g < base) : w'.ownsRow base e size v n xs := by
  refine h.kept hg ?_
  rcases h.2 with ⟨rfl, _⟩ | ⟨k, cap, cur, rfl, hk, _⟩
  · exact .inl rfl
  · right; simp [Value.ownBlock]; omega
theorem below_grown {w w' : World} {B g : Nat} (hg : w.grownBy w' (some g)) (hB : B ≤ g) (hs : B ≤ w.heap.size) : Below B w w' :=
  ⟨hg.os, hg.tape, hg.output, hg.size, fun i hi => hg.block i (by omega) (by simp; omega)⟩

def mpT (l : List Int) : List (Int × Value) := l.map fun t => (t, .bool true)
theorem getI_mpT (l : List Int) (k : Int) : (getI (mpT l) k).getD (.bool false) = .bool (decide (k ∈ l)) := by
  induction l with
  | nil => simp [mpT, getI]
  | cons x t ih =>
    have e : mpT (x :: t) = (x, .bool true) :: mpT t := rfl
    rw [e, getI]
    by_cases h : x = k
    · simp [h]
    · have h2 : ¬ k = x := fun e => h e.symm
      rw [if_neg (by simpa using h), ih]; simp [h2]
theorem putI_mpT (l : List Int) (k : Int) (h : k ∉ l) : putI (mpT l) k (.bool true) = mpT (l ++ [k]) := by
  induction l with
  | nil => rfl
  | cons x t ih =>
    have e : mpT (x :: t) = (x, .bool true) :: mpT t := rfl
    simp only [List.mem_cons, not_or] at h
    rw [e, putI, if_neg (by simpa using fun e => h.1 e.symm), ih h.2]; rfl
theorem wpList_hasI {P : Program} {w : World} {ops : Array Oper} {rest : List Oper} {o : Oper} {a : Act} {Q : Exit → Act → World → Prop} (hg : o.guard = none) (mo x : Operand) (t : TypeId) (hop : o.op = Op.lookup t mo x false) {kt et : TypeId} (ht : P.underlying t = some (.map kt et)) (hk : P.underlying kt = some (.int .i64)) {b : Nat} {l : List Int}
    (hm : MapI w b (mpT l)) {k : Int} (hz : ∀ w, (zeroValue et).run P w = .ok (.bool false) w) (hmo : a.eval mo = .map (some b)) (hx : a.eval x = .int .i64 k)
    (h : wpList P ops Q rest (a.put o.dst (.bool (decide (k ∈ l)))) w) : wpList P ops Q (o :: rest) a w :=
  wpList_lookupI hg mo x t false hop ht hk hm hz hmo hx (by rw [if_neg (by simp), getI_mpT]; exact h)
/-- How many entries a map's block has. -/
def mcount (w : World) (g : Nat) : Nat := match w.heap[g]? with
  | some (.map es _) => es.size
  | _ => 0
theorem mcount_map {w : World} {g : Nat} {m : List (Int × Value)} (h : MapI w g m) : mcount w g = m.length := by
  obtain ⟨es, clock, h1, h2, _⟩ := h
  unfold mcount
  rw [h1]
  have := congrArg List.length h2
  simpa using this
theorem mpT_length (l : List Int) : (mpT l).length = l.length := by simp [mpT]
end Go.Proofs.YtbccnafdfeempaaGreatDoor


namespace Go.Proofs.YtbccnafdfeempaaGreatDoor
open Go.RowKit

/-- What stamp.Run tells, and whom it aborts. -/
def stampGo (lv : Bool) (ms : List (Int × Int)) (told : List HOp) (vic : List Int) : List HOp → List HOp × List Int
  | [] => (told, vic)
  | o :: t =>
    if o.tx ∈ vic then stampGo lv ms told vic t
    else if endsB o = true then stampGo lv ms (told ++ [o]) vic t
    else
      let m := ms.getD o.item.toNat (0, 0)
      let r := lookM m.1 m.2 o lv
      if r.1 = 0 then stampGo lv (ms.set o.item.toNat r.2) (told ++ [o]) vic t
      else if r.1 = 2 then stampGo lv (ms.set o.item.toNat r.2) (told ++ [⟨o.tx, 4, 0⟩]) (vic ++ [o.tx]) t
      else stampGo lv (ms.set o.item.toNat r.2) told vic t
def stampF (lv : Bool) (h : List HOp) : List HOp × List Int := stampGo lv (List.replicate 7 (0, 0)) [] [] h

end Go.Proofs.YtbccnafdfeempaaGreatDoor

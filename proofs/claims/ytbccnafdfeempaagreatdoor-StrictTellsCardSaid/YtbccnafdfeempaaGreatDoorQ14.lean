
/-
  PLAIN LAWS: a run by locks in which no deal waits (calmGo); one deal behind the other is such a run (calm_pieces).
  MAPS keyed by int: entries of a kind; delete; a range over one.
  PLAIN: what a runner that keeps locks does, as a function with fuel (runJ, runL).
  PLAIN: a run by locks in which none waits tells what was asked.
-/
import Derived.Test.YtbccnafdfeempaaGreatDoorLockP
import Derived.Test.YtbccnafdfeempaaGreatDoorPieces
import Derived.Test.YtbccnafdfeempaaGreatDoorQ1
import Derived.Maps.RangeWalk
import Derived.Test.YtbccnafdfeempaaGreatDoorQ6

namespace Go.Proofs.YtbccnafdfeempaaGreatDoor
open Go.RowKit

/-- The lock of an op. -/
def lockOf (o : HOp) : HOp := ⟨o.tx, o.item, if o.what = 2 then 2 else 1⟩
def endB (o : HOp) : Bool := decide (o.what = 3) || decide (o.what = 4)
/-- What is held behind an op of a run in which none waits. -/
def nextH (H : List HOp) (o : HOp) : List HOp := if endB o = true then H.filter (notTx o.tx) else (askF ⟨H, []⟩ (lockOf o)).2.2.H
def calmGo : List HOp → List HOp → Prop
  | _, [] => True
  | H, o :: t => (endB o = true ∨ (lrightB (lockOf o) = true ∧ askF ⟨H, []⟩ (lockOf o) = (true, 0, ⟨nextH H o, []⟩))) ∧ calmGo (nextH H o) t
theorem mem_holdL' {H : List HOp} {l y : HOp} (h : y ∈ holdL H l) : y = l ∨ y ∈ H := by
  unfold holdL at h
  split at h
  · exact (List.mem_or_eq_of_mem_set h).symm
  · rcases List.mem_append.1 h with h | h
    · exact .inr h
    · exact .inl (List.mem_singleton.1 h)
/-- Where one deal alone holds, it is given all that it asks for. -/
theorem ask_own {H : List HOp} {l : HOp} (hr : lrightB l = true) (hall : ∀ y ∈ H, y.tx = l.tx) : ∃ H', askF ⟨H, []⟩ l = (true, 0, ⟨H', []⟩) ∧ ∀ y ∈ H', y.tx = l.tx := by
  have hf : freeB H l = true := by
    unfold freeB
    rw [Bool.not_eq_true', List.any_eq_false]
    intro y hy
    unfold loddsB
    rw [decide_eq_true_eq]
    exact fun h => h.1 (hall y hy).symm
  have hf2 : freeB [] l = true := rfl
  unfold askF
  rw [if_neg (by rw [hr]; simp), if_neg (by simp)]
  split
  · exact ⟨H, rfl, hall⟩
  · rw [if_pos (by show (freeB H l && freeB [] l) = true; rw [hf, hf2]; rfl)]
    refine ⟨_, rfl, fun y hy => ?_⟩
    rcases mem_holdL' hy with rfl | hy
    · rfl
    · exact hall y hy
theorem nextH_ask {H : List HOp} {o : HOp} (he : endB o = false) (hr : lrightB (lockOf o) = true) (hall : ∀ y ∈ H, y.tx = o.tx) : askF ⟨H, []⟩ (lockOf o) = (true, 0, ⟨nextH H o, []⟩) ∧ ∀ y ∈ nextH H o, y.tx = o.tx := by
  obtain ⟨H', h1, h2⟩ := ask_own hr (H := H) hall
  have e : nextH H o = H' := by unfold nextH; rw [if_neg (by rw [he]; simp), h1]
  rw [e]
  exact ⟨h1, h2⟩
theorem nextH_end {H : List HOp} {o : HOp} (he : endB o = true) (hall : ∀ y ∈ H, y.tx = o.tx) : nextH H o = [] := by
  unfold nextH
  rw [if_pos he, List.filter_eq_nil_iff]
  intro y hy
  unfold notTx
  rw [hall y hy]
  simp
theorem calm_pieces {a b : Int} (ha : 1 ≤ a ∧ a ≤ 6) (hb : 1 ≤ b ∧ b ≤ 6) : ∀ {order : List Int}, (∀ t ∈ order, 1 ≤ t ∧ t ≤ 6) → calmGo [] (piecesH a b order)
  | [], _ => trivial
  | t :: r, h => by
    have ht := h t (List.mem_cons_self ..)
    have ih := calm_pieces (order := r) ha hb fun x hx => h x (List.mem_cons_of_mem _ hx)
    have r1 : lrightB (lockOf ⟨t, 1, a⟩) = true := by simp [lrightB, lockOf, txB]; omega
    have r2 : lrightB (lockOf ⟨t, 2, b⟩) = true := by simp [lrightB, lockOf, txB]; omega
    obtain ⟨h1, h2⟩ := nextH_ask (H := []) (o := ⟨t, 1, a⟩) rfl r1 (fun y hy => by cases hy)
    obtain ⟨h3, h4⟩ := nextH_ask (H := nextH [] ⟨t, 1, a⟩) (o := ⟨t, 2, b⟩) rfl r2 h2
    have h5 := nextH_end (H := nextH (nextH [] ⟨t, 1, a⟩) ⟨t, 2, b⟩) (o := ⟨t, 3, 0⟩) rfl h4
    rw [show piecesH a b (t :: r) = ⟨t, 1, a⟩ :: ⟨t, 2, b⟩ :: ⟨t, 3, 0⟩ :: piecesH a b r from rfl]
    refine ⟨.inr ⟨r1, h1⟩, .inr ⟨r2, h3⟩, .inl rfl, ?_⟩
    rw [h5]
    exact ih
end Go.Proofs.YtbccnafdfeempaaGreatDoor


namespace Go.Proofs.YtbccnafdfeempaaGreatDoor
open Go.RowKit
open Go.ChangeMaps (setBlock)

/-! ### Entries of a kind. -/
section
variable {α : Type}
def getL : List (Int × α) → Int → Option α
  | [], _ => none
  | p :: t, k => if p.1 = k then some p.2 else getL t k
def putL : List (Int × α) → Int → α → List (Int × α)
  | [], k, v => [(k, v)]
  | p :: t, k, v => if p.1 = k then (k, v) :: t else p :: putL t k v
def delL : List (Int × α) → Int → List (Int × α)
  | [], _ => []
  | p :: t, k => if p.1 = k then t else p :: delL t k
def mvf (f : α → Value) (m : List (Int × α)) : List (Int × Value) := m.map fun p => (p.1, f p.2)
theorem mvf_at {f : α → Value} {m : List (Int × α)} {i : Nat} {k : Int} {v : Value} (h : (mvf f m)[i]? = some (k, v)) : ∃ a, m[i]? = some (k, a) ∧ v = f a := by
  simp only [mvf, List.getElem?_map, Option.map_eq_some_iff] at h
  obtain ⟨p, hp, he⟩ := h
  simp only [Prod.mk.injEq] at he
  exact ⟨p.2, by rw [hp, ← he.1], he.2.symm⟩
theorem mvf_length (f : α → Value) (m : List (Int × α)) : (mvf f m).length = m.length := by simp [mvf]
theorem getI_mvf (f : α → Value) (m : List (Int × α)) (k : Int) : getI (mvf f m) k = (getL m k).map f := by
  induction m with
  | nil => rfl
  | cons p t ih =>
    show (if p.1 = k then some (f p.2) else getI (mvf f t) k) = (if p.1 = k then some p.2 else getL t k).map f
    split
    · rfl
    · exact ih
theorem putI_mvf (f : α → Value) (m : List (Int × α)) (k : Int) (a : α) : putI (mvf f m) k (f a) = mvf f (putL m k a) := by
  induction m with
  | nil => rfl
  | cons p t ih =>
    show (if p.1 = k then (k, f a) :: mvf f t else (p.1, f p.2) :: putI (mvf f t) k (f a)) = mvf f (if p.1 = k then (k, a) :: t else p :: putL t k a)
    split
    · rfl
    · rw [ih]; rfl
theorem delI_mvf (f : α → Value) (m : List (Int × α)) (k : Int) : delI (mvf f m) k = mvf f (delL m k) := by
  induction m with
  | nil => rfl
  | cons p t ih =>
    show (if p.1 = k then mvf f t else (p.1, f p.2) :: delI (mvf f t) k) = mvf f (if p.1 = k then t else p :: delL t k)
    split
    · rfl
    · rw [ih]; rfl
end

/-! ### A range. -/
theorem erase_map {α β : Type} (f : α → β) : ∀ (l : List α) (i : Nat), (l.map f).eraseIdx i = (l.eraseIdx i).map f
  | [], _ => rfl
  | _ :: _, 0 => rfl
  | a :: t, i + 1 => by simp [erase_map f t i]
theorem mvf_erase {α : Type} (f : α → Value) (m : List (Int × α)) (i : Nat) : (mvf f m).eraseIdx i = mvf f (m.eraseIdx i) := erase_map _ _ _
def pairV (e : MapEntry) : Value × Value := (e.key, e.val)
def RangeI (w : World) (b r : Nat) (m left : List (Int × Value)) : Prop :=
  ∃ es clock since seen c0, w.heap[b]? = some (.map es clock) ∧ es.toList.map (fun e => (e.key, e.val)) = m.map (fun p => (Value.int .i64 p.1, p.2)) ∧ es.toList.Pairwise (fun x y => x.born ≠ y.born) ∧ (∀ e ∈ es.toList, e.born < clock) ∧
    w.heap[r]? = some (.mapIter (some b) since seen c0) ∧ (∀ x ∈ es.toList, x.born < since) ∧ since ≤ c0 ∧ since ≤ clock ∧ (leftOf es seen).toList.map (fun e => (e.key, e.val)) = left.map (fun p => (Value.int .i64 p.1, p.2))
theorem filter_erase : ∀ (L : List MapEntry) (j : Nat) (e : MapEntry), L.Pairwise (fun x y => x.born ≠ y.born) → L[j]? = some e → L.filter (fun x => !(x.born == e.born)) = L.eraseIdx j
  | [], j, e, _, h => by simp at h
  | a :: t, 0, e, hp, h => by
    obtain rfl : a = e := by simpa using h
    rw [List.filter_cons_of_neg (by simp)]
    rw [List.eraseIdx_cons_zero, List.filter_eq_self]
    intro x hx
    have := (List.pairwise_cons.1 hp).1 x hx
    simp; exact fun h => this h.symm
  | a :: t, j + 1, e, hp, h => by
    have h1 : t[j]? = some e := by simpa using h
    have h2 := (List.pairwise_cons.1 hp).1 e (List.mem_of_getElem? h1)
    rw [List.filter_cons_of_pos (by simpa using h2), filter_erase t j e (List.pairwise_cons.1 hp).2 h1]
    rfl
section
variable {w w' : World} {b r : Nat} {m left : List (Int × Value)}
theorem RangeI.mapI (h : RangeI w b r m left) : MapI w b m := by
  obtain ⟨es, clock, _, _, _, h1, h2, h3, h4, _⟩ := h
  exact ⟨es, clock, h1, h2, h3, h4⟩
theorem RangeI.lt (h : RangeI w b r m left) : r < w.heap.size := by
  obtain ⟨es, clock, _, _, _, _, _, _, _, h5, _⟩ := h
  exact (Array.getElem?_eq_some_iff.1 h5).1
theorem RangeI.kept (h : RangeI w b r m left) (hb : w'.heap[b]? = w.heap[b]?) (hr : w'.heap[r]? = w.heap[r]?) : RangeI w' b r m left := by
  obtain ⟨es, clock, since, seen, c0, h1, h2, h3, h4, h5, h6⟩ := h
  exact ⟨es, clock, since, seen, c0, hb.trans h1, h2, h3, h4, hr.trans h5, h6⟩
theorem RangeI.alloc (h : RangeI w b r m left) (o : Obj) : RangeI (w.alloc o) b r m left := h.kept (Below.heap_alloc w o b h.mapI.lt) (Below.heap_alloc w o r h.lt)
theorem RangeI.left_eq (h : RangeI w b r m left) : w.rangeLeft b r = left.length := by
  obtain ⟨es, clock, since, seen, c0, h1, _, _, _, h5, _, _, _, h9⟩ := h
  simp only [World.rangeLeft, h1, h5]
  have := congrArg List.length h9
  simpa using this
theorem MapI.range {P : Program} {t kt et : TypeId} (h : MapI w b m) (ht : P.underlying t = some (.map kt et)) :
    ∃ w', (Instr.range t (.map (some b))).run P w = .ok (.pointer (some ⟨w.heap.size, 0, none⟩)) w' ∧ RangeI w' b w.heap.size m m ∧ w.grownBy w' none ∧ w'.heap.size = w.heap.size + 1 := by
  have hlt := h.lt
  obtain ⟨es, clock, h1, h2, h3, h4⟩ := h
  refine ⟨_, run_range_map w t kt et b es clock ht h1, ⟨es, clock, clock, #[], clock, (Below.heap_alloc w _ b hlt).trans h1, h2, h3, h4, heap_alloc_new w _, h4, Nat.le_refl _, Nat.le_refl _, ?_⟩, World.grownBy_alloc w _ none, by simp⟩
  have : (leftOf es #[]).toList = es.toList := by
    simp only [leftOf, Array.toList_filter]
    exact List.filter_eq_self.2 fun x _ => by simp
  rw [this]; exact h2
theorem RangeI.next {P : Program} (h : RangeI w b r m left) (ty : TypeId) :
    (left = [] ∧ (Instr.next (.pointer (some ⟨r, 0, none⟩)) false ty).run P w = .ok (.tuple #[.bool false]) w) ∨
    ∃ (i : Nat) (k : Int) (v : Value) (w' : World), left[i]? = some (k, v) ∧ (Instr.next (.pointer (some ⟨r, 0, none⟩)) false ty).run P w = .ok (.tuple #[.bool true, .int .i64 k, v]) w' ∧ RangeI w' b r m (left.eraseIdx i) ∧ w.grownBy w' (some r) ∧ w'.heap.size = w.heap.size ∧
      (Instr.entry (.pointer (some ⟨r, 0, none⟩))).run P w' = .ok (.tuple #[.int .i64 k, v]) w' := by
  obtain ⟨es, clock, since, seen, c0, h1, h2, h3, h4, h5, h6, h7, h8, h9⟩ := h
  have hne : r ≠ b := by intro e; rw [e, h1] at h5; cases h5
  rcases run_next_at (P := P) w ty r b since c0 seen es clock h5 h1 h6 h7 with ⟨h0, hrun⟩ | ⟨e, he, w1, hal, hrun⟩
  · refine .inl ⟨?_, hrun⟩
    have : (leftOf es seen).toList = [] := by simpa using h0
    rw [this] at h9
    simpa using h9.symm
  · obtain ⟨j, hj⟩ := List.getElem?_of_mem he
    have h10 := congrArg (fun l => l[j]?) h9
    simp only [List.getElem?_map, hj, Option.map_some] at h10
    obtain ⟨p, hp, hpe⟩ := Option.map_eq_some_iff.1 h10.symm
    obtain ⟨k, v⟩ := p
    simp only [Prod.mk.injEq] at hpe
    obtain ⟨ek, ev⟩ := hpe
    have hem : e ∈ es.toList := by
      have := he
      simp only [leftOf, Array.toList_filter, List.mem_filter] at this
      exact this.1
    have hr1 : w1.heap[r]? = some (.mapIter (some b) since seen c0) := by rcases hal with rfl | rfl <;> exact h5
    have hb1 : w1.heap[b]? = some (.map es clock) := by rcases hal with rfl | rfl <;> exact h1
    have hset := MapKept.heap_set (o' := .mapIter (some b) since (seen.push e.born) clock) hr1
    have hb' : (setBlock w1 r (.mapIter (some b) since (seen.push e.born) clock)).heap[b]? = some (.map es clock) := (hset.2 b (fun e1 => hne e1.symm)).trans hb1
    have hpw : (leftOf es seen).toList.Pairwise (fun x y => x.born ≠ y.born) := by
      simp only [leftOf, Array.toList_filter]
      exact h3.filter _
    rw [← ek, ← ev] at hrun
    refine .inr ⟨j, k, v, _, hp, hrun, ⟨es, clock, since, seen.push e.born, clock, hb', h2, h3, h4, hset.1, h6, h8, h8, ?_⟩, ?_, ?_, ?_⟩
    · have : (leftOf es (seen.push e.born)).toList = (leftOf es seen).toList.eraseIdx j := by
        rw [← filter_erase _ _ _ hpw hj]
        simp only [leftOf, Array.toList_filter, List.filter_filter]
        congr 1
        funext x
        rw [contains_push]
        cases seen.contains x.born <;> cases (x.born == e.born) <;> rfl
      rw [this, ← erase_map, h9, erase_map]
    · rcases hal with rfl | rfl <;> exact ⟨rfl, rfl, rfl, by simp [setBlock], fun i _ hi => hset.2 i (fun e1 => hi (by rw [e1]))⟩
    · rcases hal with rfl | rfl <;> simp [setBlock]
    · rw [ek, ev]
      refine run_entry_at _ r b since seen es clock e hset.1 hb' hem ?_
      rw [List.Nodup, List.pairwise_map]
      exact h3
end

section
variable {P : Program} {w : World} {ops : Array Oper} {rest : List Oper} {o : Oper} {a : Act} {Q : Exit → Act → World → Prop}
theorem wpList_rangeI (hg : o.guard = none) (mo : Operand) (t : TypeId) (hop : o.op = Op.range t mo) {kt et : TypeId} (ht : P.underlying t = some (.map kt et)) {b : Nat} {m : List (Int × Value)} (hm : MapI w b m) (hmo : a.eval mo = .map (some b))
    (h : ∀ w', RangeI w' b w.heap.size m m → w.grownBy w' none → w'.heap.size = w.heap.size + 1 → wpList P ops Q rest (a.put o.dst (.pointer (some ⟨w.heap.size, 0, none⟩))) w') : wpList P ops Q (o :: rest) a w :=
  wpList_plain hg fun _ hK => by
    obtain ⟨w', hrun, h1, h2, h3⟩ := hm.range (P := P) ht
    unfold Oper.wp
    simp [execOp, hop, hmo, hrun, Result.andThen]
    exact hK _ _ (h w' h1 h2 h3)
theorem wpList_nextI (hg : o.guard = none) (it : Operand) (hop : o.op = Op.next it false) {b r : Nat} {m left : List (Int × Value)} (hm : RangeI w b r m left) (hit : a.eval it = .pointer (some ⟨r, 0, none⟩))
    (hDone : left = [] → wpList P ops Q rest (a.put o.dst (.tuple #[.bool false])) w)
    (hMore : ∀ (i : Nat) (k : Int) (v : Value) (w' : World), left[i]? = some (k, v) → RangeI w' b r m (left.eraseIdx i) → w.grownBy w' (some r) → w'.heap.size = w.heap.size → (Instr.entry (.pointer (some ⟨r, 0, none⟩))).run P w' = .ok (.tuple #[.int .i64 k, v]) w' →
      wpList P ops Q rest (a.put o.dst (.tuple #[.bool true, .int .i64 k, v])) w') : wpList P ops Q (o :: rest) a w :=
  wpList_plain hg fun _ hK => by
    rcases hm.next (P := P) o.type with ⟨h0, hrun⟩ | ⟨i, k, v, w', hi, hrun, h1, h2, h3, h4⟩
    · unfold Oper.wp
      simp [execOp, hop, hit, hrun, Result.andThen]
      exact hK _ _ (hDone h0)
    · unfold Oper.wp
      simp [execOp, hop, hit, hrun, Result.andThen]
      exact hK _ _ (hMore i k v w' hi h1 h2 h3 h4)
end

section
variable {P : Program} {w : World} {t kt et : TypeId} {b : Nat} {m : List (Int × Value)}
theorem run_deleteI (ht : P.underlying t = some (.map kt et)) (hk : P.underlying kt = some (.int .i64)) (hm : MapI w b m) (k : Int) (ty : TypeId) :
    ∃ w', (Builtin.delete_ #[t, kt] ty #[.map (some b), .int .i64 k]).run P w = .ok (.tuple #[]) w' ∧ MapI w' b (delI m k) ∧ w.grownBy w' (some b) := by
  obtain ⟨es, clock, hb, he, hd, hc⟩ := hm
  have hg : ∀ o : Obj, w.grownBy { w with heap := w.heap.setIfInBounds b o } (some b) := fun o => ⟨rfl, rfl, rfl, by simp, fun i _ hi => by
    rw [Array.getElem?_setIfInBounds, if_neg (fun e => hi (by rw [e]))]⟩
  have hs : ∀ o : Obj, ({ w with heap := w.heap.setIfInBounds b o } : World).heap[b]? = some o := fun o => by
    have hlt := (Array.getElem?_eq_some_iff.1 hb).1
    rw [Array.getElem?_setIfInBounds, if_pos rfl, if_pos hlt]
  rcases findNow_get es.toList m k 0 he with ⟨h1, h2⟩ | ⟨j, v0, h1, hj, _, hdel, h2⟩
  · refine ⟨{ w with heap := w.heap.setIfInBounds b (.map es clock) }, ?_, ⟨es, clock, hs _, ?_, hd, hc⟩, hg _⟩
    · simp [Builtin.delete_, Instr.findKey, run_underlying ht, run_underlying hk, getObj, setObj, Sem.run, hb, run_checkKey hk, h2]
    · have hp : delI m k = m := by
        clear he h2 hd hc hb hg hs
        induction m with
        | nil => rfl
        | cons p r ih =>
          unfold getI at h1
          split at h1
          · cases h1
          · rename_i hne; simp [delI, hne, ih h1]
      rw [hp]; exact he
  · simp only [Nat.zero_add] at h2
    refine ⟨{ w with heap := w.heap.setIfInBounds b (.map (es.eraseIdxIfInBounds j) clock) }, ?_, ⟨_, _, hs _, ?_, ?_, ?_⟩, hg _⟩
    · simp [Builtin.delete_, Instr.findKey, run_underlying ht, run_underlying hk, getObj, setObj, Sem.run, hb, run_checkKey hk, h2]
    · rw [hdel, Array.toList_eraseIdxIfInBounds, ← erase_map, he, erase_map]
    · rw [Array.toList_eraseIdxIfInBounds]
      exact hd.sublist (List.eraseIdx_sublist _ _)
    · intro e hmem
      rw [Array.toList_eraseIdxIfInBounds] at hmem
      exact hc e (List.mem_of_mem_eraseIdx hmem)
theorem wpList_deleteI {ops : Array Oper} {rest : List Oper} {o : Oper} {a : Act} {Q : Exit → Act → World → Prop} (hg : o.guard = none) (mo x : Operand) (t : TypeId) (hop : o.op = Op.call { callee := Callee.builtin Builtin.delete, args := #[mo, x], argTypes := #[t, kt] })
    (ht : P.underlying t = some (.map kt et)) (hk : P.underlying kt = some (.int .i64)) (hm : MapI w b m) {k : Int} (hmo : a.eval mo = .map (some b)) (hx : a.eval x = .int .i64 k)
    (h : ∀ w', MapI w' b (delI m k) → w.grownBy w' (some b) → wpList P ops Q rest (a.put o.dst (.tuple #[])) w') : wpList P ops Q (o :: rest) a w :=
  wpList_plain hg fun _ hK => by
    obtain ⟨w', hrun, h1, h2⟩ := run_deleteI (P := P) ht hk hm k o.type
    unfold Oper.wp
    simp [execOp, hop, resolve, invoke, builtin, hmo, hx, hrun, Result.andThen]
    exact hK _ _ (h w' h1 h2)
end
end Go.Proofs.YtbccnafdfeempaaGreatDoor


namespace Go.Proofs.YtbccnafdfeempaaGreatDoor
open Go.RowKit

/-- A runner's state: the table; which op a deal waits with; what stands behind it; who is aborted; what was told; the victims. -/
structure RSt where
  T : LTab
  wt : Int → Option HOp
  bh : Int → List HOp
  ab : Int → Bool
  told : List HOp
  vic : List Int
def updR {α : Type} (f : Int → α) (k : Int) (v : α) : Int → α := fun x => if x = k then v else f x
theorem updR_same {α : Type} (f : Int → α) (k : Int) (v : α) : updR f k v k = v := by unfold updR; rw [if_pos rfl]
theorem updR_ne {α : Type} {f : Int → α} {k x : Int} {v : α} (h : x ≠ k) : updR f k v x = f x := by unfold updR; rw [if_neg h]
/-- For whom a deal waits. -/
def whomF (T : LTab) (tx : Int) : List Int := match T.W.find? (ofTx tx) with
  | none => []
  | some l => forF T l
/-- One round of the search for a ring: none if it is found. -/
def rngIn (tx : Int) : List Int → List Int → List Int → Option (List Int × List Int)
  | sn, row, [] => some (sn, row)
  | sn, row, d :: t => if d = tx then none else if d ∈ sn then rngIn tx sn row t else rngIn tx (sn ++ [d]) (row ++ [d]) t
def rngGo (T : LTab) (tx : Int) : Nat → List Int → List Int → Bool
  | 0, _, _ => false
  | _ + 1, _, [] => false
  | n + 1, sn, x :: r => match rngIn tx sn (x :: r) (whomF T x) with
    | none => true
    | some q => rngGo T tx n q.1 q.2.tail
def rngF (T : LTab) (tx : Int) : Bool := rngGo T tx 8 [] [tx]
theorem rngIn_step {tx : Int} {sn row l t : List Int} {d : Int} (h : l = d :: t) : rngIn tx sn row l = if d = tx then none else if d ∈ sn then rngIn tx sn row t else rngIn tx (sn ++ [d]) (row ++ [d]) t := by rw [h, rngIn]

inductive Job where
  | free (tx : Int)
  | go (l : List HOp)
  | drain (tx : Int)
  | abort (tx : Int)
  | avoid (tx : Int)
  | doo (o : HOp)
def RSt.tells (s : RSt) (o : HOp) : RSt := { s with told := s.told ++ [o] }
def RSt.aborts (s : RSt) (tx : Int) : RSt := ⟨s.T, updR s.wt tx none, updR s.bh tx [], updR s.ab tx true, s.told ++ [⟨tx, 4, 0⟩], s.vic ++ [tx]⟩
/-- What a runner does, with so much fuel; none: it did not come to an end, or a fault came. -/
def runJ (way : Int) : Nat → Job → RSt → Option RSt
  | 0, _, _ => none
  | n + 1, .free tx, s => if txB tx = false then none else runJ way n (.go (freeS s.T tx).out) { s with T := freeT s.T tx }
  | _ + 1, .go [], s => some s
  | n + 1, .go (x :: t), s => match s.wt x.tx with
    | none => runJ way n (.go t) s
    | some o => match runJ way n (.drain x.tx) { s with wt := updR s.wt x.tx none, told := s.told ++ [o] } with
      | none => none
      | some s' => runJ way n (.go t) s'
  | n + 1, .drain tx, s => match s.bh tx with
    | [] => some s
    | o :: t => if (s.wt tx).isSome then some s else match runJ way n (.doo o) { s with bh := updR s.bh tx t } with
      | none => none
      | some s' => runJ way n (.drain tx) s'
  | n + 1, .abort tx, s => runJ way n (.free tx) (s.aborts tx)
  | n + 1, .avoid tx, s =>
    if way = 0 then (if rngF s.T tx = true then runJ way n (.abort tx) s else some s)
    else if way = 1 then match whomF s.T tx with
      | [] => some s
      | d :: _ => if tx < d then some s else runJ way n (.abort tx) s
    else match (whomF s.T tx).find? (fun d => decide (tx < d)) with
      | none => some s
      | some d => match runJ way n (.abort d) s with
        | none => none
        | some s' => runJ way n (.avoid tx) s'
  | n + 1, .doo o, s =>
    if endB o = true then runJ way n (.free o.tx) (s.tells o)
    else if (askF s.T (lockOf o)).2.1 ≠ 0 then none
    else if (askF s.T (lockOf o)).1 = true then some { s.tells o with T := (askF s.T (lockOf o)).2.2 }
    else runJ way n (.avoid o.tx) { s with T := (askF s.T (lockOf o)).2.2, wt := updR s.wt o.tx (some o) }
/-- Ops, one after the other. -/
def runL (way : Int) (N : Nat) : List HOp → RSt → Option RSt
  | [], s => some s
  | o :: t, s =>
    if s.ab o.tx = true then runL way N t s
    else if (s.wt o.tx).isSome then runL way N t { s with bh := updR s.bh o.tx (s.bh o.tx ++ [o]) }
    else match runJ way N (.doo o) s with
      | none => none
      | some s' => runL way N t s'
def rst0 : RSt := ⟨⟨[], []⟩, fun _ => none, fun _ => [], fun _ => false, [], []⟩

/-- More is told, never less. -/
theorem runJ_told {way : Int} : ∀ (n : Nat) (j : Job) (s s' : RSt), runJ way n j s = some s' → s.told.length ≤ s'.told.length ∧ s.vic.length ≤ s'.vic.length := by
  intro n
  induction n with
  | zero => intro j s s' h; cases j <;> simp [runJ] at h
  | succ n ih =>
    intro j s s' h
    cases j with
    | free tx =>
      unfold runJ at h
      split at h
      · cases h
      · have a := ih _ _ _ h; exact a
    | go l =>
      cases l with
      | nil => unfold runJ at h; injection h with h; subst h; exact ⟨Nat.le_refl _, Nat.le_refl _⟩
      | cons x t =>
        unfold runJ at h
        split at h
        · exact ih _ _ _ h
        · rename_i o ho
          split at h
          · cases h
          · rename_i s1 h1
            have a := ih _ _ _ h1
            have b := ih _ _ _ h
            simp only [List.length_append, List.length_singleton] at a
            omega
    | drain tx =>
      unfold runJ at h
      split at h
      · injection h with h; subst h; exact ⟨Nat.le_refl _, Nat.le_refl _⟩
      · split at h
        · injection h with h; subst h; exact ⟨Nat.le_refl _, Nat.le_refl _⟩
        · split at h
          · cases h
          · rename_i s1 h1
            have a := ih _ _ _ h1
            have b := ih _ _ _ h
            simp only at a
            omega
    | abort tx =>
      unfold runJ at h
      have a := ih _ _ _ h
      simp only [RSt.aborts, List.length_append, List.length_singleton] at a
      omega
    | avoid tx =>
      unfold runJ at h
      split at h
      · split at h
        · exact ih _ _ _ h
        · injection h with h; subst h; exact ⟨Nat.le_refl _, Nat.le_refl _⟩
      · split at h
        · split at h
          · injection h with h; subst h; exact ⟨Nat.le_refl _, Nat.le_refl _⟩
          · split at h
            · injection h with h; subst h; exact ⟨Nat.le_refl _, Nat.le_refl _⟩
            · exact ih _ _ _ h
        · split at h
          · injection h with h; subst h; exact ⟨Nat.le_refl _, Nat.le_refl _⟩
          · split at h
            · cases h
            · rename_i s1 h1
              have a := ih _ _ _ h1
              have b := ih _ _ _ h
              omega
    | doo o =>
      unfold runJ at h
      split at h
      · have a := ih _ _ _ h
        simp only [RSt.tells, List.length_append, List.length_singleton] at a
        omega
      · split at h
        · cases h
        · split at h
          · injection h with h; subst h; simp [RSt.tells]
          · have a := ih _ _ _ h; exact a
theorem runL_told {way : Int} {N : Nat} : ∀ (l : List HOp) (s s' : RSt), runL way N l s = some s' → s.told.length ≤ s'.told.length ∧ s.vic.length ≤ s'.vic.length
  | [], s, s', h => by unfold runL at h; injection h with h; subst h; exact ⟨Nat.le_refl _, Nat.le_refl _⟩
  | o :: t, s, s', h => by
    unfold runL at h
    split at h
    · exact runL_told t _ _ h
    · split at h
      · exact runL_told t { s with bh := updR s.bh o.tx (s.bh o.tx ++ [o]) } _ h
      · split at h
        · cases h
        · rename_i s1 h1
          have a := runJ_told _ _ _ _ h1
          have b := runL_told t _ _ h
          omega
theorem find_ofTx {W : List HOp} {tx : Int} {l : HOp} (h : W.find? (ofTx tx) = some l) : l ∈ W ∧ l.tx = tx := by
  refine ⟨List.mem_of_find?_eq_some h, ?_⟩
  have := List.find?_some h
  simpa [ofTx] using this
theorem len_nodup_six {l : List Int} (hn : l.Nodup) (hb : ∀ x ∈ l, 1 ≤ x ∧ x ≤ 6) : l.length ≤ 6 := by
  have h : l ⊆ [1, 2, 3, 4, 5, 6] := fun x hx => by have := hb x hx; simp; omega
  exact nodup_le hn h
theorem linv_waits {T : LTab} (I : LInv T) : T.W.length ≤ 6 := by
  have := len_nodup_six I.wtx fun x hx => by
    obtain ⟨l, hl, rfl⟩ := List.mem_map.1 hx
    obtain ⟨h1, h2, _⟩ := lright_get (I.rightW l hl)
    exact ⟨h1, h2⟩
  simpa using this
theorem linv_held {T : LTab} (I : LInv T) : T.H.length ≤ 36 := by
  have hn : (T.H.map fun x => 7 * x.tx + x.what).Nodup := by
    rw [List.Nodup, List.pairwise_map]
    refine (I.apart.imp_of_mem ?_)
    intro a b ha hb hab he
    obtain ⟨a1, a2, a3, a4, _⟩ := lright_get (I.rightH a ha)
    obtain ⟨b1, b2, b3, b4, _⟩ := lright_get (I.rightH b hb)
    exact hab.2 ⟨by omega, by omega⟩
  have h : (T.H.map fun x => 7 * x.tx + x.what) ⊆ ((List.range 36).map fun (k : Nat) => (7 * ((k : Int) / 6 + 1) + ((k : Int) % 6 + 1))) := by
    intro y hy
    obtain ⟨a, ha, rfl⟩ := List.mem_map.1 hy
    obtain ⟨a1, a2, a3, a4, _⟩ := lright_get (I.rightH a ha)
    refine List.mem_map.2 ⟨((a.tx - 1) * 6 + (a.what - 1)).toNat, List.mem_range.2 (by omega), by omega⟩
  have := nodup_le hn h
  simpa using this
theorem forF_rng {T : LTab} (I : LInv T) (l : HOp) {d : Int} (h : d ∈ forF T l) : 1 ≤ d ∧ d ≤ 6 := by
  unfold forF at h
  rw [mem_sortS] at h
  obtain ⟨x, hx, rfl⟩ := List.mem_map.1 h
  have hm := (List.mem_filter.1 hx).1
  rcases List.mem_append.1 hm with hm | hm
  · obtain ⟨a1, a2, _⟩ := lright_get (I.rightH x hm); exact ⟨a1, a2⟩
  · obtain ⟨a1, a2, _⟩ := lright_get (I.rightW x ((List.takeWhile_prefix _).subset hm)); exact ⟨a1, a2⟩
theorem whomF_rng {T : LTab} (I : LInv T) {tx d : Int} (h : d ∈ whomF T tx) : 1 ≤ d ∧ d ≤ 6 := by
  unfold whomF at h
  split at h
  · cases h
  · exact forF_rng I _ h
theorem forF_nodup (T : LTab) (l : HOp) : (forF T l).Nodup := by
  unfold forF
  exact List.Pairwise.imp (fun h e => by subst e; simp [ltI] at h) (up_sortS sloI _)
theorem whomF_len {T : LTab} (I : LInv T) (tx : Int) : (whomF T tx).length ≤ 6 := by
  refine len_nodup_six ?_ fun x hx => whomF_rng I hx
  unfold whomF
  split
  · exact List.nodup_nil
  · exact forF_nodup _ _
theorem freeOutR : ∀ (r : List HOp) (s : FSt), (r.foldl freeStep s).out.length ≤ s.out.length + r.length
  | [], _ => by simp
  | x :: r, s => by
    have h1 := freeOutR r (freeStep s x)
    have h2 : (freeStep s x).out.length ≤ s.out.length + 1 := by
      unfold freeStep
      split
      · simp
      · simp
    simp only [List.foldl_cons, List.length_cons]
    omega
theorem freeOutL (T : LTab) (tx : Int) : (freeS T tx).out.length ≤ T.W.length := by
  have h1 := freeOutR (T.W.filter (notTx tx)) ⟨T.H.filter (notTx tx), [], []⟩
  have h3 := List.length_filter_le (notTx tx) T.W
  unfold freeS
  simp only [List.length_nil] at h1
  omega
/-- What stands behind grows less. -/
theorem runJ_bh {way : Int} : ∀ (n : Nat) (j : Job) (s s' : RSt), runJ way n j s = some s' → ∀ x, (s'.bh x).length ≤ (s.bh x).length := by
  intro n
  induction n with
  | zero => intro j s s' h; cases j <;> simp [runJ] at h
  | succ n ih =>
    intro j s s' h x
    cases j with
    | free tx =>
      unfold runJ at h
      split at h
      · cases h
      · have a := ih _ _ _ h x; exact a
    | go l =>
      cases l with
      | nil => unfold runJ at h; injection h with h; subst h; exact Nat.le_refl _
      | cons y t =>
        unfold runJ at h
        split at h
        · exact ih _ _ _ h x
        · rename_i o ho
          split at h
          · cases h
          · rename_i s1 h1
            have a := ih _ _ _ h1 x
            have b := ih _ _ _ h x
            simp only at a
            omega
    | drain tx =>
      unfold runJ at h
      split at h
      · injection h with h; subst h; exact Nat.le_refl _
      · rename_i o t hb
        split at h
        · injection h with h; subst h; exact Nat.le_refl _
        · split at h
          · cases h
          · rename_i s1 h1
            have a := ih _ _ _ h1 x
            have b := ih _ _ _ h x
            simp only at a
            have c : (updR s.bh tx t x).length ≤ (s.bh x).length := by
              unfold updR
              split
              · rename_i e; rw [e, hb]; simp
              · exact Nat.le_refl _
            omega
    | abort tx =>
      unfold runJ at h
      have a := ih _ _ _ h x
      have c : ((s.aborts tx).bh x).length ≤ (s.bh x).length := by
        simp only [RSt.aborts, updR]
        split
        · simp
        · exact Nat.le_refl _
      omega
    | avoid tx =>
      unfold runJ at h
      split at h
      · split at h
        · exact ih _ _ _ h x
        · injection h with h; subst h; exact Nat.le_refl _
      · split at h
        · split at h
          · injection h with h; subst h; exact Nat.le_refl _
          · split at h
            · injection h with h; subst h; exact Nat.le_refl _
            · exact ih _ _ _ h x
        · split at h
          · injection h with h; subst h; exact Nat.le_refl _
          · split at h
            · cases h
            · rename_i s1 h1
              have a := ih _ _ _ h1 x
              have b := ih _ _ _ h x
              omega
    | doo o =>
      unfold runJ at h
      split at h
      · have a := ih _ _ _ h x; exact a
      · split at h
        · cases h
        · split at h
          · injection h with h; subst h; exact Nat.le_refl _
          · have a := ih _ _ _ h x; exact a
end Go.Proofs.YtbccnafdfeempaaGreatDoor


namespace Go.Proofs.YtbccnafdfeempaaGreatDoor
open Go.RowKit

theorem free_calm (H : List HOp) (tx : Int) : freeS ⟨H, []⟩ tx = ⟨H.filter (notTx tx), [], []⟩ := rfl
/-- A run in which none waits tells what was asked. -/
theorem calm_run {way : Int} {N : Nat} (hN : 3 ≤ N) : ∀ (h H : List HOp) (s : RSt), s.T = ⟨H, []⟩ → (∀ x, s.wt x = none) → (∀ x, s.ab x = false) → (∀ o ∈ h, txB o.tx = true) → calmGo H h → ∃ s', runL way N h s = some s' ∧ s'.told = s.told ++ h ∧ s'.vic = s.vic := by
  intro h
  induction h with
  | nil => intro H s _ _ _ _ _; exact ⟨s, rfl, by simp, rfl⟩
  | cons o t ih =>
    intro H s hT hw ha hx hc
    obtain ⟨h1, h2⟩ := hc
    obtain ⟨M, rfl⟩ : ∃ M, N = M + 1 + 1 + 1 := ⟨N - 3, by omega⟩
    have hxo := hx o (List.mem_cons_self ..)
    have key : ∃ s1, runJ way (M + 1 + 1 + 1) (.doo o) s = some s1 ∧ s1.T = ⟨nextH H o, []⟩ ∧ s1.wt = s.wt ∧ s1.ab = s.ab ∧ s1.told = s.told ++ [o] ∧ s1.vic = s.vic := by
      unfold runJ
      by_cases he : endB o = true
      · rw [if_pos he]
        unfold runJ
        rw [if_neg (by rw [hxo]; simp)]
        have e1 : (s.tells o).T = ⟨H, []⟩ := hT
        rw [e1, free_calm]
        unfold runJ
        refine ⟨_, rfl, ?_, rfl, rfl, rfl, rfl⟩
        show freeT ⟨H, []⟩ o.tx = _
        unfold freeT nextH
        rw [free_calm, if_pos he]
      · rw [if_neg he]
        rcases h1 with h1 | ⟨_, h1⟩
        · exact absurd h1 he
        · rw [hT, h1]
          exact ⟨_, rfl, rfl, rfl, rfl, rfl, rfl⟩
    obtain ⟨s1, k1, k2, k3, k4, k5, k6⟩ := key
    obtain ⟨s', r1, r2, r3⟩ := ih (nextH H o) s1 k2 (fun x => by rw [k3]; exact hw x) (fun x => by rw [k4]; exact ha x) (fun x hm => hx x (List.mem_cons_of_mem _ hm)) h2
    refine ⟨s', ?_, by rw [r2, k5]; simp, r3.trans k6⟩
    unfold runL
    rw [if_neg (by rw [ha]; simp), if_neg (by rw [hw]; simp), k1]
    exact r1
theorem okH_txB {h : List HOp} (hk : okH h) : ∀ o ∈ h, txB o.tx = true := by
  intro o ho
  have := okH_right hk o ho
  unfold rightB at this
  simp only [Bool.and_eq_true] at this
  exact this.1.1
theorem serial_run {a b : Int} (ha : 1 ≤ a ∧ a ≤ 6) (hb : 1 ≤ b ∧ b ≤ 6) {q : List Int} (hq : OrdOk q) (way : Int) : ∃ s', runL way 3 (piecesH a b q) rst0 = some s' ∧ s'.told = piecesH a b q ∧ s'.vic = [] := by
  obtain ⟨s', h1, h2, h3⟩ := calm_run (way := way) (N := 3) (Nat.le_refl _) (piecesH a b q) [] rst0 rfl (fun _ => rfl) (fun _ => rfl) (okH_txB (pieces_ok ha hb hq)) (calm_pieces ha hb (fun t ht => hq.2 t ht))
  exact ⟨s', h1, by simpa [rst0] using h2, h3⟩
end Go.Proofs.YtbccnafdfeempaaGreatDoor


/-
  MAPS keyed by int: entries of a kind; delete; a range over one.
-/
import Derived.Test.YtaaahfbcpgdoiaaGreatDoorQ20
import Derived.Maps.RangeWalk

namespace Go.Proofs.YtaaahfbcpgdoiaaGreatDoor
open Go.RowKit
open Go.ChangeMaps (setBlock)

/-! ### Entries of a kind. -/
section
variable {α : Type}
def getL : List (Int × α) → Int → Option α
  | [], _ => none
  | p :: t, k => if p.1 = k then some p.2 else getL t k
def putL : List (Int × α) → Int → α → List (Int × α)
  | [], k, v => [(k, v)]
  | p :: t, k, v => if p.1 = k then (k, v) :: t else p :: putL t k v
def delL : List (Int × α) → Int → List (Int × α)
  | [], _ => []
  | p :: t, k => if p.1 = k then t else p :: delL t k
def mvf (f : α → Value) (m : List (Int × α)) : List (Int × Value) := m.map fun p => (p.1, f p.2)
theorem mvf_at {f : α → Value} {m : List (Int × α)} {i : Nat} {k : Int} {v : Value} (h : (mvf f m)[i]? = some (k, v)) : ∃ a, m[i]? = some (k, a) ∧ v = f a := by
  simp only [mvf, List.getElem?_map, Option.map_eq_some_iff] at h
  obtain ⟨p, hp, he⟩ := h
  simp only [Prod.mk.injEq] at he
  exact ⟨p.2, by rw [hp, ← he.1], he.2.symm⟩
theorem mvf_length (f : α → Value) (m : List (Int × α)) : (mvf f m).length = m.length := by simp [mvf]
theorem getI_mvf (f : α → Value) (m : List (Int × α)) (k : Int) : getI (mvf f m) k = (getL m k).map f := by
  induction m with
  | nil => rfl
  | cons p t ih =>
    show (if p.1 = k then some (f p.2) else getI (mvf f t) k) = (if p.1 = k then some p.2 else getL t k).map f
    split
    · rfl
    · exact ih
theorem putI_mvf (f : α → Value) (m : List (Int × α)) (k : Int) (a : α) : putI (mvf f m) k (f a) = mvf f (putL m k a) := by
  induction m with
  | nil => rfl
  | cons p t ih =>
    show (if p.1 = k then (k, f a) :: mvf f t else (p.1, f p.2) :: putI (mvf f t) k (f a)) = mvf f (if p.1 = k then (k, a) :: t else p :: putL t k a)
    split
    · rfl
    · rw [ih]; rfl
theorem delI_mvf (f : α → Value) (m : List (Int × α)) (k : Int) : delI (mvf f m) k = mvf f (delL m k) := by
  induction m with
  | nil => rfl
  | cons p t ih =>
    show (if p.1 = k then mvf f t else (p.1, f p.2) :: delI (mvf f t) k) = mvf f (if p.1 = k then t else p :: delL t k)
    split
    · rfl
    · rw [ih]; rfl
end

/-! ### A range. -/
theorem erase_map {α β : Type} (f : α → β) : ∀ (l : List α) (i : Nat), (l.map f).eraseIdx i = (l.eraseIdx i).map f
  | [], _ => rfl
  | _ :: _, 0 => rfl
  | a :: t, i + 1 => by simp [erase_map f t i]
theorem mvf_erase {α : Type} (f : α → Value) (m : List (Int × α)) (i : Nat) : (mvf f m).eraseIdx i = mvf f (m.eraseIdx i) := erase_map _ _ _
def pairV (e : MapEntry) : Value × Value := (e.key, e.val)
def RangeI (w : World) (b r : Nat) (m left : List (Int × Value)) : Prop :=
  ∃ es clock since seen c0, w.heap[b]? = some (.map es clock) ∧ es.toList.map (fun e => (e.key, e.val)) = m.map (fun p => (Value.int .i64 p.1, p.2)) ∧ es.toList.Pairwise (fun x y => x.born ≠ y.born) ∧ (∀ e ∈ es.toList, e.born < clock) ∧
    w.heap[r]? = some (.mapIter (some b) since seen c0) ∧ (∀ x ∈ es.toList, x.born < since) ∧ since ≤ c0 ∧ since ≤ clock ∧ (leftOf es seen).toList.map (fun e => (e.key, e.val)) = left.map (fun p => (Value.int .i64 p.1, p.2))
theorem filter_erase : ∀ (L : List MapEntry) (j : Nat) (e : MapEntry), L.Pairwise (fun x y => x.born ≠ y.born) → L[j]? = some e → L.filter (fun x => !(x.born == e.born)) = L.eraseIdx j
  | [], j, e, _, h => by simp at h
  | a :: t, 0, e, hp, h => by
    obtain rfl : a = e := by simpa using h
    rw [List.filter_cons_of_neg (by simp)]
    rw [List.eraseIdx_cons_zero, List.filter_eq_self]
    intro x hx
    have := (List.pairwise_cons.1 hp).1 x hx
    simp; exact fun h => this h.symm
  | a :: t, j + 1, e, hp, h => by
    have h1 : t[j]? = some e := by simpa using h
    have h2 := (List.pairwise_cons.1 hp).1 e (List.mem_of_getElem? h1)
    rw [List.filter_cons_of_pos (by simpa using h2), filter_erase t j e (List.pairwise_cons.1 hp).2 h1]
    rfl
section
variable {w w' : World} {b r : Nat} {m left : List (Int × Value)}
theorem RangeI.mapI (h : RangeI w b r m left) : MapI w b m := by
  obtain ⟨es, clock, _, _, _, h1, h2, h3, h4, _⟩ := h
  exact ⟨es, clock, h1, h2, h3, h4⟩
theorem RangeI.lt (h : RangeI w b r m left) : r < w.heap.size := by
  obtain ⟨es, clock, _, _, _, _, _, _, _, h5, _⟩ := h
  exact (Array.getElem?_eq_some_iff.1 h5).1
theorem RangeI.kept (h : RangeI w b r m left) (hb : w'.heap[b]? = w.heap[b]?) (hr : w'.heap[r]? = w.heap[r]?) : RangeI w' b r m left := by
  obtain ⟨es, clock, since, seen, c0, h1, h2, h3, h4, h5, h6⟩ := h
  exact ⟨es, clock, since, seen, c0, hb.trans h1, h2, h3, h4, hr.trans h5, h6⟩
theorem RangeI.alloc (h : RangeI w b r m left) (o : Obj) : RangeI (w.alloc o) b r m left := h.kept (Below.heap_alloc w o b h.mapI.lt) (Below.heap_alloc w o r h.lt)
theorem RangeI.left_eq (h : RangeI w b r m left) : w.rangeLeft b r = left.length := by
  obtain ⟨es, clock, since, seen, c0, h1, _, _, _, h5, _, _, _, h9⟩ := h
  simp only [World.rangeLeft, h1, h5]
  have := congrArg List.length h9
  simpa using this
theorem MapI.range {P : Program} {t kt et : TypeId} (h : MapI w b m) (ht : P.underlying t = some (.map kt et)) :
    ∃ w', (Instr.range t (.map (some b))).run P w = .ok (.pointer (some ⟨w.heap.size, 0, none⟩)) w' ∧ RangeI w' b w.heap.size m m ∧ w.grownBy w' none ∧ w'.heap.size = w.heap.size + 1 := by
  have hlt := h.lt
  obtain ⟨es, clock, h1, h2, h3, h4⟩ := h
  refine ⟨_, run_range_map w t kt et b es clock ht h1, ⟨es, clock, clock, #[], clock, (Below.heap_alloc w _ b hlt).trans h1, h2, h3, h4, heap_alloc_new w _, h4, Nat.le_refl _, Nat.le_refl _, ?_⟩, World.grownBy_alloc w _ none, by simp⟩
  have : (leftOf es #[]).toList = es.toList := by
    simp only [leftOf, Array.toList_filter]
    exact List.filter_eq_self.2 fun x _ => by simp
  rw [this]; exact h2
theorem RangeI.next {P : Program} (h : RangeI w b r m left) (ty : TypeId) :
    (left = [] ∧ (Instr.next (.pointer (some ⟨r, 0, none⟩)) false ty).run P w = .ok (.tuple #[.bool false]) w) ∨
    ∃ (i : Nat) (k : Int) (v : Value) (w' : World), left[i]? = some (k, v) ∧ (Instr.next (.pointer (some ⟨r, 0, none⟩)) false ty).run P w = .ok (.tuple #[.bool true, .int .i64 k, v]) w' ∧ RangeI w' b r m (left.eraseIdx i) ∧ w.grownBy w' (some r) ∧ w'.heap.size = w.heap.size ∧
      (Instr.entry (.pointer (some ⟨r, 0, none⟩))).run P w' = .ok (.tuple #[.int .i64 k, v]) w' := by
  obtain ⟨es, clock, since, seen, c0, h1, h2, h3, h4, h5, h6, h7, h8, h9⟩ := h
  have hne : r ≠ b := by intro e; rw [e, h1] at h5; cases h5
  rcases run_next_at (P := P) w ty r b since c0 seen es clock h5 h1 h6 h7 with ⟨h0, hrun⟩ | ⟨e, he, w1, hal, hrun⟩
  · refine .inl ⟨?_, hrun⟩
    have : (leftOf es seen).toList = [] := by simpa using h0
    rw [this] at h9
    simpa using h9.symm
  · obtain ⟨j, hj⟩ := List.getElem?_of_mem he
    have h10 := congrArg (fun l => l[j]?) h9
    simp only [List.getElem?_map, hj, Option.map_some] at h10
    obtain ⟨p, hp, hpe⟩ := Option.map_eq_some_iff.1 h10.symm
    obtain ⟨k, v⟩ := p
    simp only [Prod.mk.injEq] at hpe
    obtain ⟨ek, ev⟩ := hpe
    have hem : e ∈ es.toList := by
      have := he
      simp only [leftOf, Array.toList_filter, List.mem_filter] at this
      exact this.1
    have hr1 : w1.heap[r]? = some (.mapIter (some b) since seen c0) := by rcases hal with rfl | rfl <;> exact h5
    have hb1 : w1.heap[b]? = some (.map es clock) := by rcases hal with rfl | rfl <;> exact h1
    have hset := MapKept.heap_set (o' := .mapIter (some b) since (seen.push e.born) clock) hr1
    have hb' : (setBlock w1 r (.mapIter (some b) since (seen.push e.born) clock)).heap[b]? = some (.map es clock) := (hset.2 b (fun e1 => hne e1.symm)).trans hb1
    have hpw : (leftOf es seen).toList.Pairwise (fun x y => x.born ≠ y.born) := by
      simp only [leftOf, Array.toList_filter]
      exact h3.filter _
    rw [← ek, ← ev] at hrun
    refine .inr ⟨j, k, v, _, hp, hrun, ⟨es, clock, since, seen.push e.born, clock, hb', h2, h3, h4, hset.1, h6, h8, h8, ?_⟩, ?_, ?_, ?_⟩
    · have : (leftOf es (seen.push e.born)).toList = (leftOf es seen).toList.eraseIdx j := by
        rw [← filter_erase _ _ _ hpw hj]
        simp only [leftOf, Array.toList_filter, List.filter_filter]
        congr 1
        funext x
        rw [contains_push]
        cases seen.contains x.born <;> cases (x.born == e.born) <;> rfl
      rw [this, ← erase_map, h9, erase_map]
    · rcases hal with rfl | rfl <;> exact ⟨rfl, rfl, rfl, by simp [setBlock], fun i _ hi => hset.2 i (fun e1 => hi (by rw [e1]))⟩
    · rcases hal with rfl | rfl <;> simp [setBlock]
    · rw [ek, ev]
      refine run_entry_at _ r b since seen es clock e hset.1 hb' hem ?_
      rw [List.Nodup, List.pairwise_map]
      exact h3
end

section
variable {P : Program} {w : World} {ops : Array Oper} {rest : List Oper} {o : Oper} {a : Act} {Q : Exit → Act → World → Prop}
theorem wpList_rangeI (hg : o.guard = none) (mo : Operand) (t : TypeId) (hop : o.op = Op.range t mo) {kt et : TypeId} (ht : P.underlying t = some (.map kt et)) {b : Nat} {m : List (Int × Value)} (hm : MapI w b m) (hmo : a.eval mo = .map (some b))
    (h : ∀ w', RangeI w' b w.heap.size m m → w.grownBy w' none → w'.heap.size = w.heap.size + 1 → wpList P ops Q rest (a.put o.dst (.pointer (some ⟨w.heap.size, 0, none⟩))) w') : wpList P ops Q (o :: rest) a w :=
  wpList_plain hg fun _ hK => by
    obtain ⟨w', hrun, h1, h2, h3⟩ := hm.range (P := P) ht
    unfold Oper.wp
    simp [execOp, hop, hmo, hrun, Result.andThen]
    exact hK _ _ (h w' h1 h2 h3)
theorem wpList_nextI (hg : o.guard = none) (it : Operand) (hop : o.op = Op.next it false) {b r : Nat} {m left : List (Int × Value)} (hm : RangeI w b r m left) (hit : a.eval it = .pointer (some ⟨r, 0, none⟩))
    (hDone : left = [] → wpList P ops Q rest (a.put o.dst (.tuple #[.bool false])) w)
    (hMore : ∀ (i : Nat) (k : Int) (v : Value) (w' : World), left[i]? = some (k, v) → RangeI w' b r m (left.eraseIdx i) → w.grownBy w' (some r) → w'.heap.size = w.heap.size → (Instr.entry (.pointer (some ⟨r, 0, none⟩))).run P w' = .ok (.tuple #[.int .i64 k, v]) w' →
      wpList P ops Q rest (a.put o.dst (.tuple #[.bool true, .int .i64 k, v])) w') : wpList P ops Q (o :: rest) a w :=
  wpList_plain hg fun _ hK => by
    rcases hm.next (P := P) o.type with ⟨h0, hrun⟩ | ⟨i, k, v, w', hi, hrun, h1, h2, h3, h4⟩
    · unfold Oper.wp
      simp [execOp, hop, hit, hrun, Result.andThen]
      exact hK _ _ (hDone h0)
    · unfold Oper.wp
      simp [execOp, hop, hit, hrun, Result.andThen]
      exact hK _ _ (hMore i k v w' hi h1 h2 h3 h4)
end

section
variable {P : Program} {w : World} {t kt et : TypeId} {b : Nat} {m : List (Int × Value)}
theorem run_deleteI (ht : P.underlying t = some (.map kt et)) (hk : P.underlying kt = some (.int .i64)) (hm : MapI w b m) (k : Int) (ty : TypeId) :
    ∃ w', (Builtin.delete_ #[t, kt] ty #[.map (some b), .int .i64 k]).run P w = .ok (.tuple #[]) w' ∧ MapI w' b (delI m k) ∧ w.grownBy w' (some b) := by
  obtain ⟨es, clock, hb, he, hd, hc⟩ := hm
  have hg : ∀ o : Obj, w.grownBy { w with heap := w.heap.setIfInBounds b o } (some b) := fun o => ⟨rfl, rfl, rfl, by simp, fun i _ hi => by
    rw [Array.getElem?_setIfInBounds, if_neg (fun e => hi (by rw [e]))]⟩
  have hs : ∀ o : Obj, ({ w with heap := w.heap.setIfInBounds b o } : World).heap[b]? = some o := fun o => by
    have hlt := (Array.getElem?_eq_some_iff.1 hb).1
    rw [Array.getElem?_setIfInBounds, if_pos rfl, if_pos hlt]
  rcases findNow_get es.toList m k 0 he with ⟨h1, h2⟩ | ⟨j, v0, h1, hj, _, hdel, h2⟩
  · refine ⟨{ w with heap := w.heap.setIfInBounds b (.map es clock) }, ?_, ⟨es, clock, hs _, ?_, hd, hc⟩, hg _⟩
    · simp [Builtin.delete_, Instr.findKey, run_underlying ht, run_underlying hk, getObj, setObj, Sem.run, hb, run_checkKey hk, h2]
    · have hp : delI m k = m := by
        clear he h2 hd hc hb hg hs
        induction m with
        | nil => rfl
        | cons p r ih =>
          unfold getI at h1
          split at h1
          · cases h1
          · rename_i hne; simp [delI, hne, ih h1]
      rw [hp]; exact he
  · simp only [Nat.zero_add] at h2
    refine ⟨{ w with heap := w.heap.setIfInBounds b (.map (es.eraseIdxIfInBounds j) clock) }, ?_, ⟨_, _, hs _, ?_, ?_, ?_⟩, hg _⟩
    · simp [Builtin.delete_, Instr.findKey, run_underlying ht, run_underlying hk, getObj, setObj, Sem.run, hb, run_checkKey hk, h2]
    · rw [hdel, Array.toList_eraseIdxIfInBounds, ← erase_map, he, erase_map]
    · rw [Array.toList_eraseIdxIfInBounds]
      exact hd.sublist (List.eraseIdx_sublist _ _)
    · intro e hmem
      rw [Array.toList_eraseIdxIfInBounds] at hmem
      exact hc e (List.mem_of_mem_eraseIdx hmem)
theorem wpList_deleteI {ops : Array Oper} {rest : List Oper} {o : Oper} {a : Act} {Q : Exit → Act → World → Prop} (hg : o.guard = none) (mo x : Operand) (t : TypeId) (hop : o.op = Op.call { callee := Callee.builtin Builtin.delete, args := #[mo, x], argTypes := #[t, kt] })
    (ht : P.underlying t = some (.map kt et)) (hk : P.underlying kt = some (.int .i64)) (hm : MapI w b m) {k : Int} (hmo : a.eval mo = .map (some b)) (hx : a.eval x = .int .i64 k)
    (h : ∀ w', MapI w' b (delI m k) → w.grownBy w' (some b) → wpList P ops Q rest (a.put o.dst (.tuple #[])) w') : wpList P ops Q (o :: rest) a w :=
  wpList_plain hg fun _ hK => by
    obtain ⟨w', hrun, h1, h2⟩ := run_deleteI (P := P) ht hk hm k o.type
    unfold Oper.wp
    simp [execOp, hop, resolve, invoke, builtin, hmo, hx, hrun, Result.andThen]
    exact hK _ _ (h w' h1 h2)
end
end Go.Proofs.YtaaahfbcpgdoiaaGreatDoor

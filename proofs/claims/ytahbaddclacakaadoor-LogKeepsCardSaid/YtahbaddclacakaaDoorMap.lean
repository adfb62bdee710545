
/-
  MAPS keyed by int, that the call itself makes: what a block holds as a list of pairs; lookup, store, delete.
-/
import Derived.Test.YtahbaddclacakaaDoorApp
import Derived.Maps.OwnOps

namespace Go.Proofs.YtahbaddclacakaaDoor
open Go.RowKit

/-- Block b is a map keyed by int; its entries, in the order in which they came. -/
def MapI (w : World) (b : Nat) (m : List (Int × Value)) : Prop :=
  ∃ es clock, w.heap[b]? = some (.map es clock) ∧ es.toList.map (fun e => (e.key, e.val)) = m.map (fun p => (Value.int .i64 p.1, p.2)) ∧ es.toList.Pairwise (fun x y => x.born ≠ y.born) ∧ ∀ e ∈ es.toList, e.born < clock

def getI : List (Int × Value) → Int → Option Value
  | [], _ => none
  | p :: t, k => if p.1 = k then some p.2 else getI t k
def putI : List (Int × Value) → Int → Value → List (Int × Value)
  | [], k, v => [(k, v)]
  | p :: t, k, v => if p.1 = k then (k, v) :: t else p :: putI t k v
def delI : List (Int × Value) → Int → List (Int × Value)
  | [], _ => []
  | p :: t, k => if p.1 = k then t else p :: delI t k

section
variable {w w' : World} {b : Nat} {m : List (Int × Value)}
theorem MapI.new (w : World) : MapI (w.alloc (.map #[] 0)) w.heap.size [] := ⟨#[], 0, heap_alloc_new w _, rfl, by simp, by simp⟩
theorem MapI.lt (h : MapI w b m) : b < w.heap.size := by
  obtain ⟨es, clock, hb, _⟩ := h
  exact (Array.getElem?_eq_some_iff.1 hb).1
theorem MapI.kept (h : MapI w b m) (hb : w'.heap[b]? = w.heap[b]?) : MapI w' b m := by
  obtain ⟨es, clock, h1, h2⟩ := h
  exact ⟨es, clock, hb.trans h1, h2⟩
theorem MapI.alloc (h : MapI w b m) (o : Obj) : MapI (w.alloc o) b m := h.kept (Below.heap_alloc w o b h.lt)
theorem MapI.drew (h : MapI w b m) : MapI w.drew b m := h
theorem MapI.set (h : MapI w b m) {p : Addr} (hp : b ≠ p.block) (u : Value) : MapI (w.setCell p u) b m := h.kept (Below.heap_setCell w p u b hp)
theorem MapI.below {B : Nat} (h : MapI w b m) (hb : Below B w w') (hB : b < B) : MapI w' b m := h.kept (hb.block b hB)
theorem MapI.grown {row : Option Nat} (h : MapI w b m) (hg : w.grownBy w' row) (hr : ∀ k, row = some k → b ≠ k) : MapI w' b m := h.kept (hg.block b h.lt (fun e => hr b e.symm rfl))
end

theorem findNow_get : ∀ (es : List MapEntry) (m : List (Int × Value)) (k : Int) (i : Nat), es.map (fun e => (e.key, e.val)) = m.map (fun p => (Value.int .i64 p.1, p.2)) →
    (getI m k = none ∧ Instr.findNow (.int .i64) (.int .i64 k) es i = some none) ∨ ∃ (j : Nat) (v : Value), getI m k = some v ∧ m[j]? = some (k, v) ∧ (∀ v', putI m k v' = m.set j (k, v')) ∧ delI m k = m.eraseIdx j ∧ Instr.findNow (.int .i64) (.int .i64 k) es i = some (some (i + j, v))
  | [], m, k, i, h => by
    have : m = [] := by simpa using h.symm
    subst this
    exact .inl ⟨rfl, rfl⟩
  | e :: es, m, k, i, h => by
    cases m with
    | nil => simp at h
    | cons p t =>
      simp only [List.map_cons, List.cons.injEq, Prod.mk.injEq] at h
      obtain ⟨⟨hk, hv⟩, ht⟩ := h
      unfold Instr.findNow getI putI delI
      rw [hk]
      simp only [Instr.sameNow, if_true]
      by_cases hp : p.1 = k
      · right
        refine ⟨0, p.2, by simp [hp], by simp [← hp], fun v' => by simp [hp], by simp [hp], ?_⟩
        have : (k == p.1) = true := by simp [hp]
        simp [this, hv]
      · have hkp : (k == p.1) = false := by simp; exact fun h => hp h.symm
        simp only [hkp, if_neg hp]
        rcases findNow_get es t k (i + 1) ht with ⟨h1, h2⟩ | ⟨j, v, h1, h2, h3, h4, h5⟩
        · exact .inl ⟨h1, h2⟩
        · exact .inr ⟨j + 1, v, h1, by simpa using h2, fun v' => by simp [h3 v'], by simp [h4], by rw [h5]; congr 3; omega⟩

section
variable {P : Program} {w : World} {t kt et : TypeId} {b : Nat} {m : List (Int × Value)}
theorem run_checkKey (hk : P.underlying kt = some (.int .i64)) (e : Bool) (v : Value) : (Instr.checkKey e 10000 kt v).run P w = .ok () w := by
  show (Instr.checkKey e (9999 + 1) kt v).run P w = _
  unfold Instr.checkKey
  simp [run_underlying hk]

theorem run_lookupI (ht : P.underlying t = some (.map kt et)) (hk : P.underlying kt = some (.int .i64)) (hm : MapI w b m) (k : Int) {z : Value} (hz : (zeroValue et).run P w = .ok z w) (ok : Bool) :
    (Instr.lookup t (.map (some b)) (.int .i64 k) ok).run P w = .ok (if ok then .tuple #[(getI m k).getD z, .bool (getI m k).isSome] else (getI m k).getD z) w := by
  obtain ⟨es, clock, hb, he, _⟩ := hm
  rcases findNow_get es.toList m k 0 he with ⟨h1, h2⟩ | ⟨j, v, h1, _, _, _, h2⟩
  · cases ok <;> simp [Instr.lookup, Instr.findKey, run_underlying ht, run_underlying hk, getObj, Sem.run, hb, run_checkKey hk, h1, h2, hz]
  · cases ok <;> simp [Instr.lookup, Instr.findKey, run_underlying ht, run_underlying hk, getObj, Sem.run, hb, run_checkKey hk, h1, h2]
theorem run_updateI (ht : P.underlying t = some (.map kt et)) (hk : P.underlying kt = some (.int .i64)) (hm : MapI w b m) (k : Int) (v : Value) :
    ∃ w', (Instr.mapUpdate t (.map (some b)) (.int .i64 k) v).run P w = .ok () w' ∧ MapI w' b (putI m k v) ∧ w.grownBy w' (some b) := by
  obtain ⟨es, clock, hb, he, hd, hc⟩ := hm
  have hg : ∀ o : Obj, w.grownBy { w with heap := w.heap.setIfInBounds b o } (some b) := fun o => ⟨rfl, rfl, rfl, by simp, fun i _ hi => by
    rw [Array.getElem?_setIfInBounds, if_neg (fun e => hi (by rw [e]))]⟩
  have hs : ∀ o : Obj, ({ w with heap := w.heap.setIfInBounds b o } : World).heap[b]? = some o := fun o => by
    have hlt := (Array.getElem?_eq_some_iff.1 hb).1
    rw [Array.getElem?_setIfInBounds, if_pos rfl, if_pos hlt]
  rcases findNow_get es.toList m k 0 he with ⟨h1, h2⟩ | ⟨j, v0, h1, hj, hput, _, h2⟩
  · refine ⟨{ w with heap := w.heap.setIfInBounds b (.map (es.push { key := .int .i64 k, val := v, born := clock }) (clock + 1)) }, ?_, ⟨_, _, hs _, ?_, ?_, ?_⟩, hg _⟩
    · simp [Instr.mapUpdate, Instr.findKey, run_underlying ht, run_underlying hk, getObj, setObj, Sem.run, hb, run_checkKey hk, h2]
    · have hp : putI m k v = m ++ [(k, v)] := by
        clear he h2 hd hc hb hg hs
        induction m with
        | nil => rfl
        | cons p r ih =>
          unfold getI at h1
          split at h1
          · cases h1
          · rename_i hne; simp [putI, hne, ih h1]
      simp [hp, he]
    · rw [Array.toList_push, List.pairwise_append]
      exact ⟨hd, by simp, fun x hx y hy => by simp at hy; subst hy; have := hc x hx; simp; omega⟩
    · intro e hmem
      rw [Array.toList_push, List.mem_append] at hmem
      rcases hmem with h | h
      · have := hc e h; omega
      · simp at h; subst h; simp
  · have hjes : es[j]? = es.toList[j]? := by simp
    have hlen : es.toList.length = m.length := by have := congrArg List.length he; simpa using this
    have hjl : j < es.size := by have := (List.getElem?_eq_some_iff.1 hj).1; simp at hlen; omega
    have hkey : (es[j]).key = .int .i64 k := by
      have h3 := congrArg (fun l => (l[j]?).map (·.1)) he
      simp only [List.getElem?_map, hj] at h3
      simpa [hjl] using h3
    refine ⟨{ w with heap := w.heap.setIfInBounds b (.map (es.modify j fun e => { e with key := .int .i64 k, val := v }) clock) }, ?_, ⟨_, _, hs _, ?_, ?_, ?_⟩, hg _⟩
    · have hst : (Instr.keyThatStays (.int .i64 k) (.int .i64 k)).run P w = .ok (.int .i64 k) w := by
        simp [Instr.keyThatStays, Instr.sameBits]
      simp only [Nat.zero_add] at h2
      simp [Instr.mapUpdate, Instr.findKey, run_underlying ht, run_underlying hk, getObj, setObj, Sem.run, hb, run_checkKey hk, h2, hjl, hkey, hst]
    · rw [hput v, Array.toList_modify]
      apply List.ext_getElem?
      intro i
      have h3 := congrArg (fun l => l[i]?) he
      simp only [List.getElem?_map] at h3
      simp only [List.getElem?_map, List.getElem?_modify, List.getElem?_set]
      by_cases hij : j = i
      · subst hij
        simp [hjl]
        have : j < m.length := (List.getElem?_eq_some_iff.1 hj).1
        simp [this]
      · simp only [hij, if_false]
        simpa using h3
    · rw [Array.toList_modify]
      rw [List.pairwise_iff_getElem] at hd ⊢
      intro i1 i2 hi1 hi2 hlt
      simp only [List.length_modify] at hi1 hi2
      have := hd i1 i2 hi1 hi2 hlt
      simp only [List.getElem_modify]
      split <;> split <;> simpa using this
    · intro e hmem
      rw [Array.toList_modify] at hmem
      obtain ⟨i1, hi1, rfl⟩ := List.getElem_of_mem hmem
      simp only [List.length_modify] at hi1
      have := hc _ (List.getElem_mem hi1)
      rw [List.getElem_modify]
      split <;> simpa using this
end

section
variable {P : Program} {w : World} {ops : Array Oper} {rest : List Oper} {o : Oper} {a : Act} {Q : Exit → Act → World → Prop}
theorem wpList_lookupI (hg : o.guard = none) (mo x : Operand) (t : TypeId) (ok : Bool) (hop : o.op = Op.lookup t mo x ok) {kt et : TypeId} (ht : P.underlying t = some (.map kt et)) (hk : P.underlying kt = some (.int .i64)) {b : Nat} {m : List (Int × Value)}
    (hm : MapI w b m) {k : Int} {z : Value} (hz : ∀ w, (zeroValue et).run P w = .ok z w) (hmo : a.eval mo = .map (some b)) (hx : a.eval x = .int .i64 k)
    (h : wpList P ops Q rest (a.put o.dst (if ok then .tuple #[(getI m k).getD z, .bool (getI m k).isSome] else (getI m k).getD z)) w) : wpList P ops Q (o :: rest) a w :=
  wpList_plain hg fun _ hK => by
    have hrun := run_lookupI (P := P) ht hk hm k (hz w) ok
    unfold Oper.wp
    simp [execOp, hop, hmo, hx, hrun, Result.andThen]
    exact hK _ _ h
theorem wpList_updateI (hg : o.guard = none) (mo x v : Operand) (t : TypeId) (hop : o.op = Op.mapUpdate t mo x v) {kt et : TypeId} (ht : P.underlying t = some (.map kt et)) (hk : P.underlying kt = some (.int .i64)) {b : Nat} {m : List (Int × Value)}
    (hm : MapI w b m) {k : Int} {u : Value} (hmo : a.eval mo = .map (some b)) (hx : a.eval x = .int .i64 k) (hv : a.eval v = u)
    (h : ∀ w', MapI w' b (putI m k u) → w.grownBy w' (some b) → wpList P ops Q rest (a.put o.dst undef) w') : wpList P ops Q (o :: rest) a w :=
  wpList_plain hg fun _ hK => by
    obtain ⟨w', hrun, h1, h2⟩ := run_updateI (P := P) ht hk hm k u
    unfold Oper.wp
    simp [execOp, hop, hmo, hx, hv, hrun, Result.andThen]
    exact hK _ _ (h w' h1 h2)
end
end Go.Proofs.YtahbaddclacakaaDoor

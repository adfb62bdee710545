
/-
  MAPS keyed by int, that the call itself makes: what a block holds as a list of pairs; lookup, store, delete.
  CONTRACT of odds.names: each op's name (a map counts the ops of each deal).
  SETS: maps from keys of a kind (read by the kit's KeyLaw) to Bools, that the call itself makes: look-up and store.
-/
import Derived.Test.YtaaahfbcpgdoiaaGreatDoorQ0
import Derived.Maps.OwnOps
import Derived.Test.YtaaahfbcpgdoiaaGreatDoorQ9
import Derived.DeepKeys4

namespace Go.Proofs.YtaaahfbcpgdoiaaGreatDoor
open Go.RowKit

/-- Block b is a map keyed by int; its entries, in the order in which they came. -/
def MapI (w : World) (b : Nat) (m : List (Int × Value)) : Prop :=
  ∃ es clock, w.heap[b]? = some (.map es clock) ∧ es.toList.map (fun e => (e.key, e.val)) = m.map (fun p => (Value.int .i64 p.1, p.2)) ∧ es.toList.Pairwise (fun x y => x.born ≠ y.born) ∧ ∀ e ∈ es.toList, e.born < clock

def getI : List (Int × Value) → Int → Option Value
  | [], _ => none
  | p :: t, k => if p.1 = k then some p.2 else getI t k
def putI : List (Int × Value) → Int → Value → List (Int × Value)
  | [], k, v => [(k, v)]
  | p :: t, k, v => if p.1 = k then (k, v) :: t else p :: putI t k v
def delI : List (Int × Value) → Int → List (Int × Value)
  | [], _ => []
  | p :: t, k => if p.1 = k then t else p :: delI t k

section
variable {w w' : World} {b : Nat} {m : List (Int × Value)}
theorem MapI.new (w : World) : MapI (w.alloc (.map #[] 0)) w.heap.size [] := ⟨#[], 0, heap_alloc_new w _, rfl, by simp, by simp⟩
theorem MapI.lt (h : MapI w b m) : b < w.heap.size := by
  obtain ⟨es, clock, hb, _⟩ := h
  exact (Array.getElem?_eq_some_iff.1 hb).1
theorem MapI.kept (h : MapI w b m) (hb : w'.heap[b]? = w.heap[b]?) : MapI w' b m := by
  obtain ⟨es, clock, h1, h2⟩ := h
  exact ⟨es, clock, hb.trans h1, h2⟩
theorem MapI.alloc (h : MapI w b m) (o : Obj) : MapI (w.alloc o) b m := h.kept (Below.heap_alloc w o b h.lt)
theorem MapI.drew (h : MapI w b m) : MapI w.drew b m := h
theorem MapI.set (h : MapI w b m) {p : Addr} (hp : b ≠ p.block) (u : Value) : MapI (w.setCell p u) b m := h.kept (Below.heap_setCell w p u b hp)
theorem MapI.below {B : Nat} (h : MapI w b m) (hb : Below B w w') (hB : b < B) : MapI w' b m := h.kept (hb.block b hB)
theorem MapI.grown {row : Option Nat} (h : MapI w b m) (hg : w.grownBy w' row) (hr : ∀ k, row = some k → b ≠ k) : MapI w' b m := h.kept (hg.block b h.lt (fun e => hr b e.symm rfl))
end

theorem findNow_get : ∀ (es : List MapEntry) (m : List (Int × Value)) (k : Int) (i : Nat), es.map (fun e => (e.key, e.val)) = m.map (fun p => (Value.int .i64 p.1, p.2)) →
    (getI m k = none ∧ Instr.findNow (.int .i64) (.int .i64 k) es i = some none) ∨ ∃ (j : Nat) (v : Value), getI m k = some v ∧ m[j]? = some (k, v) ∧ (∀ v', putI m k v' = m.set j (k, v')) ∧ delI m k = m.eraseIdx j ∧ Instr.findNow (.int .i64) (.int .i64 k) es i = some (some (i + j, v))
  | [], m, k, i, h => by
    have : m = [] := by simpa using h.symm
    subst this
    exact .inl ⟨rfl, rfl⟩
  | e :: es, m, k, i, h => by
    cases m with
    | nil => simp at h
    | cons p t =>
      simp only [List.map_cons, List.cons.injEq, Prod.mk.injEq] at h
      obtain ⟨⟨hk, hv⟩, ht⟩ := h
      unfold Instr.findNow getI putI delI
      rw [hk]
      simp only [Instr.sameNow, if_true]
      by_cases hp : p.1 = k
      · right
        refine ⟨0, p.2, by simp [hp], by simp [← hp], fun v' => by simp [hp], by simp [hp], ?_⟩
        have : (k == p.1) = true := by simp [hp]
        simp [this, hv]
      · have hkp : (k == p.1) = false := by simp; exact fun h => hp h.symm
        simp only [hkp, if_neg hp]
        rcases findNow_get es t k (i + 1) ht with ⟨h1, h2⟩ | ⟨j, v, h1, h2, h3, h4, h5⟩
        · exact .inl ⟨h1, h2⟩
        · exact .inr ⟨j + 1, v, h1, by simpa using h2, fun v' => by simp [h3 v'], by simp [h4], by rw [h5]; congr 3; omega⟩

section
variable {P : Program} {w : World} {t kt et : TypeId} {b : Nat} {m : List (Int × Value)}
theorem run_checkKey (hk : P.underlying kt = some (.int .i64)) (e : Bool) (v : Value) : (Instr.checkKey e 10000 kt v).run P w = .ok () w := by
  show (Instr.checkKey e (9999 + 1) kt v).run P w = _
  unfold Instr.checkKey
  simp [run_underlying hk]

theorem run_lookupI (ht : P.underlying t = some (.map kt et)) (hk : P.underlying kt = some (.int .i64)) (hm : MapI w b m) (k : Int) {z : Value} (hz : (zeroValue et).run P w = .ok z w) (ok : Bool) :
    (Instr.lookup t (.map (some b)) (.int .i64 k) ok).run P w = .ok (if ok then .tuple #[(getI m k).getD z, .bool (getI m k).isSome] else (getI m k).getD z) w := by
  obtain ⟨es, clock, hb, he, _⟩ := hm
  rcases findNow_get es.toList m k 0 he with ⟨h1, h2⟩ | ⟨j, v, h1, _, _, _, h2⟩
  · cases ok <;> simp [Instr.lookup, Instr.findKey, run_underlying ht, run_underlying hk, getObj, Sem.run, hb, run_checkKey hk, h1, h2, hz]
  · cases ok <;> simp [Instr.lookup, Instr.findKey, run_underlying ht, run_underlying hk, getObj, Sem.run, hb, run_checkKey hk, h1, h2]
theorem run_updateI (ht : P.underlying t = some (.map kt et)) (hk : P.underlying kt = some (.int .i64)) (hm : MapI w b m) (k : Int) (v : Value) :
    ∃ w', (Instr.mapUpdate t (.map (some b)) (.int .i64 k) v).run P w = .ok () w' ∧ MapI w' b (putI m k v) ∧ w.grownBy w' (some b) := by
  obtain ⟨es, clock, hb, he, hd, hc⟩ := hm
  have hg : ∀ o : Obj, w.grownBy { w with heap := w.heap.setIfInBounds b o } (some b) := fun o => ⟨rfl, rfl, rfl, by simp, fun i _ hi => by
    rw [Array.getElem?_setIfInBounds, if_neg (fun e => hi (by rw [e]))]⟩
  have hs : ∀ o : Obj, ({ w with heap := w.heap.setIfInBounds b o } : World).heap[b]? = some o := fun o => by
    have hlt := (Array.getElem?_eq_some_iff.1 hb).1
    rw [Array.getElem?_setIfInBounds, if_pos rfl, if_pos hlt]
  rcases findNow_get es.toList m k 0 he with ⟨h1, h2⟩ | ⟨j, v0, h1, hj, hput, _, h2⟩
  · refine ⟨{ w with heap := w.heap.setIfInBounds b (.map (es.push { key := .int .i64 k, val := v, born := clock }) (clock + 1)) }, ?_, ⟨_, _, hs _, ?_, ?_, ?_⟩, hg _⟩
    · simp [Instr.mapUpdate, Instr.findKey, run_underlying ht, run_underlying hk, getObj, setObj, Sem.run, hb, run_checkKey hk, h2]
    · have hp : putI m k v = m ++ [(k, v)] := by
        clear he h2 hd hc hb hg hs
        induction m with
        | nil => rfl
        | cons p r ih =>
          unfold getI at h1
          split at h1
          · cases h1
          · rename_i hne; simp [putI, hne, ih h1]
      simp [hp, he]
    · rw [Array.toList_push, List.pairwise_append]
      exact ⟨hd, by simp, fun x hx y hy => by simp at hy; subst hy; have := hc x hx; simp; omega⟩
    · intro e hmem
      rw [Array.toList_push, List.mem_append] at hmem
      rcases hmem with h | h
      · have := hc e h; omega
      · simp at h; subst h; simp
  · have hjes : es[j]? = es.toList[j]? := by simp
    have hlen : es.toList.length = m.length := by have := congrArg List.length he; simpa using this
    have hjl : j < es.size := by have := (List.getElem?_eq_some_iff.1 hj).1; simp at hlen; omega
    have hkey : (es[j]).key = .int .i64 k := by
      have h3 := congrArg (fun l => (l[j]?).map (·.1)) he
      simp only [List.getElem?_map, hj] at h3
      simpa [hjl] using h3
    refine ⟨{ w with heap := w.heap.setIfInBounds b (.map (es.modify j fun e => { e with key := .int .i64 k, val := v }) clock) }, ?_, ⟨_, _, hs _, ?_, ?_, ?_⟩, hg _⟩
    · have hst : (Instr.keyThatStays (.int .i64 k) (.int .i64 k)).run P w = .ok (.int .i64 k) w := by
        simp [Instr.keyThatStays, Instr.sameBits]
      simp only [Nat.zero_add] at h2
      simp [Instr.mapUpdate, Instr.findKey, run_underlying ht, run_underlying hk, getObj, setObj, Sem.run, hb, run_checkKey hk, h2, hjl, hkey, hst]
    · rw [hput v, Array.toList_modify]
      apply List.ext_getElem?
      intro i
      have h3 := congrArg (fun l => l[i]?) he
      simp only [List.getElem?_map] at h3
      simp only [List.getElem?_map, List.getElem?_modify, List.getElem?_set]
      by_cases hij : j = i
      · subst hij
        simp [hjl]
        have : j < m.length := (List.getElem?_eq_some_iff.1 hj).1
        simp [this]
      · simp only [hij, if_false]
        simpa using h3
    · rw [Array.toList_modify]
      rw [List.pairwise_iff_getElem] at hd ⊢
      intro i1 i2 hi1 hi2 hlt
      simp only [List.length_modify] at hi1 hi2
      have := hd i1 i2 hi1 hi2 hlt
      simp only [List.getElem_modify]
      split <;> split <;> simpa using this
    · intro e hmem
      rw [Array.toList_modify] at hmem
      obtain ⟨i1, hi1, rfl⟩ := List.getElem_of_mem hmem
      simp only [List.length_modify] at hi1
      have := hc _ (List.getElem_mem hi1)
      rw [List.getElem_modify]
      split <;> simpa using this
end

section
variable {P : Program} {w : World} {ops : Array Oper} {rest : List Oper} {o : Oper} {a : Act} {Q : Exit → Act → World → Prop}
theorem wpList_lookupI (hg : o.guard = none) (mo x : Operand) (t : TypeId) (ok : Bool) (hop : o.op = Op.lookup t mo x ok) {kt et : TypeId} (ht : P.underlying t = some (.map kt et)) (hk : P.underlying kt = some (.int .i64)) {b : Nat} {m : List (Int × Value)}
    (hm : MapI w b m) {k : Int} {z : Value} (hz : ∀ w, (zeroValue et).run P w = .ok z w) (hmo : a.eval mo = .map (some b)) (hx : a.eval x = .int .i64 k)
    (h : wpList P ops Q rest (a.put o.dst (if ok then .tuple #[(getI m k).getD z, .bool (getI m k).isSome] else (getI m k).getD z)) w) : wpList P ops Q (o :: rest) a w :=
  wpList_plain hg fun _ hK => by
    have hrun := run_lookupI (P := P) ht hk hm k (hz w) ok
    unfold Oper.wp
    simp [execOp, hop, hmo, hx, hrun, Result.andThen]
    exact hK _ _ h
theorem wpList_updateI (hg : o.guard = none) (mo x v : Operand) (t : TypeId) (hop : o.op = Op.mapUpdate t mo x v) {kt et : TypeId} (ht : P.underlying t = some (.map kt et)) (hk : P.underlying kt = some (.int .i64)) {b : Nat} {m : List (Int × Value)}
    (hm : MapI w b m) {k : Int} {u : Value} (hmo : a.eval mo = .map (some b)) (hx : a.eval x = .int .i64 k) (hv : a.eval v = u)
    (h : ∀ w', MapI w' b (putI m k u) → w.grownBy w' (some b) → wpList P ops Q rest (a.put o.dst undef) w') : wpList P ops Q (o :: rest) a w :=
  wpList_plain hg fun _ hK => by
    obtain ⟨w', hrun, h1, h2⟩ := run_updateI (P := P) ht hk hm k u
    unfold Oper.wp
    simp [execOp, hop, hmo, hx, hv, hrun, Result.andThen]
    exact hK _ _ (h w' h1 h2)
end
end Go.Proofs.YtaaahfbcpgdoiaaGreatDoor


namespace Go.Proofs.YtaaahfbcpgdoiaaGreatDoor
open Go.RowKit

theorem ownBut {w w' : World} {base : Nat} {e : TypeId} {size : Nat} {v : Value} {n : Nat} {xs : List Value} {g : Nat} (h : w.ownsRow base e size v n xs) (hg : w.grownBy w' (some g)) (hlt : g < base) : w'.ownsRow base e size v n xs := by
  refine h.kept hg ?_
  rcases h.2 with ⟨rfl, _⟩ | ⟨k, cap, cur, rfl, hk, _⟩
  · exact .inl rfl
  · right; simp [Value.ownBlock]; omega
theorem belowGrown {w w' : World} {B g : Nat} (hg : w.grownBy w' (some g)) (hB : B ≤ g) (hs : B ≤ w.heap.size) : Below B w w' :=
  ⟨hg.os, hg.tape, hg.output, hg.size, fun i hi => hg.block i (by omega) (by simp; omega)⟩
theorem getI_putI (k j : Int) (v : Value) : ∀ m : List (Int × Value), getI (putI m k v) j = if j = k then some v else getI m j
  | [] => by
    by_cases h : j = k
    · simp [putI, getI, h]
    · have : ¬ k = j := fun e => h e.symm
      simp [putI, getI, h, this]
  | p :: t => by
    unfold putI
    by_cases hp : p.1 = k
    · rw [if_pos hp]
      unfold getI
      by_cases h : j = k
      · simp [h]
      · have h2 : ¬ k = j := fun e => h e.symm
        have h3 : ¬ p.1 = j := fun e => h (by rw [← e, hp])
        simp [h, h2, h3]
    · rw [if_neg hp]
      unfold getI
      rw [getI_putI k j v t]
      by_cases h : p.1 = j
      · have h3 : ¬ j = k := fun e => hp (by rw [h, e])
        simp [h, h3]
      · simp [h]
/-- A map that counts: what a number has, 0 if it is not there. -/
def Counts (m : List (Int × Value)) (f : Int → Nat) : Prop := ∀ t, (getI m t).getD (.int .i64 0) = .int .i64 (f t)
theorem Counts.nil : Counts [] (fun _ => 0) := fun _ => rfl
theorem Counts.put {m : List (Int × Value)} {f f' : Int → Nat} (h : Counts m f) {k : Int} {c : Nat} (h1 : f' k = c) (h2 : ∀ t, t ≠ k → f' t = f t) : Counts (putI m k (.int .i64 (c : Int))) f' := by
  intro t
  rw [getI_putI]
  by_cases ht : t = k
  · rw [if_pos ht, ht, h1]; rfl
  · rw [if_neg ht, h2 t ht]; exact h t
theorem wpList_countI {P : Program} {w : World} {ops : Array Oper} {rest : List Oper} {o : Oper} {a : Act} {Q : Exit → Act → World → Prop} (hg : o.guard = none) (mo x : Operand) (t : TypeId) (hop : o.op = Op.lookup t mo x false) {kt et : TypeId} (ht : P.underlying t = some (.map kt et)) (hk : P.underlying kt = some (.int .i64)) {b : Nat} {m : List (Int × Value)} {f : Int → Nat}
    (hm : MapI w b m) (hf : Counts m f) {k : Int} {c : Nat} (hc : f k = c) (hz : ∀ w, (zeroValue et).run P w = .ok (.int .i64 0) w) (hmo : a.eval mo = .map (some b)) (hx : a.eval x = .int .i64 k)
    (h : wpList P ops Q rest (a.put o.dst (.int .i64 (c : Int))) w) : wpList P ops Q (o :: rest) a w :=
  wpList_lookupI hg mo x t false hop ht hk hm hz hmo hx (by rw [if_neg (by simp), hf k, hc]; exact h)
end Go.Proofs.YtaaahfbcpgdoiaaGreatDoor


namespace Go.Proofs.YtaaahfbcpgdoiaaGreatDoor
open Go.RowKit

structure KSet {κ : Type} (P : Program) (kt : TypeId) (kf : κ → Value) (ok : κ → Prop) : Prop where
  law : WideMaps.KeyLaw P kt
  key : ∀ a, ok a → ∃ l, keyOf P kt (kf a) = some l
  inj : ∀ a b, kf a = kf b → a = b
/-- Block b is a set of keys, in the order in which they came. -/
def SetK {κ : Type} (kf : κ → Value) (ok : κ → Prop) (w : World) (b : Nat) (l : List κ) : Prop :=
  ∃ es clock, w.heap[b]? = some (.map es clock) ∧ es.toList.map (fun e => (e.key, e.val)) = l.map (fun a => (kf a, Value.bool true)) ∧ ∀ a ∈ l, ok a

section
variable {κ : Type} {kf : κ → Value} {ok : κ → Prop} {w w' : World} {b : Nat} {l : List κ}
theorem SetK.new (w : World) : SetK kf ok (w.alloc (.map #[] 0)) w.heap.size [] := ⟨#[], 0, heap_alloc_new w _, rfl, by simp⟩
theorem SetK.lt (h : SetK kf ok w b l) : b < w.heap.size := by
  obtain ⟨es, clock, hb, _⟩ := h
  exact (Array.getElem?_eq_some_iff.1 hb).1
theorem SetK.kept (h : SetK kf ok w b l) (hb : w'.heap[b]? = w.heap[b]?) : SetK kf ok w' b l := by
  obtain ⟨es, clock, h1, h2⟩ := h
  exact ⟨es, clock, hb.trans h1, h2⟩
theorem SetK.alloc (h : SetK kf ok w b l) (o : Obj) : SetK kf ok (w.alloc o) b l := h.kept (Below.heap_alloc w o b h.lt)
theorem SetK.drew (h : SetK kf ok w b l) : SetK kf ok w.drew b l := h
theorem SetK.set (h : SetK kf ok w b l) {p : Addr} (hp : b ≠ p.block) (u : Value) : SetK kf ok (w.setCell p u) b l := h.kept (Below.heap_setCell w p u b hp)
theorem SetK.below {B : Nat} (h : SetK kf ok w b l) (hb : Below B w w') (hB : b < B) : SetK kf ok w' b l := h.kept (hb.block b hB)
theorem SetK.grown {row : Option Nat} (h : SetK kf ok w b l) (hg : w.grownBy w' row) (hr : ∀ k, row = some k → b ≠ k) : SetK kf ok w' b l := h.kept (hg.block b h.lt (fun e => hr b e.symm rfl))
end

section
variable {κ : Type} {kf : κ → Value} {ok : κ → Prop} {P : Program} {w : World} {t kt et : TypeId} {b : Nat} {l : List κ}
theorem find_setK (K : KSet P kt kf ok) {es : List MapEntry} (he : es.map (fun e => (e.key, e.val)) = l.map (fun a => (kf a, Value.bool true))) (hl : ∀ a ∈ l, ok a) (w : World) (a : κ) (ha : ok a) :
    (a ∉ l ∧ (Instr.findKey kt (kf a) es).run P w = .ok none w) ∨ (a ∈ l ∧ ∃ j e, (Instr.findKey kt (kf a) es).run P w = .ok (some (j, .bool true)) w ∧ es[j]? = some e ∧ e.key = kf a ∧ e.val = .bool true) := by
  obtain ⟨k, hk⟩ := K.key a ha
  have hes : ∀ e ∈ es, ∃ x ∈ l, e.key = kf x ∧ e.val = .bool true := by
    intro e hm
    have : (e.key, e.val) ∈ es.map (fun e => (e.key, e.val)) := List.mem_map.2 ⟨e, hm, rfl⟩
    rw [he] at this
    obtain ⟨x, hx, hxe⟩ := List.mem_map.1 this
    simp only [Prod.mk.injEq] at hxe
    exact ⟨x, hx, hxe.1.symm, hxe.2.symm⟩
  have hkeys : ∀ e ∈ es, ∃ q, keyOf P kt e.key = some q := by
    intro e hm
    obtain ⟨x, hx, h1, _⟩ := hes e hm
    rw [h1]; exact K.key x (hl x hx)
  rcases K.law.find w hk es hkeys with ⟨h1, h2⟩ | ⟨j, e, h1, h2, h3⟩
  · left
    refine ⟨fun hm => ?_, h1⟩
    have : (kf a, Value.bool true) ∈ l.map (fun a => (kf a, Value.bool true)) := List.mem_map.2 ⟨a, hm, rfl⟩
    rw [← he] at this
    obtain ⟨e, hem, hee⟩ := List.mem_map.1 this
    simp only [Prod.mk.injEq] at hee
    exact h2 e hem hee.1
  · right
    obtain ⟨x, hx, h4, h5⟩ := hes e (List.mem_of_getElem? h2)
    rw [h3] at h4
    obtain rfl := K.inj _ _ h4
    exact ⟨hx, j, e, by rw [h1, h5], h2, h3, h5⟩
end
section
variable {κ : Type} [DecidableEq κ] {kf : κ → Value} {ok : κ → Prop} {P : Program} {w : World} {t kt et : TypeId} {b : Nat} {l : List κ}
theorem run_hasK (K : KSet P kt kf ok) (ht : P.underlying t = some (.map kt et)) (hm : SetK kf ok w b l) (a : κ) (ha : ok a) (hz : (zeroValue et).run P w = .ok (.bool false) w) :
    (Instr.lookup t (.map (some b)) (kf a) false).run P w = .ok (.bool (decide (a ∈ l))) w := by
  obtain ⟨es, clock, hb, he, hl⟩ := hm
  obtain ⟨k, hk⟩ := K.key a ha
  have hck := K.law.check w es.isEmpty hk
  rcases find_setK K he hl w a ha with ⟨h1, h2⟩ | ⟨h1, j, e, h2, _⟩
  · simp [Instr.lookup, run_underlying ht, getObj, Sem.run, hb, hck, h2, hz, h1]
  · simp [Instr.lookup, run_underlying ht, getObj, Sem.run, hb, hck, h2, h1]
theorem run_putK (K : KSet P kt kf ok) (ht : P.underlying t = some (.map kt et)) (hm : SetK kf ok w b l) (a : κ) (ha : ok a) :
    ∃ w', (Instr.mapUpdate t (.map (some b)) (kf a) (.bool true)).run P w = .ok () w' ∧ SetK kf ok w' b (if a ∈ l then l else l ++ [a]) ∧ w.grownBy w' (some b) := by
  obtain ⟨es, clock, hb, he, hl⟩ := hm
  obtain ⟨k, hk⟩ := K.key a ha
  have hck := K.law.check w false hk
  have hg : ∀ o : Obj, w.grownBy { w with heap := w.heap.setIfInBounds b o } (some b) := fun o => ⟨rfl, rfl, rfl, by simp, fun i _ hi => by
    rw [Array.getElem?_setIfInBounds, if_neg (fun e => hi (by rw [e]))]⟩
  have hs : ∀ o : Obj, ({ w with heap := w.heap.setIfInBounds b o } : World).heap[b]? = some o := fun o => by
    have hlt := (Array.getElem?_eq_some_iff.1 hb).1
    rw [Array.getElem?_setIfInBounds, if_pos rfl, if_pos hlt]
  rcases find_setK K he hl w a ha with ⟨h1, h2⟩ | ⟨h1, j, e, h2, h3, h4, h5⟩
  · refine ⟨{ w with heap := w.heap.setIfInBounds b (.map (es.push { key := kf a, val := .bool true, born := clock }) (clock + 1)) }, ?_, ⟨_, _, hs _, ?_, ?_⟩, hg _⟩
    · simp [Instr.mapUpdate, run_underlying ht, getObj, setObj, Sem.run, hb, hck, h2]
    · rw [if_neg h1, Array.toList_push, List.map_append, he, List.map_append]; rfl
    · rw [if_neg h1]
      intro x hx
      rcases List.mem_append.1 hx with h | h
      · exact hl x h
      · rw [List.mem_singleton.1 h]; exact ha
  · have hj : es[j]? = some e := by simpa using h3
    have hjl := (Array.getElem?_eq_some_iff.1 hj).1
    have hje := (Array.getElem?_eq_some_iff.1 hj).2
    refine ⟨{ w with heap := w.heap.setIfInBounds b (.map (es.modify j fun e => { e with key := kf a, val := .bool true }) clock) }, ?_, ⟨_, _, hs _, ?_, ?_⟩, hg _⟩
    · have hst := K.law.stays w hk
      simp [Instr.mapUpdate, run_underlying ht, getObj, setObj, Sem.run, hb, hck, h2, hj, h4, hst]
    · rw [if_pos h1, ← he, Array.toList_modify]
      apply List.ext_getElem?
      intro i
      simp only [List.getElem?_map, List.getElem?_modify]
      by_cases hij : j = i
      · subst hij
        rw [h3]
        simp [h4, h5]
      · simp [hij]
    · rw [if_pos h1]; exact hl
end

section
variable {κ : Type} {kf : κ → Value} {ok : κ → Prop} {P : Program} {w : World} {ops : Array Oper} {rest : List Oper} {o : Oper} {a : Act} {Q : Exit → Act → World → Prop}
open Classical in
theorem wpList_hasK (hg : o.guard = none) (mo x : Operand) (t : TypeId) (hop : o.op = Op.lookup t mo x false) {kt et : TypeId} (K : KSet P kt kf ok) (ht : P.underlying t = some (.map kt et)) {b : Nat} {l : List κ}
    (hm : SetK kf ok w b l) (k : κ) (hk : ok k) (q : Bool) (hq : q = true ↔ k ∈ l) (hz : (zeroValue et).run P w = .ok (.bool false) w) (hmo : a.eval mo = .map (some b)) (hx : a.eval x = kf k)
    (h : wpList P ops Q rest (a.put o.dst (.bool q)) w) : wpList P ops Q (o :: rest) a w :=
  wpList_plain hg fun _ hK => by
    have hrun := run_hasK K ht hm k hk hz
    have hd : decide (k ∈ l) = q := by
      cases q
      · exact decide_eq_false fun h => by simpa using hq.2 h
      · exact decide_eq_true (hq.1 rfl)
    rw [hd] at hrun
    unfold Oper.wp
    simp [execOp, hop, hmo, hx, hrun, Result.andThen]
    exact hK _ _ h
open Classical in
theorem wpList_putK (hg : o.guard = none) (mo x v : Operand) (t : TypeId) (hop : o.op = Op.mapUpdate t mo x v) {kt et : TypeId} (K : KSet P kt kf ok) (ht : P.underlying t = some (.map kt et)) {b : Nat} {l : List κ}
    (hm : SetK kf ok w b l) (k : κ) (hk : ok k) (hmo : a.eval mo = .map (some b)) (hx : a.eval x = kf k) (hv : a.eval v = .bool true)
    (h : ∀ w' l', SetK kf ok w' b l' → (∀ y, y ∈ l' ↔ y ∈ l ∨ y = k) → w.grownBy w' (some b) → wpList P ops Q rest (a.put o.dst undef) w') : wpList P ops Q (o :: rest) a w :=
  wpList_plain hg fun _ hK => by
    obtain ⟨w', hrun, h1, h2⟩ := run_putK K ht hm k hk
    unfold Oper.wp
    simp [execOp, hop, hmo, hx, hv, hrun, Result.andThen]
    refine hK _ _ (h w' _ h1 (fun y => ?_) h2)
    split
    · rename_i hm
      exact ⟨.inl, fun h => h.elim id fun e => by rw [e]; exact hm⟩
    · simp
end
end Go.Proofs.YtaaahfbcpgdoiaaGreatDoor

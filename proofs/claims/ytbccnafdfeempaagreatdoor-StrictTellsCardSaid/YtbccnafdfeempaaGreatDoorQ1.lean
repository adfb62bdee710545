
/-
  CONTRACTS of slices.Clone at []api.Op and []int.
  CONTRACTS of slices.IndexFunc, ContainsFunc, DeleteFunc over slices of three-number structs, for whatever test a function value makes.
  MAPS keyed by int, that the call itself makes: what a block holds as a list of pairs; lookup, store, delete.
  CONTRACTS of lanesame.Ints, Ops: whether two lists are the same.
  CONTRACTS of locks.odds, right, free, of and their tests. A lock is held as an HOp: deal, item, mode (the fields in their places: tx, what, item).
-/
import Derived.Test.YtbccnafdfeempaaGreatDoorQ0
import Derived.Lib.SliceRun
import Derived.Maps.OwnOps
import Derived.Deep.QuietTactic
import Derived.BigQuiet
import Derived.Handy

namespace Go.Proofs.YtbccnafdfeempaaGreatDoor
open Go.RowKit
theorem slt_op : SlT Tryz.prog 22 43 3 24 := slt_of (z := .agg #[.int .i64 0, .int .i64 0, .int .i64 0]) Tryz.underlying22 (by kernel_rfl) (by kernel_rfl) (by decide) (by decide)

theorem slt_int : SlT Tryz.prog 24 3 1 8 := slt_of (z := .int .i64 0) Tryz.underlying24 (by kernel_rfl) (by kernel_rfl) (by decide) (by decide)

end Go.Proofs.YtbccnafdfeempaaGreatDoor


namespace Go.Proofs.YtbccnafdfeempaaGreatDoor
open Go.RowKit
def idxGo {α : Type} (p : α → Bool) (k : Int) : List α → Int
  | [] => -1
  | o :: t => if p o then k else idxGo p (k + 1) t
theorem idxGo_spec {α : Type} (p : α → Bool) (k : Int) (l : List α) :
    ((∀ o ∈ l, p o = false) ∧ idxGo p k l = -1) ∨ ∃ (i : Nat) (o : α), l[i]? = some o ∧ p o = true ∧ (∀ x ∈ l.take i, p x = false) ∧ idxGo p k l = k + i := by
  induction l generalizing k with
  | nil => exact .inl ⟨by simp, rfl⟩
  | cons a t ih =>
    cases hp : p a
    · rcases ih (k + 1) with ⟨h1, h2⟩ | ⟨i, o, h1, h2, h3, h4⟩
      · exact .inl ⟨by simpa [hp] using h1, by simp [idxGo, hp, h2]⟩
      · exact .inr ⟨i + 1, o, by simpa using h1, h2, by simpa [hp] using h3, by simp [idxGo, hp, h4]; omega⟩
    · exact .inr ⟨0, a, by simp, hp, by simp, by simp [idxGo, hp]⟩
end Go.Proofs.YtbccnafdfeempaaGreatDoor


namespace Go.Proofs.YtbccnafdfeempaaGreatDoor
open Go.RowKit

/-- Block b is a map keyed by int; its entries, in the order in which they came. -/
def MapI (w : World) (b : Nat) (m : List (Int × Value)) : Prop :=
  ∃ es clock, w.heap[b]? = some (.map es clock) ∧ es.toList.map (fun e => (e.key, e.val)) = m.map (fun p => (Value.int .i64 p.1, p.2)) ∧ es.toList.Pairwise (fun x y => x.born ≠ y.born) ∧ ∀ e ∈ es.toList, e.born < clock

def getI : List (Int × Value) → Int → Option Value
  | [], _ => none
  | p :: t, k => if p.1 = k then some p.2 else getI t k
def putI : List (Int × Value) → Int → Value → List (Int × Value)
  | [], k, v => [(k, v)]
  | p :: t, k, v => if p.1 = k then (k, v) :: t else p :: putI t k v
def delI : List (Int × Value) → Int → List (Int × Value)
  | [], _ => []
  | p :: t, k => if p.1 = k then t else p :: delI t k

section
variable {w w' : World} {b : Nat} {m : List (Int × Value)}
theorem MapI.new (w : World) : MapI (w.alloc (.map #[] 0)) w.heap.size [] := ⟨#[], 0, heap_alloc_new w _, rfl, by simp, by simp⟩
theorem MapI.lt (h : MapI w b m) : b < w.heap.size := by
  obtain ⟨es, clock, hb, _⟩ := h
  exact (Array.getElem?_eq_some_iff.1 hb).1
theorem MapI.kept (h : MapI w b m) (hb : w'.heap[b]? = w.heap[b]?) : MapI w' b m := by
  obtain ⟨es, clock, h1, h2⟩ := h
  exact ⟨es, clock, hb.trans h1, h2⟩
theorem MapI.alloc (h : MapI w b m) (o : Obj) : MapI (w.alloc o) b m := h.kept (Below.heap_alloc w o b h.lt)
theorem MapI.drew (h : MapI w b m) : MapI w.drew b m := h
theorem MapI.set (h : MapI w b m) {p : Addr} (hp : b ≠ p.block) (u : Value) : MapI (w.setCell p u) b m := h.kept (Below.heap_setCell w p u b hp)
theorem MapI.below {B : Nat} (h : MapI w b m) (hb : Below B w w') (hB : b < B) : MapI w' b m := h.kept (hb.block b hB)
theorem MapI.grown {row : Option Nat} (h : MapI w b m) (hg : w.grownBy w' row) (hr : ∀ k, row = some k → b ≠ k) : MapI w' b m := h.kept (hg.block b h.lt (fun e => hr b e.symm rfl))
end

theorem findNow_get : ∀ (es : List MapEntry) (m : List (Int × Value)) (k : Int) (i : Nat), es.map (fun e => (e.key, e.val)) = m.map (fun p => (Value.int .i64 p.1, p.2)) →
    (getI m k = none ∧ Instr.findNow (.int .i64) (.int .i64 k) es i = some none) ∨ ∃ (j : Nat) (v : Value), getI m k = some v ∧ m[j]? = some (k, v) ∧ (∀ v', putI m k v' = m.set j (k, v')) ∧ delI m k = m.eraseIdx j ∧ Instr.findNow (.int .i64) (.int .i64 k) es i = some (some (i + j, v))
  | [], m, k, i, h => by
    have : m = [] := by simpa using h.symm
    subst this
    exact .inl ⟨rfl, rfl⟩
  | e :: es, m, k, i, h => by
    cases m with
    | nil => simp at h
    | cons p t =>
      simp only [List.map_cons, List.cons.injEq, Prod.mk.injEq] at h
      obtain ⟨⟨hk, hv⟩, ht⟩ := h
      unfold Instr.findNow getI putI delI
      rw [hk]
      simp only [Instr.sameNow, if_true]
      by_cases hp : p.1 = k
      · right
        refine ⟨0, p.2, by simp [hp], by simp [← hp], fun v' => by simp [hp], by simp [hp], ?_⟩
        have : (k == p.1) = true := by simp [hp]
        simp [this, hv]
      · have hkp : (k == p.1) = false := by simp; exact fun h => hp h.symm
        simp only [hkp, if_neg hp]
        rcases findNow_get es t k (i + 1) ht with ⟨h1, h2⟩ | ⟨j, v, h1, h2, h3, h4, h5⟩
        · exact .inl ⟨h1, h2⟩
        · exact .inr ⟨j + 1, v, h1, by simpa using h2, fun v' => by simp [h3 v'], by simp [h4], by rw [h5]; congr 3; omega⟩

section
variable {P : Program} {w : World} {t kt et : TypeId} {b : Nat} {m : List (Int × Value)}
theorem run_checkKey (hk : P.underlying kt = some (.int .i64)) (e : Bool) (v : Value) : (Instr.checkKey e 10000 kt v).run P w = .ok () w := by
  show (Instr.checkKey e (9999 + 1) kt v).run P w = _
  unfold Instr.checkKey
  simp [run_underlying hk]

theorem run_lookupI (ht : P.underlying t = some (.map kt et)) (hk : P.underlying kt = some (.int .i64)) (hm : MapI w b m) (k : Int) {z : Value} (hz : (zeroValue et).run P w = .ok z w) (ok : Bool) :
    (Instr.lookup t (.map (some b)) (.int .i64 k) ok).run P w = .ok (if ok then .tuple #[(getI m k).getD z, .bool (getI m k).isSome] else (getI m k).getD z) w := by
  obtain ⟨es, clock, hb, he, _⟩ := hm
  rcases findNow_get es.toList m k 0 he with ⟨h1, h2⟩ | ⟨j, v, h1, _, _, _, h2⟩
  · cases ok <;> simp [Instr.lookup, Instr.findKey, run_underlying ht, run_underlying hk, getObj, Sem.run, hb, run_checkKey hk, h1, h2, hz]
  · cases ok <;> simp [Instr.lookup, Instr.findKey, run_underlying ht, run_underlying hk, getObj, Sem.run, hb, run_checkKey hk, h1, h2]
theorem run_updateI (ht : P.underlying t = some (.map kt et)) (hk : P.underlying kt = some (.int .i64)) (hm : MapI w b m) (k : Int) (v : Value) :
    ∃ w', (Instr.mapUpdate t (.map (some b)) (.int .i64 k) v).run P w = .ok () w' ∧ MapI w' b (putI m k v) ∧ w.grownBy w' (some b) := by
  obtain ⟨es, clock, hb, he, hd, hc⟩ := hm
  have hg : ∀ o : Obj, w.grownBy { w with heap := w.heap.setIfInBounds b o } (some b) := fun o => ⟨rfl, rfl, rfl, by simp, fun i _ hi => by
    rw [Array.getElem?_setIfInBounds, if_neg (fun e => hi (by rw [e]))]⟩
  have hs : ∀ o : Obj, ({ w with heap := w.heap.setIfInBounds b o } : World).heap[b]? = some o := fun o => by
    have hlt := (Array.getElem?_eq_some_iff.1 hb).1
    rw [Array.getElem?_setIfInBounds, if_pos rfl, if_pos hlt]
  rcases findNow_get es.toList m k 0 he with ⟨h1, h2⟩ | ⟨j, v0, h1, hj, hput, _, h2⟩
  · refine ⟨{ w with heap := w.heap.setIfInBounds b (.map (es.push { key := .int .i64 k, val := v, born := clock }) (clock + 1)) }, ?_, ⟨_, _, hs _, ?_, ?_, ?_⟩, hg _⟩
    · simp [Instr.mapUpdate, Instr.findKey, run_underlying ht, run_underlying hk, getObj, setObj, Sem.run, hb, run_checkKey hk, h2]
    · have hp : putI m k v = m ++ [(k, v)] := by
        clear he h2 hd hc hb hg hs
        induction m with
        | nil => rfl
        | cons p r ih =>
          unfold getI at h1
          split at h1
          · cases h1
          · rename_i hne; simp [putI, hne, ih h1]
      simp [hp, he]
    · rw [Array.toList_push, List.pairwise_append]
      exact ⟨hd, by simp, fun x hx y hy => by simp at hy; subst hy; have := hc x hx; simp; omega⟩
    · intro e hmem
      rw [Array.toList_push, List.mem_append] at hmem
      rcases hmem with h | h
      · have := hc e h; omega
      · simp at h; subst h; simp
  · have hjes : es[j]? = es.toList[j]? := by simp
    have hlen : es.toList.length = m.length := by have := congrArg List.length he; simpa using this
    have hjl : j < es.size := by have := (List.getElem?_eq_some_iff.1 hj).1; simp at hlen; omega
    have hkey : (es[j]).key = .int .i64 k := by
      have h3 := congrArg (fun l => (l[j]?).map (·.1)) he
      simp only [List.getElem?_map, hj] at h3
      simpa [hjl] using h3
    refine ⟨{ w with heap := w.heap.setIfInBounds b (.map (es.modify j fun e => { e with key := .int .i64 k, val := v }) clock) }, ?_, ⟨_, _, hs _, ?_, ?_, ?_⟩, hg _⟩
    · have hst : (Instr.keyThatStays (.int .i64 k) (.int .i64 k)).run P w = .ok (.int .i64 k) w := by
        simp [Instr.keyThatStays, Instr.sameBits]
      simp only [Nat.zero_add] at h2
      simp [Instr.mapUpdate, Instr.findKey, run_underlying ht, run_underlying hk, getObj, setObj, Sem.run, hb, run_checkKey hk, h2, hjl, hkey, hst]
    · rw [hput v, Array.toList_modify]
      apply List.ext_getElem?
      intro i
      have h3 := congrArg (fun l => l[i]?) he
      simp only [List.getElem?_map] at h3
      simp only [List.getElem?_map, List.getElem?_modify, List.getElem?_set]
      by_cases hij : j = i
      · subst hij
        simp [hjl]
        have : j < m.length := (List.getElem?_eq_some_iff.1 hj).1
        simp [this]
      · simp only [hij, if_false]
        simpa using h3
    · rw [Array.toList_modify]
      rw [List.pairwise_iff_getElem] at hd ⊢
      intro i1 i2 hi1 hi2 hlt
      simp only [List.length_modify] at hi1 hi2
      have := hd i1 i2 hi1 hi2 hlt
      simp only [List.getElem_modify]
      split <;> split <;> simpa using this
    · intro e hmem
      rw [Array.toList_modify] at hmem
      obtain ⟨i1, hi1, rfl⟩ := List.getElem_of_mem hmem
      simp only [List.length_modify] at hi1
      have := hc _ (List.getElem_mem hi1)
      rw [List.getElem_modify]
      split <;> simpa using this
end

section
variable {P : Program} {w : World} {ops : Array Oper} {rest : List Oper} {o : Oper} {a : Act} {Q : Exit → Act → World → Prop}
theorem wpList_lookupI (hg : o.guard = none) (mo x : Operand) (t : TypeId) (ok : Bool) (hop : o.op = Op.lookup t mo x ok) {kt et : TypeId} (ht : P.underlying t = some (.map kt et)) (hk : P.underlying kt = some (.int .i64)) {b : Nat} {m : List (Int × Value)}
    (hm : MapI w b m) {k : Int} {z : Value} (hz : ∀ w, (zeroValue et).run P w = .ok z w) (hmo : a.eval mo = .map (some b)) (hx : a.eval x = .int .i64 k)
    (h : wpList P ops Q rest (a.put o.dst (if ok then .tuple #[(getI m k).getD z, .bool (getI m k).isSome] else (getI m k).getD z)) w) : wpList P ops Q (o :: rest) a w :=
  wpList_plain hg fun _ hK => by
    have hrun := run_lookupI (P := P) ht hk hm k (hz w) ok
    unfold Oper.wp
    simp [execOp, hop, hmo, hx, hrun, Result.andThen]
    exact hK _ _ h
theorem wpList_updateI (hg : o.guard = none) (mo x v : Operand) (t : TypeId) (hop : o.op = Op.mapUpdate t mo x v) {kt et : TypeId} (ht : P.underlying t = some (.map kt et)) (hk : P.underlying kt = some (.int .i64)) {b : Nat} {m : List (Int × Value)}
    (hm : MapI w b m) {k : Int} {u : Value} (hmo : a.eval mo = .map (some b)) (hx : a.eval x = .int .i64 k) (hv : a.eval v = u)
    (h : ∀ w', MapI w' b (putI m k u) → w.grownBy w' (some b) → wpList P ops Q rest (a.put o.dst undef) w') : wpList P ops Q (o :: rest) a w :=
  wpList_plain hg fun _ hK => by
    obtain ⟨w', hrun, h1, h2⟩ := run_updateI (P := P) ht hk hm k u
    unfold Oper.wp
    simp [execOp, hop, hmo, hx, hv, hrun, Result.andThen]
    exact hK _ _ (h w' h1 h2)
end
end Go.Proofs.YtbccnafdfeempaaGreatDoor


namespace Go.Proofs.YtbccnafdfeempaaGreatDoor
open Go.RowKit

theorem below_drewN {B : Nat} {a w : World} (h : Below B a w) (n : Nat) : Below B a (w.drewN n) := ⟨h.os, h.tape, h.output, h.size, h.block⟩

theorem take_same {α : Type} {xs ys : List α} {k : Nat} {x y : α} (h : xs.take k = ys.take k) (hx : xs[k]? = some x) (hy : ys[k]? = some y) : (x = y → xs.take (k + 1) = ys.take (k + 1)) ∧ (x ≠ y → xs ≠ ys) := by
  refine ⟨fun e => ?_, fun e e2 => ?_⟩
  · rw [List.take_add_one, List.take_add_one, h, hx, hy, e]
  · subst e2; rw [hx] at hy; exact e (Option.some.inj hy)

set_option maxHeartbeats 400000 in
theorem ints_any (A B : Option Addr) (n m c d : Nat) (xs ys : List Int) (w : World) (ha : Rd w w.heap.size 1 A n (cellsI xs)) (hb : Rd w w.heap.size 1 B m (cellsI ys)) (hm : n ≤ 1000000000000) :
    Calls Tryz.prog 9 #[.slice A n c, .slice B m d] w fun e w' => e = .returned (.bool (decide (xs = ys))) ∧ Below w.heap.size w w' := by
  have hl1 := ha.ilen
  have hl2 := hb.ilen
  by_cases hnm : n = m
  · have hnm2 : ((n : Int) != (m : Int)) = false := by simp [hnm]
    have HN := Lib.hid hnm
    have HL := Lib.hid (And.intro hl1 hl2)
    have hle : n ≤ m := by omega
    clear hnm hl1 hl2
    go_enter Tryz.func9, Tryz.ntmps9
    go_wp2
    clear hnm2
    go_loopw [5] (fun i wr => ∃ k : Nat, k ≤ n ∧ i = .int .i64 k ∧ Hid (xs.take k = ys.take k) ∧ Below w.heap.size w wr) (fun i _ => n - (intOf i).toNat)
    case atStart => exact ⟨0, Nat.zero_le _, rfl, rfl, Below.refl _ _⟩
    case round =>
      obtain ⟨k, hk, rfl, HE, hbw⟩ := hrel
      by_cases hlt : k < n
      · obtain ⟨b1, o1, x, he, _, hx, c1⟩ := (ha.below hbw).int (k := k) (by omega)
        cases he
        obtain ⟨b2, o2, y, he, _, hy, c2⟩ := (hb.below hbw).int (k := k) (by omega)
        cases he
        have HT := Lib.hid (take_same HE.out hx hy)
        clear hx hy
        have hlm : k < m := by omega
        by_cases hxy : x = y
        · have HE2 := Lib.hid (HT.out.1 hxy)
          subst hxy
          go_wp2
          go_quiet (fail)
          go_wp2
          go_roundw
          case rel => exact ⟨k + 1, by omega, by go_num, HE2, below_drewN hbw _⟩
          case measure => simp [intOf]; omega
        · have HE2 : Hid (decide (xs = ys) = false) := Lib.hid (decide_eq_false (HT.out.2 hxy))
          have hxy2 : (x != y) = true := by simp [hxy]
          go_wp2
          go_quiet (fail)
          go_wp2
          go_ret
          exact ⟨ret_bool HE2.out.symm, below_drewN hbw _⟩
      · have HE2 : Hid (decide (xs = ys) = true) := Lib.hid (decide_eq_true (by
          have := HE.out
          rwa [List.take_of_length_le (by rw [HL.out.1]; omega), List.take_of_length_le (by rw [HL.out.2, ← HN.out]; omega)] at this))
        go_wp2
        go_ret
        exact ⟨ret_bool HE2.out.symm, hbw⟩
  · have HE2 : Hid (decide (xs = ys) = false) := Lib.hid (decide_eq_false (by rintro rfl; omega))
    have hnm2 : ((n : Int) != (m : Int)) = true := by simp; omega
    go_enter Tryz.func9, Tryz.ntmps9
    go_wp2
    go_ret
    exact ⟨ret_bool HE2.out.symm, Below.refl _ _⟩
end Go.Proofs.YtbccnafdfeempaaGreatDoor


namespace Go.Proofs.YtbccnafdfeempaaGreatDoor
open Go.RowKit

def lrightB (o : HOp) : Bool := txB o.tx && (txB o.what && decide (o.item = 1 ∨ o.item = 2))
def loddsB (a b : HOp) : Bool := decide (a.tx ≠ b.tx ∧ a.what = b.what ∧ (a.item = 2 ∨ b.item = 2))

theorem lodds_any (a b : HOp) (w : World) : Calls Tryz.prog 63 #[a.val, b.val] w fun e w' => e = .returned (.bool (loddsB a b)) ∧ Below w.heap.size w w' := by
  obtain ⟨x1, x2, x3⟩ := a
  obtain ⟨y1, y2, y3⟩ := b
  unfold HOp.val
  go_enter Tryz.func63, Tryz.ntmps63
  go_wp2
  all_goals
    go_ret
    refine ⟨ret_bool ?_, ((Below.refl _ _).alloc (Nat.le_refl _) _).alloc (by simp) _⟩
    rw [Bool.eq_iff_iff]
    simp_all [loddsB] <;> omega

theorem lright_any (o : HOp) (w : World) : Calls Tryz.prog 38 #[o.val] w fun e w' => e = .returned (.bool (lrightB o)) ∧ Below w.heap.size w w' := by
  obtain ⟨tx, what, item⟩ := o
  unfold HOp.val
  have hi : item = 1 ∨ item = 2 ∨ ((item == 1) = false ∧ (item == 2) = false ∧ item ≠ 1 ∧ item ≠ 2) := by
    by_cases h1 : item = 1
    · exact .inl h1
    · by_cases h2 : item = 2
      · exact .inr (.inl h2)
      · exact .inr (.inr ⟨by simpa using h1, by simpa using h2, h1, h2⟩)
  cases hT : txB tx
  · go_enter Tryz.func38, Tryz.ntmps38
    go_wp2_with (go_at_call 54; refine (tx_any _ _).mono ?_; rintro e w' ⟨rfl, rfl⟩; rw [hT])
    go_ret
    exact ⟨ret_bool (by simp [lrightB, hT]), (Below.refl _ _).alloc (Nat.le_refl _) _⟩
  cases hI : txB what
  · go_enter Tryz.func38, Tryz.ntmps38
    go_wp2_with (first
      | (go_at_call 54; refine (tx_any _ _).mono ?_; rintro e w' ⟨rfl, rfl⟩; rw [hT])
      | (go_at_call 55; refine (item_any _ _).mono ?_; rintro e w' ⟨rfl, rfl⟩; rw [hI]))
    go_ret
    exact ⟨ret_bool (by simp [lrightB, hI]), (Below.refl _ _).alloc (Nat.le_refl _) _⟩
  rcases hi with rfl | rfl | ⟨h1, h2, h3, h4⟩
  all_goals
    go_enter Tryz.func38, Tryz.ntmps38
    go_wp2_with (first
      | (go_at_call 54; refine (tx_any _ _).mono ?_; rintro e w' ⟨rfl, rfl⟩; rw [hT])
      | (go_at_call 55; refine (item_any _ _).mono ?_; rintro e w' ⟨rfl, rfl⟩; rw [hI]))
    go_ret
    exact ⟨ret_bool (by simp_all [lrightB]), (Below.refl _ _).alloc (Nat.le_refl _) _⟩

theorem idxGo_any' {α : Type} (p : α → Bool) (h : List α) : decide (0 ≤ idxGo p 0 h) = h.any p := by
  rcases idxGo_spec p 0 h with ⟨h1, h2⟩ | ⟨i, o, h1, h2, h3, h4⟩
  · rw [h2]
    have : h.any p = false := by rw [List.any_eq_false]; intro x hx; simp [h1 x hx]
    rw [this]; rfl
  · rw [h4]
    have : h.any p = true := List.any_eq_true.2 ⟨o, List.mem_of_getElem? h1, h2⟩
    rw [this]; simp
theorem slt_lock : SlT Tryz.prog 38 67 3 24 := slt_of (z := .agg #[.int .i64 0, .int .i64 0, .int .i64 0]) Tryz.underlying38 (by kernel_rfl) (by kernel_rfl) (by decide) (by decide)

set_option maxHeartbeats 400000 in
theorem indexFunc_lock (A : Option Addr) (n cap : Nat) (h : List HOp) (F : FuncId) (caps : Array Value) (p : HOp → Bool) (w : World) (hr : Rd w w.heap.size 3 A n (cellsH h)) (hm : n ≤ 6000000000000)
    (hcall : ∀ (args : Array Value) (w : World), (callFunc F args).run Tryz.prog w = .ok (.enter F args) w)
    (hf : ∀ o ∈ h, ∀ w', Below w.heap.size w w' → Calls Tryz.prog F (#[o.val] ++ caps) w' fun e w'' => e = .returned (.bool (p o)) ∧ Below w'.heap.size w' w'') :
    Calls Tryz.prog 58 #[.slice A n cap, .func (.func F) #[] caps] w fun e w' => e = .returned (.int .i64 (idxGo p 0 h)) ∧ Below w.heap.size w w' := by
  have hl := hr.hlen
  have HL := Lib.hid hl
  have HF := Lib.hid hf
  clear hl hf
  go_enter Tryz.func58, Tryz.ntmps58
  go_wp2
  go_loopw [8] (fun i wr => ∃ k : Nat, k ≤ n ∧ i = .int .i64 k ∧ Hid (idxGo p 0 h = idxGo p k (h.drop k)) ∧ Below w.heap.size w wr) (fun i _ => n - (intOf i).toNat)
  case atStart => exact ⟨0, Nat.zero_le _, rfl, rfl, Below.refl _ _⟩
  case round =>
    obtain ⟨k, hk, rfl, HE, hbw⟩ := hrel
    by_cases hlt : k < n
    · obtain ⟨b, off, o, he, hb, ho, c0, c1, c2⟩ := (hr.below hbw).op (k := k) (by omega)
      cases he
      have HO := Lib.hid (drop_at ho)
      have hmem := Lib.hid (List.mem_of_getElem? ho)
      clear ho
      cases hP : p o
      · have HE2 : Hid (idxGo p 0 h = idxGo p (k + 1) (h.drop (k + 1))) := Lib.hid (by rw [HE.out, HO.out]; simp [idxGo, hP])
        go_wp2_with fail
        refine (HF.out o hmem.out wr hbw).mono ?_
        rintro e w1 ⟨rfl, hb1⟩
        rw [hP]
        go_wp2
        go_roundw
        case rel => exact ⟨k + 1, by omega, by go_num, HE2, hbw.trans (hb1.mono hbw.size)⟩
        case measure => simp [intOf]; omega
      · have HE2 : Hid (idxGo p 0 h = k) := Lib.hid (by rw [HE.out, HO.out]; simp [idxGo, hP])
        go_wp2_with fail
        refine (HF.out o hmem.out wr hbw).mono ?_
        rintro e w1 ⟨rfl, hb1⟩
        rw [hP]
        go_wp2
        go_ret
        exact ⟨ret_int HE2.out.symm, hbw.trans (hb1.mono hbw.size)⟩
    · have HE2 : Hid (idxGo p 0 h = -1) := Lib.hid (by rw [HE.out, drop_end (by rw [HL.out]; omega)]; rfl)
      go_wp2
      go_ret
      exact ⟨ret_int HE2.out.symm, hbw⟩
theorem containsFunc_lock (A : Option Addr) (n cap : Nat) (h : List HOp) (F : FuncId) (caps : Array Value) (p : HOp → Bool) (w : World) (hr : Rd w w.heap.size 3 A n (cellsH h)) (hm : n ≤ 6000000000000)
    (hcall : ∀ (args : Array Value) (w : World), (callFunc F args).run Tryz.prog w = .ok (.enter F args) w)
    (hf : ∀ o ∈ h, ∀ w', Below w.heap.size w w' → Calls Tryz.prog F (#[o.val] ++ caps) w' fun e w'' => e = .returned (.bool (p o)) ∧ Below w'.heap.size w' w'') :
    Calls Tryz.prog 61 #[.slice A n cap, .func (.func F) #[] caps] w fun e w' => e = .returned (.bool (h.any p)) ∧ Below w.heap.size w w' := by
  have C := indexFunc_lock A n cap h F caps p w hr hm hcall hf
  have HA := Lib.hid (idxGo_any' p h)
  generalize idxGo p 0 h = v at *
  have HC := hide C
  clear C hf hcall
  go_enter Tryz.func61, Tryz.ntmps61
  go_wp2_with fail
  refine (unhide HC).mono ?_
  rintro e w1 ⟨rfl, hb1⟩
  go_wp2
  go_ret
  exact ⟨ret_bool HA.out, hb1⟩
set_option maxRecDepth 100000 in
set_option maxHeartbeats 1000000 in
theorem deleteFunc_lock (A : Option Addr) (n cap base : Nat) (h : List HOp) (F : FuncId) (caps : Array Value) (p : HOp → Bool) (w : World) (hown : w.ownsRow base 67 3 (.slice A n cap) n (cellsH h)) (hbase : base ≤ w.heap.size) (hm : n ≤ 6000000000000)
    (hcall : ∀ (args : Array Value) (w : World), (callFunc F args).run Tryz.prog w = .ok (.enter F args) w)
    (hf : ∀ o ∈ h, ∀ w', Below base w w' → Calls Tryz.prog F (#[o.val] ++ caps) w' fun e w'' => e = .returned (.bool (p o)) ∧ Below w'.heap.size w' w'') :
    Calls Tryz.prog 57 #[.slice A n cap, .func (.func F) #[] caps] w fun e w' => ∃ m, e = .returned (.slice A m cap) ∧ w'.ownsRow base 67 3 (.slice A m cap) m (cellsH (h.filter fun o => !p o)) ∧ Below base w w' := by
  have hl := (rd_own hown).hlen
  have HL := Lib.hid hl
  have C := indexFunc_lock A n cap h F caps p w (rd_own hown) hm hcall (fun o ho w' hw => hf o ho w' (hw.mono hbase))
  have HF := Lib.hid hf
  rcases idxGo_spec p 0 h with ⟨hno, hi⟩ | ⟨i0, o0, ho0, hp0, hno, hi⟩
  · rw [hi] at C
    have HC := hide C
    have HQ : Hid (h.filter (fun o => !p o) = h) := Lib.hid (List.filter_eq_self.2 fun o ho => by rw [hno o ho]; rfl)
    clear hl hf C hi hno
    go_enter Tryz.func57, Tryz.ntmps57
    go_wp2_with fail
    refine (unhide HC).mono ?_
    rintro e w1 ⟨rfl, hb1⟩
    go_wp2
    go_ret
    exact ⟨n, rfl, by rw [HQ.out]; exact own_below hown hb1 (Nat.le_refl _), hb1.mono hbase⟩
  · have hi0 : i0 < n := by rw [← hl]; exact (List.getElem?_eq_some_iff.1 ho0).1
    obtain ⟨g, rfl⟩ : ∃ g, A = some ⟨g, 0, none⟩ := by
      rcases hown.2 with ⟨_, h0⟩ | ⟨g, _, _, hv, _⟩
      · omega
      · injection hv with hA; exact ⟨g, hA⟩
    have hgb : base ≤ g ∧ g < w.heap.size := hown.lt g rfl
    have hncap : n ≤ cap := by
      rcases hown.2 with ⟨_, h0⟩ | ⟨_, _, _, hv, _, _, hnc, _⟩
      · omega
      · injection hv with _ _ hc; omega
    have HI : Hid ((h.take (i0 + 1)).filter (fun o => !p o) = h.take i0) := Lib.hid (by
      rw [List.take_succ_eq_append_getElem (List.getElem?_eq_some_iff.1 ho0).1, List.filter_append, (List.getElem?_eq_some_iff.1 ho0).2]
      rw [List.filter_eq_self.2 fun o ho => by rw [hno o ho]; rfl]
      simp [hp0])
    rw [Int.zero_add] at hi
    rw [hi] at C
    have HC := hide C
    clear hl hf C hi hno ho0 hp0
    have hne : ((i0 : Int) == -1) = false := by rw [beq_eq_false_iff_ne]; omega
    go_enter Tryz.func57, Tryz.ntmps57
    go_wp2_with fail
    refine (unhide HC).mono ?_
    rintro e w1 ⟨rfl, hb1⟩
    go_wp2
    clear hne
    have hown1 := own_below hown hb1 (Nat.le_refl _)
    have hbw1 : Below base w w1 := hb1.mono hbase
    clear hb1 hown
    go_loopw [5, 6] (fun s5 s6 wr => ∃ (i j : Nat) (L : List HOp), i < j ∧ j ≤ n ∧ s5 = .int .i64 i ∧ s6 = .int .i64 j ∧ wr.ownsRow base 67 3 (.slice (some ⟨g, 0, none⟩) n cap) n (cellsH L) ∧ Hid (L.length = n ∧ L.take i = (h.take j).filter (fun o => !p o) ∧ L.drop j = h.drop j) ∧ Below base w wr)
      (fun _ s6 _ => n - (intOf s6).toNat)
    case atStart => exact ⟨i0, i0 + 1, h, by omega, by omega, rfl, by go_num, hown1, ⟨HL.out, HI.out.symm, rfl⟩, hbw1⟩
    case round =>
      obtain ⟨i, j, L, hij, hj, rfl, rfl, hownr, HK, hbw⟩ := hrel
      have hgr : g < wr.heap.size := (hownr.lt g rfl).2
      by_cases hlt : j < n
      · obtain ⟨b, off, o, he, hb, ho, c0, c1, c2⟩ := (rd_own hownr).op (k := j) (by omega)
        cases he
        simp only [Nat.zero_add] at c0 c1 c2
        have HO : Hid (h[j]? = some o ∧ o ∈ h) := by
          have : h[j]? = some o := by
            have h1 := congrArg (fun l => l[0]?) HK.out.2.2
            simpa [ho] using h1.symm
          exact ⟨this, List.mem_of_getElem? this⟩
        clear ho
        have D0 : ∃ v, wr.cell? ⟨g, i * 3, none⟩ = some v := ⟨_, (hownr.cellAt (i * 3) (by omega)).trans (List.getElem?_eq_getElem (by rw [hownr.1]; omega))⟩
        have D1 : ∃ v, wr.cell? ⟨g, i * 3 + 1, none⟩ = some v := ⟨_, (hownr.cellAt (i * 3 + 1) (by omega)).trans (List.getElem?_eq_getElem (by rw [hownr.1]; omega))⟩
        have D2 : ∃ v, wr.cell? ⟨g, i * 3 + 2, none⟩ = some v := ⟨_, (hownr.cellAt (i * 3 + 2) (by omega)).trans (List.getElem?_eq_getElem (by rw [hownr.1]; omega))⟩
        obtain ⟨x0, d0⟩ := D0
        obtain ⟨x1, d1⟩ := D1
        obtain ⟨x2, d2⟩ := D2
        have f0 := hownr.frozenAt (i * 3)
        have f1 := hownr.frozenAt (i * 3 + 1)
        have f2 := hownr.frozenAt (i * 3 + 2)
        cases hP : p o
        · go_wp2_with fail
          refine (HF.out o HO.out.2 _ (hbw.alloc (by omega) _)).mono ?_
          rintro e w2 ⟨rfl, hb2⟩
          rw [hP]
          obtain ⟨hc2, hf2⟩ := bcell hb2
          have HK2 : Hid ((L.set i o).length = n ∧ (L.set i o).take (i + 1) = (h.take (j + 1)).filter (fun o => !p o) ∧ (L.set i o).drop (j + 1) = h.drop (j + 1)) := by
            refine ⟨by simp [HK.out.1], ?_, ?_⟩
            · rw [List.take_add_one, List.take_add_one, HO.out.1, List.take_set_of_le (Nat.le_refl _), HK.out.2.1, List.getElem?_set_self (by rw [HK.out.1]; omega)]; simp [hP]
            · rw [List.drop_set_of_lt (by omega)]
              have := congrArg (List.drop 1) HK.out.2.2; simpa [List.drop_drop, Nat.add_comm] using this
          have HOW := Lib.hid (own_set3 (own_below (hownr.alloc (.cells #[.int .i64 o.tx, .int .i64 o.what, .int .i64 o.item] 67)) hb2 (Nat.le_refl _)) i o)
          have HBW : Below base w w2 := (hbw.alloc (by omega) _).trans (hb2.mono (by simp; omega))
          go_wp2
          go_roundw
          case rel => exact ⟨i + 1, j + 1, L.set i o, by omega, by omega, by go_num, by go_num, HOW.out, HK2, ((HBW.setCell hgb.1 _).setCell hgb.1 _).setCell hgb.1 _⟩
          case measure => simp [intOf]; omega
        · go_wp2_with fail
          refine (HF.out o HO.out.2 _ (hbw.alloc (by omega) _)).mono ?_
          rintro e w2 ⟨rfl, hb2⟩
          rw [hP]
          have HK2 : Hid (L.length = n ∧ L.take i = (h.take (j + 1)).filter (fun o => !p o) ∧ L.drop (j + 1) = h.drop (j + 1)) := by
            refine ⟨HK.out.1, ?_, ?_⟩
            · rw [List.take_add_one, HO.out.1]; simp [hP, HK.out.2.1]
            · have := congrArg (List.drop 1) HK.out.2.2; simpa [List.drop_drop, Nat.add_comm] using this
          go_wp2
          go_roundw
          case rel => exact ⟨i, j + 1, L, by omega, by omega, rfl, by go_num, own_below (hownr.alloc _) hb2 (Nat.le_refl _), HK2, (hbw.alloc (by omega) _).trans (hb2.mono (by simp; omega))⟩
          case measure => simp [intOf]; omega
      · have HK2 : Hid (cellsH (h.filter fun o => !p o) = (cellsH L).take (i * 3)) := by
          have h1 : L.take i = h.filter fun o => !p o := by
            have := HK.out.2.1
            rwa [List.take_of_length_le (l := h) (by rw [HL.out]; omega)] at this
          rw [← h1]
          exact Lib.hid (cellsH_take L i).symm
        
        go_wp2_with ((with_reducible show wpList _ _ _ _ _ _); refine wpList_clear (base := base) rfl (.tmp 38) _ rfl slt_lock hownr (i := i) (by omega) rfl (fun _ => rfl) ?_; intro w3 hown3 hg3)
        go_ret
        exact ⟨i, rfl, by rw [HK2.out]; exact hown3, hbw.grown hg3 (by have := hbw.size; omega) (fun k hk => by cases hk; exact hgb.1)⟩

/-! ### The tests that catch variables. -/
theorem free1_any (y x : HOp) (gx : Nat) (w : World) (hB : Blk w gx 67 [.int .i64 x.tx, .int .i64 x.what, .int .i64 x.item]) :
    Calls Tryz.prog 62 #[y.val, .pointer (some ⟨gx, 0, none⟩)] w fun e w' => e = .returned (.bool (loddsB x y)) ∧ Below w.heap.size w w' := by
  obtain ⟨y1, y2, y3⟩ := y
  obtain ⟨x1, x2, x3⟩ := x
  have hlt := hB.lt
  have c0 := hB.cellS (i := 0) (v := .int .i64 x1) rfl
  have c1 := hB.cellS (i := 1) (v := .int .i64 x2) rfl
  have c2 := hB.cellS (i := 2) (v := .int .i64 x3) rfl
  have C := hide (fun w1 => lodds_any ⟨x1, x2, x3⟩ ⟨y1, y2, y3⟩ w1)
  unfold HOp.val at C ⊢
  go_enter Tryz.func62, Tryz.ntmps62
  go_wp2_with fail
  refine (unhide C _).mono ?_
  rintro e w1 ⟨rfl, hb1⟩
  have hbw := ((Below.refl w.heap.size w).alloc (Nat.le_refl _) _).trans (hb1.mono (by simp))
  go_wp2
  go_ret
  exact ⟨rfl, hbw⟩
theorem waiting1_any (y : HOp) (gx : Nat) (tx : Int) (w : World) (hB : Blk w gx 3 [.int .i64 tx]) :
    Calls Tryz.prog 59 #[y.val, .pointer (some ⟨gx, 0, none⟩)] w fun e w' => e = .returned (.bool (decide (y.tx = tx))) ∧ Below w.heap.size w w' := by
  obtain ⟨y1, y2, y3⟩ := y
  have hlt := hB.lt
  have c0 := hB.cellS (i := 0) (v := .int .i64 tx) rfl
  unfold HOp.val
  go_enter Tryz.func59, Tryz.ntmps59
  go_wp2
  go_ret
  exact ⟨rfl, (Below.refl w.heap.size w).alloc (Nat.le_refl _) _⟩
theorem free2_any (y : HOp) (gx : Nat) (tx : Int) (w : World) (hB : Blk w gx 3 [.int .i64 tx]) :
    Calls Tryz.prog 56 #[y.val, .pointer (some ⟨gx, 0, none⟩)] w fun e w' => e = .returned (.bool (decide (y.tx = tx))) ∧ Below w.heap.size w w' := by
  obtain ⟨y1, y2, y3⟩ := y
  have hlt := hB.lt
  have c0 := hB.cellS (i := 0) (v := .int .i64 tx) rfl
  unfold HOp.val
  go_enter Tryz.func56, Tryz.ntmps56
  go_wp2
  go_ret
  exact ⟨rfl, (Below.refl w.heap.size w).alloc (Nat.le_refl _) _⟩
theorem of1_any (y : HOp) (g1 g2 : Nat) (tx item : Int) (w : World) (hB : Blk w g1 3 [.int .i64 tx]) (hC : Blk w g2 3 [.int .i64 item]) :
    Calls Tryz.prog 60 #[y.val, .pointer (some ⟨g1, 0, none⟩), .pointer (some ⟨g2, 0, none⟩)] w fun e w' => e = .returned (.bool (decide (y.tx = tx) && decide (y.what = item))) ∧ Below w.heap.size w w' := by
  obtain ⟨y1, y2, y3⟩ := y
  have hlt := hB.lt
  have hlt2 := hC.lt
  have c0 := hB.cellS (i := 0) (v := .int .i64 tx) rfl
  have c1 := hC.cellS (i := 0) (v := .int .i64 item) rfl
  unfold HOp.val
  by_cases h1 : y1 = tx
  · subst h1
    go_enter Tryz.func60, Tryz.ntmps60
    go_wp2
    go_ret
    exact ⟨ret_bool (by rw [Bool.eq_iff_iff]; simp), (Below.refl w.heap.size w).alloc (Nat.le_refl _) _⟩
  · have h2 : (y1 == tx) = false := by simpa using h1
    go_enter Tryz.func60, Tryz.ntmps60
    go_wp2
    go_ret
    exact ⟨ret_bool (by simp [h1]), (Below.refl w.heap.size w).alloc (Nat.le_refl _) _⟩
theorem call_free1 (args : Array Value) (w : World) : (callFunc 62 args).run Tryz.prog w = .ok (.enter 62 args) w := by kernel_rfl
theorem call_waiting1 (args : Array Value) (w : World) : (callFunc 59 args).run Tryz.prog w = .ok (.enter 59 args) w := by kernel_rfl
theorem call_free2 (args : Array Value) (w : World) : (callFunc 56 args).run Tryz.prog w = .ok (.enter 56 args) w := by kernel_rfl
theorem call_of1 (args : Array Value) (w : World) : (callFunc 60 args).run Tryz.prog w = .ok (.enter 60 args) w := by kernel_rfl

/-! ### free, of. -/
def freeB (l : List HOp) (x : HOp) : Bool := !l.any (loddsB x)
def ofP (tx item : Int) (y : HOp) : Bool := decide (y.tx = tx) && decide (y.what = item)

set_option maxHeartbeats 400000 in
theorem lfree_any (A : Option Addr) (n c : Nat) (l : List HOp) (x : HOp) (w : World) (hr : Rd w w.heap.size 3 A n (cellsH l)) (hm : n ≤ 6000000000000) :
    Calls Tryz.prog 41 #[.slice A n c, x.val] w fun e w' => e = .returned (.bool (freeB l x)) ∧ Below w.heap.size w w' := by
  have C := hide (fun w1 F caps p (hb : Below w.heap.size w w1) => containsFunc_lock A n c l F caps p w1 ((hr.below hb).more hb.size) hm)
  obtain ⟨x1, x2, x3⟩ := x
  unfold HOp.val
  go_enter Tryz.func41, Tryz.ntmps41
  go_wp2_with fail
  have hb0 : Below w.heap.size w (w.alloc (.cells #[.int .i64 x1, .int .i64 x2, .int .i64 x3] 67)) := (Below.refl _ _).alloc (Nat.le_refl _) _
  have hB := Blk.new w 67 [.int .i64 x1, .int .i64 x2, .int .i64 x3]
  refine Calls.mono (unhide C _ 62 #[.pointer (some ⟨w.heap.size, 0, none⟩)] (loddsB ⟨x1, x2, x3⟩) hb0 call_free1 (fun y _ w' hw' => free1_any y ⟨x1, x2, x3⟩ w.heap.size w' (hB.below hw' (by simp)))) ?_
  rintro e w1 ⟨rfl, hb1⟩
  have hbw := hb0.trans (hb1.mono hb0.size)
  go_wp2
  go_ret
  exact ⟨rfl, hbw⟩

set_option maxHeartbeats 400000 in
theorem lof_any (A : Option Addr) (n c : Nat) (l : List HOp) (tx item : Int) (w : World) (hr : Rd w w.heap.size 3 A n (cellsH l)) (hm : n ≤ 6000000000000) :
    Calls Tryz.prog 40 #[.slice A n c, .int .i64 tx, .int .i64 item] w fun e w' => e = .returned (.int .i64 (idxGo (ofP tx item) 0 l)) ∧ Below w.heap.size w w' := by
  have C := hide (fun w1 F caps p (hb : Below w.heap.size w w1) => indexFunc_lock A n c l F caps p w1 ((hr.below hb).more hb.size) hm)
  go_enter Tryz.func40, Tryz.ntmps40
  go_wp2_with fail
  have hb0 : Below w.heap.size w ((w.alloc (.cells #[.int .i64 tx] 3)).alloc (.cells #[.int .i64 item] 3)) := ((Below.refl _ _).alloc (Nat.le_refl _) _).alloc (by simp) _
  have hB := (Blk.new w 3 [.int .i64 tx]).alloc (.cells #[.int .i64 item] 3)
  have hC : Blk ((w.alloc (.cells #[.int .i64 tx] 3)).alloc (.cells #[.int .i64 item] 3)) (w.heap.size + 1) 3 [.int .i64 item] := by simpa using Blk.new (w.alloc (.cells #[.int .i64 tx] 3)) 3 [.int .i64 item]
  refine Calls.mono (unhide C _ 60 #[.pointer (some ⟨w.heap.size, 0, none⟩), .pointer (some ⟨w.heap.size + 1, 0, none⟩)] (ofP tx item) hb0 call_of1 (fun y _ w' hw' => of1_any y w.heap.size (w.heap.size + 1) tx item w' (hB.below hw' (by simp; omega)) (hC.below hw' (by simp)))) ?_
  rintro e w1 ⟨rfl, hb1⟩
  have hbw := hb0.trans (hb1.mono hb0.size)
  go_wp2
  go_ret
  exact ⟨rfl, hbw⟩
end Go.Proofs.YtbccnafdfeempaaGreatDoor

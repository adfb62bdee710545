
/-
  WORDS between the kit's sort (Holds, putRow, grow) and rows that the call owns.
  CONTRACTS of slices.Sort, Compact, Delete at []int on a row that the call owns, by the shelf's.
-/
import Derived.Test.YtfmdeahblaikoaaGreatDoorBG1
import Derived.Test.YtfmdeahblaikoaaGreatDoorBG2
import Derived.Shelf.GgSortFunc.RowK
import Derived.Sort.Grow
import Derived.Test.YtfmdeahblaikoaaGreatDoorLays
import Derived.Test.YtfmdeahblaikoaaGreatDoorSortP

namespace Go.Proofs.YtfmdeahblaikoaaGreatDoor
open Go.RowKit Go.Sort

theorem cur_get {cur : Array Value} {k : Nat} {xs : List Value} (h : cur.toList.take k = xs) {j : Nat} (hj : j < xs.length) : cur[j]? = some xs[j] := by
  subst h
  rw [List.length_take] at hj
  rw [List.getElem_take, ← Array.getElem?_toList]
  exact List.getElem?_eq_getElem (by omega)
theorem holds_own {w : World} {base : Nat} {e : TypeId} {size g n c : Nat} {xs : List Value} (h : w.ownsRow base e size (.slice (some ⟨g, 0, none⟩) n c) n xs) : Holds id w g 0 xs.toArray := by
  obtain ⟨hl, ⟨he, _⟩ | ⟨g', cap, cur, he, hb, hg, h1, h2, h3, h4⟩⟩ := h
  · cases he
  · injection he with e1
    injection e1 with e1
    injection e1 with e1
    subst e1
    intro j hj
    have hj' : j < xs.length := by simpa using hj
    refine ⟨?_, by simp [World.frozen?, hg]⟩
    have := cur_get h4 hj'
    simp only [World.cell?, hg, Nat.zero_add]
    rw [this]
    simp [hj']
theorem heap_putRow (w : World) (g : Nat) (F : Array Value) (m : Nat) (os : Array Obj) {j : Nat} (hj : j < w.heap.size) (hne : j ≠ g) : (grow (putRow id (Sort.ahead w m) g 0 F) os).heap[j]? = w.heap[j]? := by
  rw [heap_grow_old _ _ (by simp [putRow, mapBlock, Sort.ahead]; exact hj)]
  simp only [putRow, mapBlock, Sort.ahead, Array.getElem?_modify]
  rw [if_neg (fun e => hne e.symm)]
theorem heap_putRow_at (w : World) (g : Nat) (F cur : Array Value) (e : TypeId) (fr : Nat × Nat) (m : Nat) (os : Array Obj) (hg : w.heap[g]? = some (.cells cur e fr)) : (grow (putRow id (Sort.ahead w m) g 0 F) os).heap[g]? = some (.cells (putCells id 0 F cur) e fr) := by
  have hlt := (Array.getElem?_eq_some_iff.1 hg).1
  rw [heap_grow_old _ _ (by simp [putRow, mapBlock, Sort.ahead]; exact hlt)]
  simp only [putRow, mapBlock, Sort.ahead, Array.getElem?_modify, if_true]
  rw [hg]; rfl
theorem own_sorted {w : World} {base : Nat} {e : TypeId} {size g n c : Nat} {xs : List Value} (h : w.ownsRow base e size (.slice (some ⟨g, 0, none⟩) n c) n xs) (F : Array Value) (hF : F.size = n * size) (m : Nat) (os : Array Obj) :
    (grow (putRow id (Sort.ahead w m) g 0 F) os).ownsRow base e size (.slice (some ⟨g, 0, none⟩) n c) n F.toList := by
  obtain ⟨hl, ⟨he, _⟩ | ⟨g', cap, cur, he, hb, hg, h1, h2, h3, h4⟩⟩ := h
  · cases he
  · injection he with e1 e2 e3
    injection e1 with e1
    injection e1 with e1
    subst e1 e3
    refine ⟨by simpa using hF, .inr ⟨g, c, _, rfl, hb, heap_putRow_at w g F cur e (0, 0) m os hg, h1, h2, by simp [putCells, h3], ?_⟩⟩
    have hle : n * size ≤ c * size := Nat.mul_le_mul_right _ h1
    refine List.ext_getElem? fun j => ?_
    rw [List.getElem?_take]
    by_cases hj : j < n * size
    · rw [if_pos hj]
      have hjc : j < cur.size := by omega
      have hjF : j < F.size := by omega
      simp [putCells, hjc, hjF, Array.getElem!_eq_getD, Array.getD]
    · rw [if_neg hj, List.getElem?_eq_none (by simp; omega)]
theorem sorted_grown (w : World) (g : Nat) (F : Array Value) (m : Nat) (os : Array Obj) : w.grownBy (grow (putRow id (Sort.ahead w m) g 0 F) os) (some g) :=
  ⟨rfl, rfl, rfl, by simp [putRow, mapBlock, Sort.ahead], fun k hk hne => heap_putRow w g F m os hk (fun e => hne (by rw [e]))⟩
theorem putRow_map (enc : Int → Value) (w : World) (blk off : Nat) (d : Array Int) : putRow enc w blk off d = putRow id w blk off (d.map enc) := by
  unfold putRow
  congr 1
  funext c
  unfold putCells
  refine Array.ext (by simp) fun i h1 h2 => ?_
  simp only [Array.getElem_mapIdx, Array.size_map]
  by_cases hi : off ≤ i ∧ i < off + d.size
  · have : i - off < d.size := by omega
    simp [hi, this]
  · simp [hi]
theorem holds_map {enc : Int → Value} {w : World} {blk off : Nat} {d : Array Int} (h : Holds id w blk off (d.map enc)) : Holds enc w blk off d := fun j hj => by
  have := h j (by simpa using hj)
  simpa [Array.getElem!_eq_getD, Array.getD, hj] using this
def encP (x : Int × Int) : List Value := [.int .i64 x.1, .int .i64 x.2]
theorem flatK_pairs (d : Array (Int × Int)) : flatK encP 2 d = (dcells d.toList).toArray := by
  have hdl : ∀ l : List (Int × Int), (dcells l).length = l.length * 2 := fun l => by
    induction l with
    | nil => rfl
    | cons x r ih =>
      have e : dcells (x :: r) = [.int .i64 x.1, .int .i64 x.2] ++ dcells r := rfl
      rw [e, List.length_append, ih]; simp; omega
  refine ext_get! (by simp [size_flatK, hdl]) fun t ht => ?_
  have ht' : t < d.size * 2 := by simpa using ht
  rw [get_flatK _ _ _ t ht']
  have hd : t / 2 < d.size := by omega
  have key : ∀ (l : List (Int × Int)) (t : Nat), t < l.length * 2 → (dcells l)[t]? = some ((encP (l.getD (t / 2) default))[t % 2]!) := by
    intro l
    induction l with
    | nil => intro t h; simp at h
    | cons x r ih =>
      intro t h
      have e : dcells (x :: r) = [.int .i64 x.1, .int .i64 x.2] ++ dcells r := rfl
      rw [e]
      match t with
      | 0 => rfl
      | 1 => rfl
      | t + 2 =>
        rw [List.getElem?_append_right (by simp), show t + 2 - [Value.int .i64 x.1, .int .i64 x.2].length = t by simp, ih t (by simp at h; omega)]
        have e1 : (t + 2) / 2 = t / 2 + 1 := by omega
        have e2 : (t + 2) % 2 = t % 2 := by omega
        rw [e1, e2]; rfl
  have h2 := key d.toList t (by simpa using ht')
  rw [Array.getElem!_eq_getD, Array.getElem!_eq_getD]
  simp only [Array.getD_eq_getD_getElem?, List.getElem?_toArray]
  rw [h2]
  simp [hd]
end Go.Proofs.YtfmdeahblaikoaaGreatDoor


namespace Go.Proofs.YtfmdeahblaikoaaGreatDoor
open Go.RowKit Go.Sort Go.Shelf

theorem cellsI_map (l : List Int) : (l.toArray.map (Value.int .i64)).toList = cellsI l := by simp [cellsI]
theorem holds_ints {w : World} {base : Nat} {e : TypeId} {g n c : Nat} {l : List Int} (h : w.ownsRow base e 1 (.slice (some ⟨g, 0, none⟩) n c) n (cellsI l)) : Holds (Value.int .i64) w g 0 l.toArray :=
  holds_map (by have := holds_own h; have e : l.toArray.map (Value.int .i64) = (cellsI l).toArray := by simp [cellsI]
                rw [e]; exact this)
theorem own_none {w : World} {base : Nat} {e : TypeId} {size n c : Nat} {xs : List Value} (h : w.ownsRow base e size (.slice none n c) n xs) : n = 0 ∧ c = 0 ∧ xs = [] := by
  obtain ⟨hl, ⟨he, h0⟩ | ⟨g, cap, cur, he, _⟩⟩ := h
  · injection he with e1 e2 e3
    subst h0
    exact ⟨rfl, e3, List.eq_nil_of_length_eq_zero (by simpa using hl)⟩
  · injection he with e1; cases e1
theorem own_some {w : World} {base : Nat} {e : TypeId} {size n c : Nat} {A : Option Addr} {xs : List Value} (h : w.ownsRow base e size (.slice A n c) n xs) : (A = none ∧ n = 0 ∧ c = 0 ∧ xs = []) ∨ ∃ g, A = some ⟨g, 0, none⟩ ∧ base ≤ g ∧ g < w.heap.size ∧ n ≤ c ∧ c ≤ maxLen := by
  cases A with
  | none => exact .inl ⟨rfl, own_none h⟩
  | some a =>
    obtain ⟨hl, ⟨he, h0⟩ | ⟨g, cap, cur, he, hb, hg, h1, h2, _⟩⟩ := h
    · cases he
    · injection he with e1 e2 e3
      injection e1 with e1
      subst e1 e3
      exact .inr ⟨g, rfl, hb, (Array.getElem?_eq_some_iff.1 hg).1, h1, h2⟩
theorem own_put {w : World} {base : Nat} {e : TypeId} {g n c : Nat} {xs : List Value} (h : w.ownsRow base e 1 (.slice (some ⟨g, 0, none⟩) n c) n xs) (F : List Int) (hF : F.length = n) (m : Nat) (os : Array Obj) :
    (grow (putRow (Value.int .i64) (Sort.ahead w m) g 0 F.toArray) os).ownsRow base e 1 (.slice (some ⟨g, 0, none⟩) n c) n (cellsI F) ∧ w.grownBy (grow (putRow (Value.int .i64) (Sort.ahead w m) g 0 F.toArray) os) (some g) := by
  rw [putRow_map]
  refine ⟨?_, sorted_grown w g _ m os⟩
  have := own_sorted h (F.toArray.map (Value.int .i64)) (by simp [hF]) m os
  rw [cellsI_map] at this
  exact this
theorem own_shorter {w : World} {base : Nat} {e : TypeId} {size g n k c : Nat} {xs : List Value} (h : w.ownsRow base e size (.slice (some ⟨g, 0, none⟩) n c) n xs) (hk : k ≤ n) : w.ownsRow base e size (.slice (some ⟨g, 0, none⟩) k c) k (xs.take (k * size)) := by
  obtain ⟨hl, ⟨he, h0⟩ | ⟨g', cap, cur, he, hb, hg, h1, h2, h3, h4⟩⟩ := h
  · cases he
  · injection he with e1 e2 e3
    injection e1 with e1
    injection e1 with e1
    subst e1 e3
    have hle : k * size ≤ n * size := Nat.mul_le_mul_right _ hk
    refine ⟨by rw [List.length_take, hl]; omega, .inr ⟨g, c, cur, rfl, hb, hg, by omega, h2, h3, ?_⟩⟩
    rw [← h4, List.take_take, Nat.min_eq_left hle]

/-- What slices.Sort makes of numbers. -/
def sortI (l : List Int) : List Int := l.mergeSort fun x y => decide (x ≤ y)
theorem sortI_len (l : List Int) : (sortI l).length = l.length := List.length_mergeSort _
theorem sortI_mem {l : List Int} {x : Int} : x ∈ sortI l ↔ x ∈ l := List.mem_mergeSort
theorem sortI_up (l : List Int) : (sortI l).Pairwise fun x y => ltI y x = false := by
  have := List.pairwise_mergeSort (le := fun x y : Int => decide (x ≤ y)) (fun a b c => by simp; omega) (fun a b => by simp; omega) l
  exact this.imp fun {a b} h => by simp [ltI] at h ⊢; omega

theorem compGo_snoc (x : Int) : ∀ (l : List Int) (p : Int), compGo p (l ++ [x]) = if x = l.getLastD p then compGo p l else compGo p l ++ [x]
  | [], p => by simp [compGo]
  | y :: t, p => by
    rw [List.cons_append, compGo, compGo, compGo_snoc x t y, List.getLastD_cons]
    by_cases h1 : y = p
    · rw [if_pos h1, if_pos h1]
    · rw [if_neg h1, if_neg h1]
      by_cases h2 : x = t.getLastD y
      · rw [if_pos h2, if_pos h2]
      · rw [if_neg h2, if_neg h2]; rfl
theorem lastD_take : ∀ (t : List Int) (x : Int) (k : Nat), k ≤ t.length → (t.take k).getLastD x = (x :: t).getD k 0
  | t, x, 0, _ => by simp
  | y :: t, x, k + 1, h => by
    rw [List.take_succ_cons, List.getLastD_cons, lastD_take t y k (by simpa using h)]; rfl
theorem compact_eq (l : List Int) : Lib.compact l = compL l := by
  have key : ∀ m, m ≤ l.length → Lib.compactUpTo l.toArray m = compL (l.take m) := by
    intro m
    induction m with
    | zero => intro _; rfl
    | succ m ih =>
      intro hm
      have hs : Lib.compactUpTo l.toArray (m + 1) = Lib.compactUpTo l.toArray m ++ (if Lib.keeps l.toArray m = true then [l.toArray[m]!] else []) := by
        unfold Lib.compactUpTo
        rw [List.range_succ, List.filter_append, List.map_append]
        by_cases hk : Lib.keeps l.toArray m = true <;> simp [hk]
      rw [hs, ih (by omega)]
      match l, m with
      | x :: t, 0 => simp [Lib.keeps, compL, compGo]
      | x :: t, m + 1 =>
        have hmt : m < t.length := by simp at hm; omega
        have e1 : t.take (m + 1) = t.take m ++ [t[m]] := by rw [List.take_succ_eq_append_getElem hmt]
        rw [List.take_succ_cons, List.take_succ_cons, compL, compL, e1, compGo_snoc, lastD_take t x m (by omega)]
        have e2 : (x :: t).toArray[m + 1]! = t[m] := by simp [hmt]
        have e3 : (x :: t).toArray[m + 1 - 1]! = (x :: t).getD m 0 := by
          rw [Nat.add_sub_cancel]
          simp [List.getD_eq_getElem?_getD, Array.getElem!_eq_getD, Array.getD_eq_getD_getElem?]
        by_cases hk : t[m] = (x :: t).getD m 0
        · rw [if_neg (by rw [Lib.keeps_neg (by omega) (by rw [e2, e3, hk])]; simp), if_pos hk, List.append_nil]
        · rw [if_pos (Lib.keeps_pos (by rw [e2, e3]; exact hk)), if_neg hk, e2]; rfl
  have := key l.length (Nat.le_refl _)
  rw [List.take_length] at this
  exact this
end Go.Proofs.YtfmdeahblaikoaaGreatDoor


/-
  WORDS between the kit's sort (Holds, putRow, grow) and rows that the call owns.
-/
import Derived.Test.YtmamejkdheigjaaApp
import Derived.Test.YtmamejkdheigjaaPlay
import Derived.Shelf.GgSortFunc.RowK
import Derived.Sort.Grow

namespace Go.Proofs.Ytmamejkdheigjaa
open Go.RowKit Go.Sort

theorem cur_get {cur : Array Value} {k : Nat} {xs : List Value} (h : cur.toList.take k = xs) {j : Nat} (hj : j < xs.length) : cur[j]? = some xs[j] := by
  subst h
  rw [List.length_take] at hj
  rw [List.getElem_take, ← Array.getElem?_toList]
  exact List.getElem?_eq_getElem (by omega)
theorem holds_own {w : World} {base : Nat} {e : TypeId} {size g n c : Nat} {xs : List Value} (h : w.ownsRow base e size (.slice (some ⟨g, 0, none⟩) n c) n xs) : Holds id w g 0 xs.toArray := by
  obtain ⟨hl, ⟨he, _⟩ | ⟨g', cap, cur, he, hb, hg, h1, h2, h3, h4⟩⟩ := h
  · cases he
  · injection he with e1
    injection e1 with e1
    injection e1 with e1
    subst e1
    intro j hj
    have hj' : j < xs.length := by simpa using hj
    refine ⟨?_, by simp [World.frozen?, hg]⟩
    have := cur_get h4 hj'
    simp only [World.cell?, hg, Nat.zero_add]
    rw [this]
    simp [hj']
theorem heap_putRow (w : World) (g : Nat) (F : Array Value) (m : Nat) (os : Array Obj) {j : Nat} (hj : j < w.heap.size) (hne : j ≠ g) : (grow (putRow id (Sort.ahead w m) g 0 F) os).heap[j]? = w.heap[j]? := by
  rw [heap_grow_old _ _ (by simp [putRow, mapBlock, Sort.ahead]; exact hj)]
  simp only [putRow, mapBlock, Sort.ahead, Array.getElem?_modify]
  rw [if_neg (fun e => hne e.symm)]
theorem heap_putRow_at (w : World) (g : Nat) (F cur : Array Value) (e : TypeId) (fr : Nat × Nat) (m : Nat) (os : Array Obj) (hg : w.heap[g]? = some (.cells cur e fr)) : (grow (putRow id (Sort.ahead w m) g 0 F) os).heap[g]? = some (.cells (putCells id 0 F cur) e fr) := by
  have hlt := (Array.getElem?_eq_some_iff.1 hg).1
  rw [heap_grow_old _ _ (by simp [putRow, mapBlock, Sort.ahead]; exact hlt)]
  simp only [putRow, mapBlock, Sort.ahead, Array.getElem?_modify, if_true]
  rw [hg]; rfl
theorem own_sorted {w : World} {base : Nat} {e : TypeId} {size g n c : Nat} {xs : List Value} (h : w.ownsRow base e size (.slice (some ⟨g, 0, none⟩) n c) n xs) (F : Array Value) (hF : F.size = n * size) (m : Nat) (os : Array Obj) :
    (grow (putRow id (Sort.ahead w m) g 0 F) os).ownsRow base e size (.slice (some ⟨g, 0, none⟩) n c) n F.toList := by
  obtain ⟨hl, ⟨he, _⟩ | ⟨g', cap, cur, he, hb, hg, h1, h2, h3, h4⟩⟩ := h
  · cases he
  · injection he with e1 e2 e3
    injection e1 with e1
    injection e1 with e1
    subst e1 e3
    refine ⟨by simpa using hF, .inr ⟨g, c, _, rfl, hb, heap_putRow_at w g F cur e (0, 0) m os hg, h1, h2, by simp [putCells, h3], ?_⟩⟩
    have hle : n * size ≤ c * size := Nat.mul_le_mul_right _ h1
    refine List.ext_getElem? fun j => ?_
    rw [List.getElem?_take]
    by_cases hj : j < n * size
    · rw [if_pos hj]
      have hjc : j < cur.size := by omega
      have hjF : j < F.size := by omega
      simp [putCells, hjc, hjF, Array.getElem!_eq_getD, Array.getD]
    · rw [if_neg hj, List.getElem?_eq_none (by simp; omega)]
theorem sorted_grown (w : World) (g : Nat) (F : Array Value) (m : Nat) (os : Array Obj) : w.grownBy (grow (putRow id (Sort.ahead w m) g 0 F) os) (some g) :=
  ⟨rfl, rfl, rfl, by simp [putRow, mapBlock, Sort.ahead], fun k hk hne => heap_putRow w g F m os hk (fun e => hne (by rw [e]))⟩
theorem putRow_map (enc : Int → Value) (w : World) (blk off : Nat) (d : Array Int) : putRow enc w blk off d = putRow id w blk off (d.map enc) := by
  unfold putRow
  congr 1
  funext c
  unfold putCells
  refine Array.ext (by simp) fun i h1 h2 => ?_
  simp only [Array.getElem_mapIdx, Array.size_map]
  by_cases hi : off ≤ i ∧ i < off + d.size
  · have : i - off < d.size := by omega
    simp [hi, this]
  · simp [hi]
theorem holds_map {enc : Int → Value} {w : World} {blk off : Nat} {d : Array Int} (h : Holds id w blk off (d.map enc)) : Holds enc w blk off d := fun j hj => by
  have := h j (by simpa using hj)
  simpa [Array.getElem!_eq_getD, Array.getD, hj] using this
def encP (x : Int × Int) : List Value := [.int .i64 x.1, .int .i64 x.2]
theorem flatK_pairs (d : Array (Int × Int)) : flatK encP 2 d = (dcells d.toList).toArray := by
  have hdl : ∀ l : List (Int × Int), (dcells l).length = l.length * 2 := fun l => by
    induction l with
    | nil => rfl
    | cons x r ih =>
      have e : dcells (x :: r) = [.int .i64 x.1, .int .i64 x.2] ++ dcells r := rfl
      rw [e, List.length_append, ih]; simp; omega
  refine ext_get! (by simp [size_flatK, hdl]) fun t ht => ?_
  have ht' : t < d.size * 2 := by simpa using ht
  rw [get_flatK _ _ _ t ht']
  have hd : t / 2 < d.size := by omega
  have key : ∀ (l : List (Int × Int)) (t : Nat), t < l.length * 2 → (dcells l)[t]? = some ((encP (l.getD (t / 2) default))[t % 2]!) := by
    intro l
    induction l with
    | nil => intro t h; simp at h
    | cons x r ih =>
      intro t h
      have e : dcells (x :: r) = [.int .i64 x.1, .int .i64 x.2] ++ dcells r := rfl
      rw [e]
      match t with
      | 0 => rfl
      | 1 => rfl
      | t + 2 =>
        rw [List.getElem?_append_right (by simp), show t + 2 - [Value.int .i64 x.1, .int .i64 x.2].length = t by simp, ih t (by simp at h; omega)]
        have e1 : (t + 2) / 2 = t / 2 + 1 := by omega
        have e2 : (t + 2) % 2 = t % 2 := by omega
        rw [e1, e2]; rfl
  have h2 := key d.toList t (by simpa using ht')
  rw [Array.getElem!_eq_getD, Array.getElem!_eq_getD]
  simp only [Array.getD_eq_getD_getElem?, List.getElem?_toArray]
  rw [h2]
  simp [hd]
end Go.Proofs.Ytmamejkdheigjaa

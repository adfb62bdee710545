
/-
  PLAIN FACTS on strictly rising lists: there is one alone of given elements; insertion, sorting and striking what is there twice.
  WORDS between the kit's sort (Holds, putRow, grow) and rows that the call owns.
  CONTRACTS of slices.Sort, Compact, Delete at []int on a row that the call owns, by the shelf's.
  CONTRACTS of strings.Split at a blank, history.Parse: any text as a history.
-/
import Derived.Test.YtaaahfbcpgdoiaaGreatDoorQ0
import Derived.Test.YtaaahfbcpgdoiaaGreatDoorQ3
import Derived.Shelf.GgSortFunc.RowK
import Derived.Sort.Grow
import Derived.Test.YtaaahfbcpgdoiaaGreatDoorLays
import Derived.Test.YtaaahfbcpgdoiaaGreatDoorRead
import Derived.Lib.SplitLaws

namespace Go.Proofs.YtaaahfbcpgdoiaaGreatDoor
open Go.RowKit

/-- A strict order in which any two that are not one are less or greater. -/
structure SLO {α : Type} (lt : α → α → Bool) : Prop where
  irr : ∀ x, lt x x = false
  trans : ∀ x y z, lt x y = true → lt y z = true → lt x z = true
  tri : ∀ x y, lt x y = true ∨ x = y ∨ lt y x = true
section
variable {α : Type} {lt : α → α → Bool}
def Up (lt : α → α → Bool) (l : List α) : Prop := l.Pairwise fun x y => lt x y = true
theorem up_ext (S : SLO lt) : ∀ {l l' : List α}, Up lt l → Up lt l' → (∀ x, x ∈ l ↔ x ∈ l') → l = l'
  | [], [], _, _, _ => rfl
  | [], b :: t, _, _, h => absurd ((h b).2 (by simp)) (by simp)
  | a :: t, [], _, _, h => absurd ((h a).1 (by simp)) (by simp)
  | a :: t, b :: t', h1, h2, h => by
    have g1 := List.pairwise_cons.1 h1
    have g2 := List.pairwise_cons.1 h2
    have hab : a = b := by
      rcases List.mem_cons.1 ((h a).1 (by simp)) with e | e
      · exact e
      · rcases List.mem_cons.1 ((h b).2 (by simp)) with e2 | e2
        · exact e2.symm
        · have := S.trans _ _ _ (g2.1 a e) (g1.1 b e2)
          rw [S.irr] at this; cases this
    subst hab
    have ht : ∀ x, x ∈ t ↔ x ∈ t' := fun x => by
      constructor
      · intro hx
        rcases List.mem_cons.1 ((h x).1 (by simp [hx])) with e | e
        · have := g1.1 x hx; rw [e, S.irr] at this; cases this
        · exact e
      · intro hx
        rcases List.mem_cons.1 ((h x).2 (by simp [hx])) with e | e
        · have := g2.1 x hx; rw [e, S.irr] at this; cases this
        · exact e
    rw [up_ext S g1.2 g2.2 ht]

variable [DecidableEq α]
/-- Insertion, once. -/
def insS (lt : α → α → Bool) (x : α) : List α → List α
  | [] => [x]
  | y :: t => if lt y x then y :: insS lt x t else if y = x then y :: t else x :: y :: t
theorem mem_insS {x z : α} : ∀ {l : List α}, z ∈ insS lt x l ↔ z = x ∨ z ∈ l
  | [] => by simp [insS]
  | y :: t => by
    unfold insS
    split
    · rw [List.mem_cons, mem_insS, List.mem_cons]
      constructor
      · rintro (h | h | h)
        · exact .inr (.inl h)
        · exact .inl h
        · exact .inr (.inr h)
      · rintro (h | h | h)
        · exact .inr (.inl h)
        · exact .inl h
        · exact .inr (.inr h)
    · split
      · rename_i e
        rw [List.mem_cons, e]
        constructor
        · exact .inr
        · rintro (h | h)
          · exact .inl h
          · exact h
      · rw [List.mem_cons]
theorem up_insS (S : SLO lt) {x : α} : ∀ {l : List α}, Up lt l → Up lt (insS lt x l)
  | [], _ => List.pairwise_singleton _ _
  | y :: t, h => by
    have g := List.pairwise_cons.1 h
    unfold insS
    split
    · rename_i hyx
      refine List.pairwise_cons.2 ⟨fun z hz => ?_, up_insS S g.2⟩
      rcases mem_insS.1 hz with e | e
      · rw [e]; exact hyx
      · exact g.1 z e
    · rename_i hyx
      split
      · exact h
      · rename_i hne
        have hxy : lt x y = true := by
          rcases S.tri x y with h1 | h1 | h1
          · exact h1
          · exact absurd h1.symm hne
          · exact absurd h1 hyx
        refine List.pairwise_cons.2 ⟨fun z hz => ?_, h⟩
        rcases List.mem_cons.1 hz with e | e
        · rw [e]; exact hxy
        · exact S.trans _ _ _ hxy (g.1 z e)
def sortGo (lt : α → α → Bool) (acc : List α) : List α → List α
  | [] => acc
  | x :: t => sortGo lt (insS lt x acc) t
def sortS (lt : α → α → Bool) (l : List α) : List α := sortGo lt [] l
theorem mem_sortGo {z : α} : ∀ {l acc : List α}, z ∈ sortGo lt acc l ↔ z ∈ acc ∨ z ∈ l
  | [], acc => by simp [sortGo]
  | x :: t, acc => by
    rw [sortGo, mem_sortGo, mem_insS, List.mem_cons]
    constructor
    · rintro ((h | h) | h)
      · exact .inr (.inl h)
      · exact .inl h
      · exact .inr (.inr h)
    · rintro (h | h | h)
      · exact .inl (.inr h)
      · exact .inl (.inl h)
      · exact .inr h
theorem mem_sortS {z : α} {l : List α} : z ∈ sortS lt l ↔ z ∈ l := by unfold sortS; rw [mem_sortGo]; simp
theorem up_sortGo (S : SLO lt) : ∀ {l acc : List α}, Up lt acc → Up lt (sortGo lt acc l)
  | [], _, h => h
  | x :: t, _, h => by rw [sortGo]; exact up_sortGo S (up_insS S h)
theorem up_sortS (S : SLO lt) (l : List α) : Up lt (sortS lt l) := up_sortGo S List.Pairwise.nil
theorem sortS_eq (S : SLO lt) {l m : List α} (h : Up lt m) (hm : ∀ x, x ∈ m ↔ x ∈ l) : m = sortS lt l := up_ext S h (up_sortS S l) fun x => (hm x).trans mem_sortS.symm
theorem sortGo_snoc (acc l : List α) (x : α) : sortGo lt acc (l ++ [x]) = insS lt x (sortGo lt acc l) := by
  induction l generalizing acc with
  | nil => rfl
  | cons y t ih => rw [List.cons_append, sortGo, sortGo, ih]
theorem sortS_snoc (l : List α) (x : α) : sortS lt (l ++ [x]) = insS lt x (sortS lt l) := sortGo_snoc [] l x
theorem sortS_self (S : SLO lt) {l : List α} (h : Up lt l) : sortS lt l = l := (sortS_eq S h fun _ => Iff.rfl).symm

/-- What slices.Compact leaves. -/
def compGo (p : α) : List α → List α
  | [] => []
  | y :: t => if y = p then compGo y t else y :: compGo y t
def compL : List α → List α
  | [] => []
  | x :: t => x :: compGo x t
theorem mem_compGo {z : α} : ∀ {l : List α} {p : α}, z ∈ l → z = p ∨ z ∈ compGo p l
  | y :: t, p, h => by
    unfold compGo
    rcases List.mem_cons.1 h with e | e
    · split
      · rename_i hp; exact .inl (e.trans hp)
      · exact .inr (by simp [e])
    · rcases mem_compGo (p := y) e with h1 | h1
      · split
        · rename_i hp; exact .inl (h1.trans hp)
        · exact .inr (by simp [h1])
      · split
        · exact .inr h1
        · exact .inr (by simp [h1])
theorem compGo_sub {z : α} : ∀ {l : List α} {p : α}, z ∈ compGo p l → z ∈ l
  | [], _, h => by cases h
  | y :: t, p, h => by
    unfold compGo at h
    split at h
    · exact List.mem_cons_of_mem _ (compGo_sub h)
    · rcases List.mem_cons.1 h with e | e
      · simp [e]
      · exact List.mem_cons_of_mem _ (compGo_sub e)
theorem mem_compL {z : α} : ∀ {l : List α}, z ∈ compL l ↔ z ∈ l
  | [] => Iff.rfl
  | x :: t => by
    unfold compL
    constructor
    · intro h
      rcases List.mem_cons.1 h with e | e
      · simp [e]
      · exact List.mem_cons_of_mem _ (compGo_sub e)
    · intro h
      rcases List.mem_cons.1 h with e | e
      · simp [e]
      · rcases mem_compGo (p := x) e with h1 | h1
        · simp [h1]
        · exact List.mem_cons_of_mem _ h1
theorem up_compGo (S : SLO lt) : ∀ {l : List α} {p : α}, (p :: l).Pairwise (fun x y => lt y x = false) → Up lt (compGo p l) ∧ ∀ z ∈ compGo p l, lt p z = true
  | [], _, _ => ⟨List.Pairwise.nil, by simp [compGo]⟩
  | y :: t, p, h => by
    have g := List.pairwise_cons.1 h
    obtain ⟨h1, h2⟩ := up_compGo S g.2
    unfold compGo
    split
    · rename_i e; rw [← e]; exact ⟨h1, h2⟩
    · rename_i hne
      have hpy : lt p y = true := by
        rcases S.tri p y with h3 | h3 | h3
        · exact h3
        · exact absurd h3.symm hne
        · rw [g.1 y (by simp)] at h3; cases h3
      refine ⟨List.pairwise_cons.2 ⟨h2, h1⟩, fun z hz => ?_⟩
      rcases List.mem_cons.1 hz with e | e
      · rw [e]; exact hpy
      · exact S.trans _ _ _ hpy (h2 z e)
theorem up_compL (S : SLO lt) : ∀ {l : List α}, l.Pairwise (fun x y => lt y x = false) → Up lt (compL l)
  | [], _ => List.Pairwise.nil
  | x :: t, h => by
    obtain ⟨h1, h2⟩ := up_compGo S h
    exact List.pairwise_cons.2 ⟨h2, h1⟩
theorem comp_sort (S : SLO lt) {l m : List α} (hp : ∀ x, x ∈ m ↔ x ∈ l) (hs : m.Pairwise fun x y => lt y x = false) : compL m = sortS lt l :=
  sortS_eq S (up_compL S hs) fun x => mem_compL.trans (hp x)
end

def ltI (x y : Int) : Bool := decide (x < y)
theorem sloI : SLO ltI := ⟨fun x => by simp [ltI], fun x y z => by simp [ltI]; omega, fun x y => by simp [ltI]; omega⟩
def ltE (x y : Int × Int) : Bool := decide (x.1 < y.1 ∨ x.1 = y.1 ∧ x.2 < y.2)
theorem sloE : SLO ltE := ⟨fun x => by simp [ltE], fun x y z => by simp [ltE]; omega, fun x y => by
  obtain ⟨a, b⟩ := x
  obtain ⟨c, d⟩ := y
  simp only [ltE, decide_eq_true_eq, Prod.mk.injEq]; omega⟩
end Go.Proofs.YtaaahfbcpgdoiaaGreatDoor


namespace Go.Proofs.YtaaahfbcpgdoiaaGreatDoor
open Go.RowKit Go.Sort

theorem cur_get {cur : Array Value} {k : Nat} {xs : List Value} (h : cur.toList.take k = xs) {j : Nat} (hj : j < xs.length) : cur[j]? = some xs[j] := by
  subst h
  rw [List.length_take] at hj
  rw [List.getElem_take, ← Array.getElem?_toList]
  exact List.getElem?_eq_getElem (by omega)
theorem holds_own {w : World} {base : Nat} {e : TypeId} {size g n c : Nat} {xs : List Value} (h : w.ownsRow base e size (.slice (some ⟨g, 0, none⟩) n c) n xs) : Holds id w g 0 xs.toArray := by
  obtain ⟨hl, ⟨he, _⟩ | ⟨g', cap, cur, he, hb, hg, h1, h2, h3, h4⟩⟩ := h
  · cases he
  · injection he with e1
    injection e1 with e1
    injection e1 with e1
    subst e1
    intro j hj
    have hj' : j < xs.length := by simpa using hj
    refine ⟨?_, by simp [World.frozen?, hg]⟩
    have := cur_get h4 hj'
    simp only [World.cell?, hg, Nat.zero_add]
    rw [this]
    simp [hj']
theorem heap_putRow (w : World) (g : Nat) (F : Array Value) (m : Nat) (os : Array Obj) {j : Nat} (hj : j < w.heap.size) (hne : j ≠ g) : (grow (putRow id (Sort.ahead w m) g 0 F) os).heap[j]? = w.heap[j]? := by
  rw [heap_grow_old _ _ (by simp [putRow, mapBlock, Sort.ahead]; exact hj)]
  simp only [putRow, mapBlock, Sort.ahead, Array.getElem?_modify]
  rw [if_neg (fun e => hne e.symm)]
theorem heap_putRow_at (w : World) (g : Nat) (F cur : Array Value) (e : TypeId) (fr : Nat × Nat) (m : Nat) (os : Array Obj) (hg : w.heap[g]? = some (.cells cur e fr)) : (grow (putRow id (Sort.ahead w m) g 0 F) os).heap[g]? = some (.cells (putCells id 0 F cur) e fr) := by
  have hlt := (Array.getElem?_eq_some_iff.1 hg).1
  rw [heap_grow_old _ _ (by simp [putRow, mapBlock, Sort.ahead]; exact hlt)]
  simp only [putRow, mapBlock, Sort.ahead, Array.getElem?_modify, if_true]
  rw [hg]; rfl
theorem own_sorted {w : World} {base : Nat} {e : TypeId} {size g n c : Nat} {xs : List Value} (h : w.ownsRow base e size (.slice (some ⟨g, 0, none⟩) n c) n xs) (F : Array Value) (hF : F.size = n * size) (m : Nat) (os : Array Obj) :
    (grow (putRow id (Sort.ahead w m) g 0 F) os).ownsRow base e size (.slice (some ⟨g, 0, none⟩) n c) n F.toList := by
  obtain ⟨hl, ⟨he, _⟩ | ⟨g', cap, cur, he, hb, hg, h1, h2, h3, h4⟩⟩ := h
  · cases he
  · injection he with e1 e2 e3
    injection e1 with e1
    injection e1 with e1
    subst e1 e3
    refine ⟨by simpa using hF, .inr ⟨g, c, _, rfl, hb, heap_putRow_at w g F cur e (0, 0) m os hg, h1, h2, by simp [putCells, h3], ?_⟩⟩
    have hle : n * size ≤ c * size := Nat.mul_le_mul_right _ h1
    refine List.ext_getElem? fun j => ?_
    rw [List.getElem?_take]
    by_cases hj : j < n * size
    · rw [if_pos hj]
      have hjc : j < cur.size := by omega
      have hjF : j < F.size := by omega
      simp [putCells, hjc, hjF, Array.getElem!_eq_getD, Array.getD]
    · rw [if_neg hj, List.getElem?_eq_none (by simp; omega)]
theorem sorted_grown (w : World) (g : Nat) (F : Array Value) (m : Nat) (os : Array Obj) : w.grownBy (grow (putRow id (Sort.ahead w m) g 0 F) os) (some g) :=
  ⟨rfl, rfl, rfl, by simp [putRow, mapBlock, Sort.ahead], fun k hk hne => heap_putRow w g F m os hk (fun e => hne (by rw [e]))⟩
theorem putRow_map (enc : Int → Value) (w : World) (blk off : Nat) (d : Array Int) : putRow enc w blk off d = putRow id w blk off (d.map enc) := by
  unfold putRow
  congr 1
  funext c
  unfold putCells
  refine Array.ext (by simp) fun i h1 h2 => ?_
  simp only [Array.getElem_mapIdx, Array.size_map]
  by_cases hi : off ≤ i ∧ i < off + d.size
  · have : i - off < d.size := by omega
    simp [hi, this]
  · simp [hi]
theorem holds_map {enc : Int → Value} {w : World} {blk off : Nat} {d : Array Int} (h : Holds id w blk off (d.map enc)) : Holds enc w blk off d := fun j hj => by
  have := h j (by simpa using hj)
  simpa [Array.getElem!_eq_getD, Array.getD, hj] using this
def encP (x : Int × Int) : List Value := [.int .i64 x.1, .int .i64 x.2]
theorem flatK_pairs (d : Array (Int × Int)) : flatK encP 2 d = (dcells d.toList).toArray := by
  have hdl : ∀ l : List (Int × Int), (dcells l).length = l.length * 2 := fun l => by
    induction l with
    | nil => rfl
    | cons x r ih =>
      have e : dcells (x :: r) = [.int .i64 x.1, .int .i64 x.2] ++ dcells r := rfl
      rw [e, List.length_append, ih]; simp; omega
  refine ext_get! (by simp [size_flatK, hdl]) fun t ht => ?_
  have ht' : t < d.size * 2 := by simpa using ht
  rw [get_flatK _ _ _ t ht']
  have hd : t / 2 < d.size := by omega
  have key : ∀ (l : List (Int × Int)) (t : Nat), t < l.length * 2 → (dcells l)[t]? = some ((encP (l.getD (t / 2) default))[t % 2]!) := by
    intro l
    induction l with
    | nil => intro t h; simp at h
    | cons x r ih =>
      intro t h
      have e : dcells (x :: r) = [.int .i64 x.1, .int .i64 x.2] ++ dcells r := rfl
      rw [e]
      match t with
      | 0 => rfl
      | 1 => rfl
      | t + 2 =>
        rw [List.getElem?_append_right (by simp), show t + 2 - [Value.int .i64 x.1, .int .i64 x.2].length = t by simp, ih t (by simp at h; omega)]
        have e1 : (t + 2) / 2 = t / 2 + 1 := by omega
        have e2 : (t + 2) % 2 = t % 2 := by omega
        rw [e1, e2]; rfl
  have h2 := key d.toList t (by simpa using ht')
  rw [Array.getElem!_eq_getD, Array.getElem!_eq_getD]
  simp only [Array.getD_eq_getD_getElem?, List.getElem?_toArray]
  rw [h2]
  simp [hd]
end Go.Proofs.YtaaahfbcpgdoiaaGreatDoor


namespace Go.Proofs.YtaaahfbcpgdoiaaGreatDoor
open Go.RowKit Go.Sort Go.Shelf

theorem cellsI_map (l : List Int) : (l.toArray.map (Value.int .i64)).toList = cellsI l := by simp [cellsI]
theorem holds_ints {w : World} {base : Nat} {e : TypeId} {g n c : Nat} {l : List Int} (h : w.ownsRow base e 1 (.slice (some ⟨g, 0, none⟩) n c) n (cellsI l)) : Holds (Value.int .i64) w g 0 l.toArray :=
  holds_map (by have := holds_own h; have e : l.toArray.map (Value.int .i64) = (cellsI l).toArray := by simp [cellsI]
                rw [e]; exact this)
theorem own_none {w : World} {base : Nat} {e : TypeId} {size n c : Nat} {xs : List Value} (h : w.ownsRow base e size (.slice none n c) n xs) : n = 0 ∧ c = 0 ∧ xs = [] := by
  obtain ⟨hl, ⟨he, h0⟩ | ⟨g, cap, cur, he, _⟩⟩ := h
  · injection he with e1 e2 e3
    subst h0
    exact ⟨rfl, e3, List.eq_nil_of_length_eq_zero (by simpa using hl)⟩
  · injection he with e1; cases e1
theorem own_some {w : World} {base : Nat} {e : TypeId} {size n c : Nat} {A : Option Addr} {xs : List Value} (h : w.ownsRow base e size (.slice A n c) n xs) : (A = none ∧ n = 0 ∧ c = 0 ∧ xs = []) ∨ ∃ g, A = some ⟨g, 0, none⟩ ∧ base ≤ g ∧ g < w.heap.size ∧ n ≤ c ∧ c ≤ maxLen := by
  cases A with
  | none => exact .inl ⟨rfl, own_none h⟩
  | some a =>
    obtain ⟨hl, ⟨he, h0⟩ | ⟨g, cap, cur, he, hb, hg, h1, h2, _⟩⟩ := h
    · cases he
    · injection he with e1 e2 e3
      injection e1 with e1
      subst e1 e3
      exact .inr ⟨g, rfl, hb, (Array.getElem?_eq_some_iff.1 hg).1, h1, h2⟩
theorem own_put {w : World} {base : Nat} {e : TypeId} {g n c : Nat} {xs : List Value} (h : w.ownsRow base e 1 (.slice (some ⟨g, 0, none⟩) n c) n xs) (F : List Int) (hF : F.length = n) (m : Nat) (os : Array Obj) :
    (grow (putRow (Value.int .i64) (Sort.ahead w m) g 0 F.toArray) os).ownsRow base e 1 (.slice (some ⟨g, 0, none⟩) n c) n (cellsI F) ∧ w.grownBy (grow (putRow (Value.int .i64) (Sort.ahead w m) g 0 F.toArray) os) (some g) := by
  rw [putRow_map]
  refine ⟨?_, sorted_grown w g _ m os⟩
  have := own_sorted h (F.toArray.map (Value.int .i64)) (by simp [hF]) m os
  rw [cellsI_map] at this
  exact this
theorem own_shorter {w : World} {base : Nat} {e : TypeId} {size g n k c : Nat} {xs : List Value} (h : w.ownsRow base e size (.slice (some ⟨g, 0, none⟩) n c) n xs) (hk : k ≤ n) : w.ownsRow base e size (.slice (some ⟨g, 0, none⟩) k c) k (xs.take (k * size)) := by
  obtain ⟨hl, ⟨he, h0⟩ | ⟨g', cap, cur, he, hb, hg, h1, h2, h3, h4⟩⟩ := h
  · cases he
  · injection he with e1 e2 e3
    injection e1 with e1
    injection e1 with e1
    subst e1 e3
    have hle : k * size ≤ n * size := Nat.mul_le_mul_right _ hk
    refine ⟨by rw [List.length_take, hl]; omega, .inr ⟨g, c, cur, rfl, hb, hg, by omega, h2, h3, ?_⟩⟩
    rw [← h4, List.take_take, Nat.min_eq_left hle]

/-- What slices.Sort makes of numbers. -/
def sortI (l : List Int) : List Int := l.mergeSort fun x y => decide (x ≤ y)
theorem sortI_len (l : List Int) : (sortI l).length = l.length := List.length_mergeSort _
theorem sortI_mem {l : List Int} {x : Int} : x ∈ sortI l ↔ x ∈ l := List.mem_mergeSort
theorem sortI_up (l : List Int) : (sortI l).Pairwise fun x y => ltI y x = false := by
  have := List.pairwise_mergeSort (le := fun x y : Int => decide (x ≤ y)) (fun a b c => by simp; omega) (fun a b => by simp; omega) l
  exact this.imp fun {a b} h => by simp [ltI] at h ⊢; omega

theorem isort_own {w : World} {base n c : Nat} {A : Option Addr} {l : List Int} (h : w.ownsRow base 3 1 (.slice A n c) n (cellsI l)) (hb : base ≤ w.heap.size) (hn : n < 4611686018427387904) :
    Calls Tryz.prog 96 #[.slice A n c] w fun e w' => e = .returned (.tuple #[]) ∧ w'.ownsRow base 3 1 (.slice A n c) n (cellsI (sortI l)) ∧ w.grownBy w' (Value.ownBlock (.slice A n c)) ∧ Below base w w' := by
  rcases own_some h with ⟨rfl, rfl, rfl, hx⟩ | ⟨g, rfl, hg, hlt, h1, h2⟩
  · have hl : l = [] := List.map_eq_nil_iff.1 hx
    subst hl
    refine (Any.slices_Sort_int_none Tryz.lSortI none 0 w).mono fun e w' ⟨he, hw⟩ => ?_
    subst hw
    rw [show sortI [] = [] from List.mergeSort_nil]
    exact ⟨he, World.ownsRow_nil _ _ _ _, ⟨rfl, rfl, rfl, Nat.le_refl _, fun _ _ _ => rfl⟩, Below.refl _ _⟩
  · have hl : l.length = n := own_ilen h
    subst hl
    refine (Any.slices_Sort_int Tryz.lSortI g 0 c l w (holds_ints h) hlt hn).mono fun e w' ⟨he, m, os, hw⟩ => ?_
    subst hw
    obtain ⟨k1, k2⟩ := own_put h (sortI l) (sortI_len l) m os
    exact ⟨he, k1, k2, (Below.refl _ _).grown k2 hb (fun k hk => by cases hk; exact hg)⟩

theorem compGo_snoc (x : Int) : ∀ (l : List Int) (p : Int), compGo p (l ++ [x]) = if x = l.getLastD p then compGo p l else compGo p l ++ [x]
  | [], p => by simp [compGo]
  | y :: t, p => by
    rw [List.cons_append, compGo, compGo, compGo_snoc x t y, List.getLastD_cons]
    by_cases h1 : y = p
    · rw [if_pos h1, if_pos h1]
    · rw [if_neg h1, if_neg h1]
      by_cases h2 : x = t.getLastD y
      · rw [if_pos h2, if_pos h2]
      · rw [if_neg h2, if_neg h2]; rfl
theorem lastD_take : ∀ (t : List Int) (x : Int) (k : Nat), k ≤ t.length → (t.take k).getLastD x = (x :: t).getD k 0
  | t, x, 0, _ => by simp
  | y :: t, x, k + 1, h => by
    rw [List.take_succ_cons, List.getLastD_cons, lastD_take t y k (by simpa using h)]; rfl
theorem compact_eq (l : List Int) : Lib.compact l = compL l := by
  have key : ∀ m, m ≤ l.length → Lib.compactUpTo l.toArray m = compL (l.take m) := by
    intro m
    induction m with
    | zero => intro _; rfl
    | succ m ih =>
      intro hm
      have hs : Lib.compactUpTo l.toArray (m + 1) = Lib.compactUpTo l.toArray m ++ (if Lib.keeps l.toArray m = true then [l.toArray[m]!] else []) := by
        unfold Lib.compactUpTo
        rw [List.range_succ, List.filter_append, List.map_append]
        by_cases hk : Lib.keeps l.toArray m = true <;> simp [hk]
      rw [hs, ih (by omega)]
      match l, m with
      | x :: t, 0 => simp [Lib.keeps, compL, compGo]
      | x :: t, m + 1 =>
        have hmt : m < t.length := by simp at hm; omega
        have e1 : t.take (m + 1) = t.take m ++ [t[m]] := by rw [List.take_succ_eq_append_getElem hmt]
        rw [List.take_succ_cons, List.take_succ_cons, compL, compL, e1, compGo_snoc, lastD_take t x m (by omega)]
        have e2 : (x :: t).toArray[m + 1]! = t[m] := by simp [hmt]
        have e3 : (x :: t).toArray[m + 1 - 1]! = (x :: t).getD m 0 := by
          rw [Nat.add_sub_cancel]
          simp [List.getD_eq_getElem?_getD, Array.getElem!_eq_getD, Array.getD_eq_getD_getElem?]
        by_cases hk : t[m] = (x :: t).getD m 0
        · rw [if_neg (by rw [Lib.keeps_neg (by omega) (by rw [e2, e3, hk])]; simp), if_pos hk, List.append_nil]
        · rw [if_pos (Lib.keeps_pos (by rw [e2, e3]; exact hk)), if_neg hk, e2]; rfl
  have := key l.length (Nat.le_refl _)
  rw [List.take_length] at this
  exact this
theorem icompact_own {w : World} {base n c : Nat} {A : Option Addr} {l : List Int} (h : w.ownsRow base 3 1 (.slice A n c) n (cellsI l)) (hb : base ≤ w.heap.size) :
    Calls Tryz.prog 229 #[.slice A n c] w fun e w' => e = .returned (.slice A (compL l).length c) ∧ w'.ownsRow base 3 1 (.slice A (compL l).length c) (compL l).length (cellsI (compL l)) ∧ w.grownBy w' (Value.ownBlock (.slice A n c)) ∧ Below base w w' := by
  rcases own_some h with ⟨rfl, rfl, rfl, hx⟩ | ⟨g, rfl, hg, hlt, h1, h2⟩
  · have hl : l = [] := List.map_eq_nil_iff.1 hx
    subst hl
    refine (Any.slices_Compact_int_empty Tryz.lCompI none 0 w).mono fun e w' ⟨he, hw⟩ => ?_
    subst hw
    exact ⟨he, World.ownsRow_nil _ _ _ _, ⟨rfl, rfl, rfl, Nat.le_refl _, fun _ _ _ => rfl⟩, Below.refl _ _⟩
  · have hl : l.length = n := own_ilen h
    subst hl
    refine (Any.slices_Compact_int Tryz.lCompI g 0 c l w (holds_ints h) (by unfold maxLen at h2; omega) h1).mono fun e w' ⟨he, m, hw⟩ => ?_
    rw [compact_eq] at he hw
    have hle : (compL l).length ≤ l.length := by
      have : ∀ (t : List Int) (p : Int), (compGo p t).length ≤ t.length := by
        intro t
        induction t with
        | nil => intro p; exact Nat.le_refl _
        | cons y t ih => intro p; unfold compGo; split <;> simp <;> have := ih y <;> omega
      cases l with
      | nil => exact Nat.le_refl _
      | cons x t => simp only [compL, List.length_cons]; have := this t x; omega
    obtain ⟨k1, k2⟩ := own_put h (compL l ++ List.replicate (l.length - (compL l).length) 0) (by simp; omega) m #[]
    rw [grow_empty] at k1 k2
    subst hw
    have k3 := own_shorter k1 hle
    have e : (cellsI (compL l ++ List.replicate (l.length - (compL l).length) 0)).take ((compL l).length * 1) = cellsI (compL l) := by
      rw [cellsI, List.map_append, List.take_append_of_le_length (by simp), List.take_of_length_le (by simp)]; rfl
    rw [e] at k3
    exact ⟨he, k3, k2, (Below.refl _ _).grown k2 hb (fun k hk => by cases hk; exact hg)⟩
theorem idelete_own {w : World} {base n c i : Nat} {A : Option Addr} {l : List Int} (h : w.ownsRow base 3 1 (.slice A n c) n (cellsI l)) (hb : base ≤ w.heap.size) (hi : i < n) :
    Calls Tryz.prog 140 #[.slice A n c, .int .i64 i, .int .i64 (i + 1 : Nat)] w fun e w' => e = .returned (.slice A (n - 1) c) ∧ w'.ownsRow base 3 1 (.slice A (n - 1) c) (n - 1) (cellsI (l.eraseIdx i)) ∧ w.grownBy w' (Value.ownBlock (.slice A n c)) ∧ Below base w w' := by
  rcases own_some h with ⟨rfl, rfl, rfl, hx⟩ | ⟨g, rfl, hg, hlt, h1, h2⟩
  · omega
  · have hl : l.length = n := own_ilen h
    subst hl
    refine (Any.slices_Delete_int Tryz.lDelI g 0 c i (i + 1) l w (holds_ints h) h1 (by unfold maxLen at h2; omega) (by omega) (by omega)).mono fun e w' ⟨he, m, hw⟩ => ?_
    have e0 : i + 1 - i = 1 := by omega
    rw [e0] at he hw
    obtain ⟨k1, k2⟩ := own_put h (l.take i ++ l.drop (i + 1) ++ List.replicate 1 0) (by simp; omega) m #[]
    rw [grow_empty] at k1 k2
    subst hw
    have k3 := own_shorter k1 (k := l.length - 1) (by omega)
    have e : (cellsI (l.take i ++ l.drop (i + 1) ++ List.replicate 1 0)).take ((l.length - 1) * 1) = cellsI (l.eraseIdx i) := by
      have hlen : (l.take i ++ l.drop (i + 1)).length = l.length - 1 := by simp; omega
      rw [cellsI, List.map_append, List.take_append_of_le_length (by rw [List.length_map, hlen]; omega), List.take_of_length_le (by rw [List.length_map, hlen]; omega), List.eraseIdx_eq_take_drop_succ]; rfl
    rw [e] at k3
    exact ⟨he, k3, k2, (Below.refl _ _).grown k2 hb (fun k hk => by cases hk; exact hg)⟩
end Go.Proofs.YtaaahfbcpgdoiaaGreatDoor


namespace Go.Proofs.YtaaahfbcpgdoiaaGreatDoor
open Go.RowKit Go.Shelf

/-- The variable internal/bytealg.MaxLen holds some number. -/
def Mx (w : World) : Prop := ∃ m, w.cell? ⟨2, 0, none⟩ = some (.int .i64 m)
theorem Mx.below {w w' : World} {B : Nat} (h : Mx w) (hb : Below B w w') (hB : 2 < B) : Mx w' := by
  obtain ⟨m, h⟩ := h
  exact ⟨m, (hb.cell (p := ⟨2, 0, none⟩) hB).trans h⟩
theorem Mx.pos {w : World} (h : Mx w) : 2 < w.heap.size := by
  obtain ⟨m, h⟩ := h
  rcases Nat.lt_or_ge 2 w.heap.size with h0 | h1
  · exact h0
  · simp [World.cell?, Array.getElem?_eq_none h1] at h
theorem splitB_cut (s : List UInt8) (c : UInt8) : Go.Lib.splitB ⟨#[c]⟩ 0 (Go.Lib.countB ⟨s.toArray⟩ ⟨#[c]⟩) ⟨s.toArray⟩ = (cutL c s).map fun x => ⟨x.toArray⟩ := by
  have h := Go.Lib.splitB_data ⟨#[c]⟩ 0 (Go.Lib.countB ⟨s.toArray⟩ ⟨#[c]⟩) ⟨s.toArray⟩
  have h2 : Go.Lib.splitK [c] 0 (Go.Lib.count s [c]) s = cutL c s := split_cut c s
  have e : Go.Lib.splitK (ByteArray.mk #[c]).data.toList 0 (Go.Lib.countB ⟨s.toArray⟩ ⟨#[c]⟩) (ByteArray.mk s.toArray).data.toList = cutL c s := h2
  rw [e] at h
  rw [← h, List.map_map]
  conv => lhs; rw [← List.map_id (Go.Lib.splitB _ _ _ _)]
  exact List.map_congr_left fun x _ => rfl
theorem split_any (s : List UInt8) (c : UInt8) (w : World) (hm : Mx w) (hs : s.length < 4294967281) :
    Calls Tryz.prog 44 #[.string ⟨s.toArray⟩, .string ⟨#[c]⟩] w fun e w' => ∃ n, e = .returned (.slice (some ⟨w.heap.size, 0, none⟩) n n) ∧ n = (cutL c s).length ∧ w' = w.alloc (.cells (cellsS (cutL c s)).toArray 9) := by
  obtain ⟨m, hm⟩ := hm
  have h := Any.strings_Split { Tryz.lSplit with } (by kernel_rfl) ⟨s.toArray⟩ ⟨#[c]⟩ m w (by simpa [ByteArray.size] using hs) hm (by show 1 ≤ 1; omega)
  refine h.mono fun e w' ⟨h1, h2⟩ => ⟨_, h1, ?_, ?_⟩
  · have := Go.Lib.splitB_all ⟨#[c]⟩ (by show 1 ≤ 1; omega) 0 _ ⟨s.toArray⟩ rfl
    rw [← this, splitB_cut]; simp
  · rw [h2, splitB_cut, List.map_map]
    rfl
theorem Rd.str {w : World} {B n : Nat} {A : Option Addr} {l : List (List UInt8)} (h : Rd w B 1 A n (cellsS l)) {k : Nat} (hk : k < n) :
    ∃ b off x, A = some ⟨b, off, none⟩ ∧ b < B ∧ l[k]? = some x ∧ w.cell? ⟨b, off + k, none⟩ = some (.string ⟨x.toArray⟩) := by
  obtain ⟨b, off, e, hb, hc⟩ := h.2 (by omega)
  have hl := h.slen
  have ho : l[k]? = some (l[k]'(by omega)) := List.getElem?_eq_getElem (by omega)
  exact ⟨b, off, _, e, hb, ho, hc _ _ (by rw [cellsS, List.getElem?_map, ho]; rfl)⟩
theorem wordsF_step {ws r : List (List UInt8)} {x : List UInt8} (h : ws = x :: r) : wordsF ws = match wordF x with
    | none => none
    | some o => match wordsF r with
      | none => none
      | some h => some (o :: h) := by rw [h]; rfl
/-- Words that are read: those read, and what is left. -/
def leadF (ws : List (List UInt8)) (acc : List HOp) : Option (List HOp) := (wordsF ws).map (acc ++ ·)
theorem leadF_none {ws r : List (List UInt8)} {x : List UInt8} {acc : List HOp} (h : ws = x :: r) (hx : wordF x = none) : leadF ws acc = none := by
  unfold leadF
  rw [wordsF_step h, hx]; rfl
theorem leadF_some {ws r : List (List UInt8)} {x : List UInt8} {acc : List HOp} {o : HOp} (h : ws = x :: r) (hx : wordF x = some o) : leadF ws acc = leadF r (acc ++ [o]) := by
  unfold leadF
  rw [wordsF_step h, hx]
  cases wordsF r with
  | none => rfl
  | some y => simp
set_option maxRecDepth 100000 in
set_option maxHeartbeats 4000000 in
theorem parse_any (s : List UInt8) (w : World) (hm : Mx w) (hs : s.length ≤ 4000000000) :
    Calls Tryz.prog 22 #[.string ⟨s.toArray⟩] w fun e w' => ∃ v m, e = .returned (.tuple #[v, errV (parseE s)]) ∧ w'.ownsRow w.heap.size 91 3 v m (cellsH (parseL s)) ∧ Below w.heap.size w w' := by
  by_cases h0 : s = []
  · subst h0
    go_enter Tryz.func22, Tryz.ntmps22
    go_wp2
    go_ret2
    exact ⟨_, 0, rfl, World.ownsRow_nil _ _ _ _, Below.refl _ _⟩
  have hE : parseE s = match wordsF (cutL 32 s) with
    | none => 2
    | some h => (checkF h).2 := by unfold parseE; rw [if_neg h0]; rfl
  have hL : parseL s = match wordsF (cutL 32 s) with
    | none => []
    | some h => if (checkF h).2 = 0 then h else [] := by unfold parseL; rw [if_neg h0]; rfl
  have CS := hide (split_any s 32 w hm (by omega))
  have hne : (⟨s.toArray⟩ : ByteArray).toList.isEmpty = false := by
    rw [show (⟨s.toArray⟩ : ByteArray).toList = s by rw [ByteArray.toList_eq]]
    cases s with
    | nil => exact absurd rfl h0
    | cons _ _ => rfl
  have hlen := cutL_len 32 s
  have HN : Hid (leadF (cutL 32 s) [] = wordsF (cutL 32 s)) := Lib.hid (by
    unfold leadF
    cases wordsF (cutL 32 s) with
    | none => rfl
    | some y => simp)
  have HEL := Lib.hid (And.intro hE hL)
  clear hE hL hm
  generalize cutL 32 s = ws at *
  generalize parseE s = E at *
  generalize parseL s = L at *
  generalize (⟨s.toArray⟩ : ByteArray) = sb at *
  obtain ⟨nw, hnw⟩ : ∃ nw, ws.length = nw := ⟨_, rfl⟩
  rw [hnw] at hlen CS
  have hnw2 : nw ≤ 4000000001 := by omega
  have HNW := Lib.hid hnw
  have hrd : Rd (w.alloc (.cells (cellsS ws).toArray 9)) (w.heap.size + 1) 1 (some ⟨w.heap.size, 0, none⟩) nw (cellsS ws) := rd_new w 9 (cellsS ws) (by rw [cellsS_len]; omega)
  have hb0 : Below w.heap.size w (w.alloc (.cells (cellsS ws).toArray 9)) := (Below.refl _ _).alloc (Nat.le_refl _) _
  obtain ⟨w1, hw1⟩ : ∃ w1, w1 = w.alloc (.cells (cellsS ws).toArray 9) := ⟨_, rfl⟩
  have hz1 : w1.heap.size = w.heap.size + 1 := by rw [hw1]; simp
  rw [← hw1] at hrd hb0 CS
  clear h0 hs hlen hnw hw1
  go_enter Tryz.func22, Tryz.ntmps22
  go_wp2_with fail
  refine (unhide CS).mono ?_
  rintro e w2 ⟨n2, rfl, hn2, rfl⟩
  have hn3 := hn2.symm
  subst hn3
  clear CS hne
  go_wp2
  go_loopw [4, 15] (fun s4 s15 wr => ∃ (k : Nat) (acc : List HOp), k ≤ nw ∧ s15 = .int .i64 k ∧ wr.ownsRow (w.heap.size + 1) 91 3 s4 k (cellsH acc) ∧ Hid (wordsF ws = leadF (ws.drop k) acc) ∧ Below (w.heap.size + 1) w2 wr) (fun _ s15 _ => nw - (intOf s15).toNat)
  case atStart => exact ⟨0, [], Nat.zero_le _, rfl, World.ownsRow_nil _ _ _ _, Lib.hid HN.out.symm, Below.refl _ _⟩
  case round =>
    obtain ⟨k, acc, hk, rfl, hown, HE, hbw⟩ := hrel
    obtain ⟨A4, c4, rfl⟩ := own_slice hown
    have hbw0 : Below w.heap.size w wr := hb0.trans (hbw.mono (Nat.le_succ _))
    have hsz := hbw.size
    by_cases hlt : k < nw
    · obtain ⟨b, off, x, he, hb, hx, c0⟩ := (hrd.below hbw).str (k := k) hlt
      cases he
      rw [Nat.zero_add] at c0
      have CR := hide (fun W => read_any x W)
      unfold RdPost at CR
      have HD := Lib.hid (drop_at hx)
      have HW : Hid ((wordF x).isSome = (wordF x).isSome) := Lib.hid rfl
      clear hx
      cases hq : wordF x with
      | none =>
        rw [hq] at CR
        have HZ : Hid (E = 2 ∧ L = []) := Lib.hid (by
          obtain ⟨h1, h2⟩ := HEL.out
          rw [HE.out, leadF_none HD.out hq] at h1 h2
          exact ⟨h1, h2⟩)
        clear HE HEL HD hq
        go_wp2_with fail
        refine (unhide CR _).mono ?_
        rintro e w5 ⟨⟨o1, o2, o3⟩, rfl, _, hb5⟩
        have hbw5 := hbw0.trans (hb5.mono hbw0.size)
        unfold HOp.val
        rw [show (none : Option HOp).isSome = false from rfl]
        go_wp2
        go_ret2
        exact ⟨_, 0, by rw [HZ.out.1]; rfl, by rw [HZ.out.2]; exact World.ownsRow_nil _ _ _ _, hbw5.alloc hbw5.size _⟩
      | some o =>
        rw [hq] at CR
        have HE2 : Hid (wordsF ws = leadF (ws.drop (k + 1)) (acc ++ [o])) := Lib.hid (HE.out.trans (leadF_some HD.out hq))
        clear HE HD hq
        go_wp2_with fail
        refine (unhide CR _).mono ?_
        rintro e w5 ⟨o', rfl, ho', hb5⟩
        obtain rfl := ho' o rfl
        obtain ⟨o1, o2, o3⟩ := o
        have hbw5 := hbw.trans (hb5.mono (by omega))
        have ho5 := own_below hown hb5 (Nat.le_refl _)
        unfold HOp.val
        rw [show (some (⟨o1, o2, o3⟩ : HOp)).isSome = true from rfl]
        clear hown hb5 ho'
        have hz5 := hbw5.size
        go_wp2_with (at_builtin; refine wpList_app rfl (.tmp 27) (.tmp 29) _ rfl (w.heap.size + 1) slt_op (n := k) (xs := cellsH acc) (m := 1) (news := cellsH [⟨o1, o2, o3⟩]) rfl (own_alloc (own_alloc ho5 _) _) rfl (rd_new' _ _ (cellsH [⟨o1, o2, o3⟩]) (by simp) rfl) (oneH _) (by omega) (by simp; omega) ?_; intro v6 w6 hown6 hg6 hb6 hat6 hne6)
        have hbA := hbw5.alloc (by omega) (.cells #[.int .i64 o1, .int .i64 o2, .int .i64 o3] 91)
        have hb7 := (hbA.alloc (by have := hbA.size; omega) (.cells (cellsH [⟨o1, o2, o3⟩]).toArray 91)).trans hb6
        rw [← cellsH_append] at hown6
        go_roundw
        case rel => exact ⟨k + 1, acc ++ [⟨o1, o2, o3⟩], by omega, by go_num, hown6, HE2, hb7⟩
        case measure => simp [intOf]; omega
    · have HZ : Hid (wordsF ws = some acc) := Lib.hid (by rw [HE.out, drop_end (by rw [HNW.out]; omega)]; unfold leadF wordsF; simp)
      obtain rfl : k = nw := by omega
      have CRt := hide (right_h A4 k c4 acc wr (rd_own hown) (by omega))
      have HZ2 : Hid (E = (checkF acc).2 ∧ L = if (checkF acc).2 = 0 then acc else []) := Lib.hid (by
        obtain ⟨h1, h2⟩ := HEL.out
        rw [HZ.out] at h1 h2
        exact ⟨h1, h2⟩)
      have ho0 := own_mono hown (Nat.le_succ _)
      clear HZ HEL HN HE hown
      by_cases hc : (checkF acc).2 = 0
      · rw [hc, errV_zero] at CRt
        have HZ3 : Hid (E = 0 ∧ L = acc) := Lib.hid (by rw [hc] at HZ2; exact ⟨HZ2.out.1, by rw [HZ2.out.2, if_pos rfl]⟩)
        clear HZ2 hc
        go_wp2_with fail
        refine (unhide CRt).mono ?_
        rintro e w5 ⟨rfl, hb5⟩
        have ho5 := own_below ho0 hb5 (Nat.le_refl _)
        have hbw5 := hbw0.trans (hb5.mono hbw0.size)
        go_wp2
        go_ret2
        exact ⟨_, k, by rw [HZ3.out.1]; rfl, by rw [HZ3.out.2]; exact ho5, hbw5⟩
      · rw [ne_errV hc] at CRt
        have HZ3 : Hid (errV E = .iface 51 (.int .i64 (checkF acc).2) ∧ L = []) := Lib.hid ⟨by rw [HZ2.out.1, ne_errV hc], by rw [HZ2.out.2, if_neg hc]⟩
        clear HZ2 hc
        generalize (checkF acc).2 = ev at *
        go_wp2_with fail
        refine (unhide CRt).mono ?_
        rintro e w5 ⟨rfl, hb5⟩
        have hbw5 := hbw0.trans (hb5.mono hbw0.size)
        go_wp2
        go_ret2
        exact ⟨_, 0, by rw [HZ3.out.1]; rfl, by rw [HZ3.out.2]; exact World.ownsRow_nil _ _ _ _, hbw5⟩
end Go.Proofs.YtaaahfbcpgdoiaaGreatDoor

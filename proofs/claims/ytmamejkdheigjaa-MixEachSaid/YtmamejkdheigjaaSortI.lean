
/-
  CONTRACTS of slices.Sort, Compact, Delete at []int on a row that the call owns, by the shelf's.
-/
import Derived.Test.YtmamejkdheigjaaLays
import Derived.Test.YtmamejkdheigjaaSortW
import Derived.Test.YtmamejkdheigjaaSortP

namespace Go.Proofs.Ytmamejkdheigjaa
open Go.RowKit Go.Sort Go.Shelf

theorem cellsI_map (l : List Int) : (l.toArray.map (Value.int .i64)).toList = cellsI l := by simp [cellsI]
theorem holds_ints {w : World} {base : Nat} {e : TypeId} {g n c : Nat} {l : List Int} (h : w.ownsRow base e 1 (.slice (some ⟨g, 0, none⟩) n c) n (cellsI l)) : Holds (Value.int .i64) w g 0 l.toArray :=
  holds_map (by have := holds_own h; have e : l.toArray.map (Value.int .i64) = (cellsI l).toArray := by simp [cellsI]
                rw [e]; exact this)
theorem own_none {w : World} {base : Nat} {e : TypeId} {size n c : Nat} {xs : List Value} (h : w.ownsRow base e size (.slice none n c) n xs) : n = 0 ∧ c = 0 ∧ xs = [] := by
  obtain ⟨hl, ⟨he, h0⟩ | ⟨g, cap, cur, he, _⟩⟩ := h
  · injection he with e1 e2 e3
    subst h0
    exact ⟨rfl, e3, List.eq_nil_of_length_eq_zero (by simpa using hl)⟩
  · injection he with e1; cases e1
theorem own_some {w : World} {base : Nat} {e : TypeId} {size n c : Nat} {A : Option Addr} {xs : List Value} (h : w.ownsRow base e size (.slice A n c) n xs) : (A = none ∧ n = 0 ∧ c = 0 ∧ xs = []) ∨ ∃ g, A = some ⟨g, 0, none⟩ ∧ base ≤ g ∧ g < w.heap.size ∧ n ≤ c ∧ c ≤ maxLen := by
  cases A with
  | none => exact .inl ⟨rfl, own_none h⟩
  | some a =>
    obtain ⟨hl, ⟨he, h0⟩ | ⟨g, cap, cur, he, hb, hg, h1, h2, _⟩⟩ := h
    · cases he
    · injection he with e1 e2 e3
      injection e1 with e1
      subst e1 e3
      exact .inr ⟨g, rfl, hb, (Array.getElem?_eq_some_iff.1 hg).1, h1, h2⟩
theorem own_put {w : World} {base : Nat} {e : TypeId} {g n c : Nat} {xs : List Value} (h : w.ownsRow base e 1 (.slice (some ⟨g, 0, none⟩) n c) n xs) (F : List Int) (hF : F.length = n) (m : Nat) (os : Array Obj) :
    (grow (putRow (Value.int .i64) (Sort.ahead w m) g 0 F.toArray) os).ownsRow base e 1 (.slice (some ⟨g, 0, none⟩) n c) n (cellsI F) ∧ w.grownBy (grow (putRow (Value.int .i64) (Sort.ahead w m) g 0 F.toArray) os) (some g) := by
  rw [putRow_map]
  refine ⟨?_, sorted_grown w g _ m os⟩
  have := own_sorted h (F.toArray.map (Value.int .i64)) (by simp [hF]) m os
  rw [cellsI_map] at this
  exact this
theorem own_shorter {w : World} {base : Nat} {e : TypeId} {size g n k c : Nat} {xs : List Value} (h : w.ownsRow base e size (.slice (some ⟨g, 0, none⟩) n c) n xs) (hk : k ≤ n) : w.ownsRow base e size (.slice (some ⟨g, 0, none⟩) k c) k (xs.take (k * size)) := by
  obtain ⟨hl, ⟨he, h0⟩ | ⟨g', cap, cur, he, hb, hg, h1, h2, h3, h4⟩⟩ := h
  · cases he
  · injection he with e1 e2 e3
    injection e1 with e1
    injection e1 with e1
    subst e1 e3
    have hle : k * size ≤ n * size := Nat.mul_le_mul_right _ hk
    refine ⟨by rw [List.length_take, hl]; omega, .inr ⟨g, c, cur, rfl, hb, hg, by omega, h2, h3, ?_⟩⟩
    rw [← h4, List.take_take, Nat.min_eq_left hle]

/-- What slices.Sort makes of numbers. -/
def sortI (l : List Int) : List Int := l.mergeSort fun x y => decide (x ≤ y)
theorem sortI_len (l : List Int) : (sortI l).length = l.length := List.length_mergeSort _
theorem sortI_mem {l : List Int} {x : Int} : x ∈ sortI l ↔ x ∈ l := List.mem_mergeSort
theorem sortI_up (l : List Int) : (sortI l).Pairwise fun x y => ltI y x = false := by
  have := List.pairwise_mergeSort (le := fun x y : Int => decide (x ≤ y)) (fun a b c => by simp; omega) (fun a b => by simp; omega) l
  exact this.imp fun {a b} h => by simp [ltI] at h ⊢; omega

theorem isort_own {w : World} {base n c : Nat} {A : Option Addr} {l : List Int} (h : w.ownsRow base 3 1 (.slice A n c) n (cellsI l)) (hb : base ≤ w.heap.size) (hn : n < 4611686018427387904) :
    Calls Try.prog 40 #[.slice A n c] w fun e w' => e = .returned (.tuple #[]) ∧ w'.ownsRow base 3 1 (.slice A n c) n (cellsI (sortI l)) ∧ w.grownBy w' (Value.ownBlock (.slice A n c)) ∧ Below base w w' := by
  rcases own_some h with ⟨rfl, rfl, rfl, hx⟩ | ⟨g, rfl, hg, hlt, h1, h2⟩
  · have hl : l = [] := List.map_eq_nil_iff.1 hx
    subst hl
    refine (Any.slices_Sort_int_none Try.lSortI none 0 w).mono fun e w' ⟨he, hw⟩ => ?_
    subst hw
    rw [show sortI [] = [] from List.mergeSort_nil]
    exact ⟨he, World.ownsRow_nil _ _ _ _, ⟨rfl, rfl, rfl, Nat.le_refl _, fun _ _ _ => rfl⟩, Below.refl _ _⟩
  · have hl : l.length = n := own_ilen h
    subst hl
    refine (Any.slices_Sort_int Try.lSortI g 0 c l w (holds_ints h) hlt hn).mono fun e w' ⟨he, m, os, hw⟩ => ?_
    subst hw
    obtain ⟨k1, k2⟩ := own_put h (sortI l) (sortI_len l) m os
    exact ⟨he, k1, k2, (Below.refl _ _).grown k2 hb (fun k hk => by cases hk; exact hg)⟩

theorem compGo_snoc (x : Int) : ∀ (l : List Int) (p : Int), compGo p (l ++ [x]) = if x = l.getLastD p then compGo p l else compGo p l ++ [x]
  | [], p => by simp [compGo]
  | y :: t, p => by
    rw [List.cons_append, compGo, compGo, compGo_snoc x t y, List.getLastD_cons]
    by_cases h1 : y = p
    · rw [if_pos h1, if_pos h1]
    · rw [if_neg h1, if_neg h1]
      by_cases h2 : x = t.getLastD y
      · rw [if_pos h2, if_pos h2]
      · rw [if_neg h2, if_neg h2]; rfl
theorem lastD_take : ∀ (t : List Int) (x : Int) (k : Nat), k ≤ t.length → (t.take k).getLastD x = (x :: t).getD k 0
  | t, x, 0, _ => by simp
  | y :: t, x, k + 1, h => by
    rw [List.take_succ_cons, List.getLastD_cons, lastD_take t y k (by simpa using h)]; rfl
theorem compact_eq (l : List Int) : Lib.compact l = compL l := by
  have key : ∀ m, m ≤ l.length → Lib.compactUpTo l.toArray m = compL (l.take m) := by
    intro m
    induction m with
    | zero => intro _; rfl
    | succ m ih =>
      intro hm
      have hs : Lib.compactUpTo l.toArray (m + 1) = Lib.compactUpTo l.toArray m ++ (if Lib.keeps l.toArray m = true then [l.toArray[m]!] else []) := by
        unfold Lib.compactUpTo
        rw [List.range_succ, List.filter_append, List.map_append]
        by_cases hk : Lib.keeps l.toArray m = true <;> simp [hk]
      rw [hs, ih (by omega)]
      match l, m with
      | x :: t, 0 => simp [Lib.keeps, compL, compGo]
      | x :: t, m + 1 =>
        have hmt : m < t.length := by simp at hm; omega
        have e1 : t.take (m + 1) = t.take m ++ [t[m]] := by rw [List.take_succ_eq_append_getElem hmt]
        rw [List.take_succ_cons, List.take_succ_cons, compL, compL, e1, compGo_snoc, lastD_take t x m (by omega)]
        have e2 : (x :: t).toArray[m + 1]! = t[m] := by simp [hmt]
        have e3 : (x :: t).toArray[m + 1 - 1]! = (x :: t).getD m 0 := by
          rw [Nat.add_sub_cancel]
          simp [List.getD_eq_getElem?_getD, Array.getElem!_eq_getD, Array.getD_eq_getD_getElem?]
        by_cases hk : t[m] = (x :: t).getD m 0
        · rw [if_neg (by rw [Lib.keeps_neg (by omega) (by rw [e2, e3, hk])]; simp), if_pos hk, List.append_nil]
        · rw [if_pos (Lib.keeps_pos (by rw [e2, e3]; exact hk)), if_neg hk, e2]; rfl
  have := key l.length (Nat.le_refl _)
  rw [List.take_length] at this
  exact this
theorem idelete_own {w : World} {base n c i : Nat} {A : Option Addr} {l : List Int} (h : w.ownsRow base 3 1 (.slice A n c) n (cellsI l)) (hb : base ≤ w.heap.size) (hi : i < n) :
    Calls Try.prog 44 #[.slice A n c, .int .i64 i, .int .i64 (i + 1 : Nat)] w fun e w' => e = .returned (.slice A (n - 1) c) ∧ w'.ownsRow base 3 1 (.slice A (n - 1) c) (n - 1) (cellsI (l.eraseIdx i)) ∧ w.grownBy w' (Value.ownBlock (.slice A n c)) ∧ Below base w w' := by
  rcases own_some h with ⟨rfl, rfl, rfl, hx⟩ | ⟨g, rfl, hg, hlt, h1, h2⟩
  · omega
  · have hl : l.length = n := own_ilen h
    subst hl
    refine (Any.slices_Delete_int Try.lDelI g 0 c i (i + 1) l w (holds_ints h) h1 (by unfold maxLen at h2; omega) (by omega) (by omega)).mono fun e w' ⟨he, m, hw⟩ => ?_
    have e0 : i + 1 - i = 1 := by omega
    rw [e0] at he hw
    obtain ⟨k1, k2⟩ := own_put h (l.take i ++ l.drop (i + 1) ++ List.replicate 1 0) (by simp; omega) m #[]
    rw [grow_empty] at k1 k2
    subst hw
    have k3 := own_shorter k1 (k := l.length - 1) (by omega)
    have e : (cellsI (l.take i ++ l.drop (i + 1) ++ List.replicate 1 0)).take ((l.length - 1) * 1) = cellsI (l.eraseIdx i) := by
      have hlen : (l.take i ++ l.drop (i + 1)).length = l.length - 1 := by simp; omega
      rw [cellsI, List.map_append, List.take_append_of_le_length (by rw [List.length_map, hlen]; omega), List.take_of_length_le (by rw [List.length_map, hlen]; omega), List.eraseIdx_eq_take_drop_succ]; rfl
    rw [e] at k3
    exact ⟨he, k3, k2, (Below.refl _ _).grown k2 hb (fun k hk => by cases hk; exact hg)⟩
end Go.Proofs.Ytmamejkdheigjaa

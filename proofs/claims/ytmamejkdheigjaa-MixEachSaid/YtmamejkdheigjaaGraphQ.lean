
/-
  PLAIN LAWS for GraphTells: the reference's order is that which takes the least deal that is ready, time and again.
-/
import Derived.Test.YtmamejkdheigjaaN3
import Derived.Test.YtmamejkdheigjaaN2

namespace Go.Proofs.Ytmamejkdheigjaa
open Go.RowKit

theorem named_sort (E : List (Int × Int)) : namedF E = sortS ltI (ends2 E) := comp_sort sloI (fun _ => sortI_mem) (sortI_up _)
theorem sortI_of_up {l : List Int} (h : Up ltI l) : sortI l = l := by
  have h2 : (sortI l).Nodup := (List.mergeSort_perm l _).nodup_iff.2 (h.imp fun {a b} hab e => by rw [e] at hab; simp [ltI] at hab)
  have h3 : Up ltI (sortI l) := by
    refine (List.Pairwise.and h2 (sortI_up l)).imp fun {a b} ⟨g1, g2⟩ => ?_
    simp [ltI] at g2 ⊢; omega
  exact up_ext sloI h3 h fun _ => sortI_mem
theorem rbest_keep (ok : Int → Bool) (b : Int) (hb : b ≠ 0) : ∀ l : List Int, (∀ x ∈ l, b < x) → rbest ok b l = b
  | [], _ => rfl
  | d :: t, h => by
    rw [rbest, if_neg (by
      rintro ⟨_, h1 | h1⟩
      · exact hb h1
      · have := h d List.mem_cons_self; omega)]
    exact rbest_keep ok b hb t fun x hx => h x (List.mem_cons_of_mem _ hx)
theorem rbest_find (ok : Int → Bool) : ∀ l : List Int, Up ltI l → (∀ x ∈ l, 0 < x) → rbest ok 0 l = (l.find? ok).getD 0
  | [], _, _ => rfl
  | d :: t, hu, hp => by
    have g := List.pairwise_cons.1 hu
    rw [rbest, List.find?_cons]
    cases hd : ok d
    · rw [if_neg (by simp)]
      exact rbest_find ok t g.2 fun x hx => hp x (List.mem_cons_of_mem _ hx)
    · rw [if_pos ⟨rfl, .inl rfl⟩]
      exact rbest_keep ok d (by have := hp d List.mem_cons_self; omega) t fun x hx => by have := g.1 x hx; simpa [ltI] using this
theorem idx_first (p : Int → Bool) (l : List Int) : (l.find? p = none ∧ idxGo p 0 l = -1) ∨ ∃ (i : Nat) (x : Int), l[i]? = some x ∧ l.find? p = some x ∧ idxGo p 0 l = i := by
  rcases idxGo_spec p 0 l with ⟨h1, h2⟩ | ⟨i, o, h1, h2, h3, h4⟩
  · exact .inl ⟨List.find?_eq_none.2 fun x hx => by simp [h1 x hx], h2⟩
  · refine .inr ⟨i, o, h1, ?_, by rw [h4]; omega⟩
    have hi := (List.getElem?_eq_some_iff.1 h1).1
    have hx := (List.getElem?_eq_some_iff.1 h1).2
    rw [List.find?_eq_some_iff_append]
    refine ⟨h2, l.take i, l.drop (i + 1), ?_, fun a ha => by simp [h3 a ha]⟩
    rw [← hx, ← List.drop_eq_getElem_cons hi, List.take_append_drop]
theorem erase_at {l : List Int} (hu : Up ltI l) {i : Nat} {x : Int} (h : l[i]? = some x) : l.eraseIdx i = l.filter fun z => !decide (z = x) := by
  refine up_ext sloI (hu.sublist (List.eraseIdx_sublist ..)) (hu.sublist List.filter_sublist) fun z => ?_
  rw [List.mem_eraseIdx_iff_getElem?, List.mem_filter]
  constructor
  · rintro ⟨j, hj, hz⟩
    refine ⟨List.mem_of_getElem? hz, ?_⟩
    have hne : z ≠ x := by
      rintro rfl
      obtain ⟨hi', hx⟩ := List.getElem?_eq_some_iff.1 h
      obtain ⟨hj', hy⟩ := List.getElem?_eq_some_iff.1 hz
      have hP := List.pairwise_iff_getElem.1 hu
      rcases Nat.lt_or_gt_of_ne hj with hlt | hlt
      · have := hP j i hj' hi' hlt
        rw [hx, hy] at this; simp [ltI] at this
      · have := hP i j hi' hj' hlt
        rw [hx, hy] at this; simp [ltI] at this
    simp [hne]
  · rintro ⟨hz, hne⟩
    obtain ⟨j, hj⟩ := List.mem_iff_getElem?.1 hz
    refine ⟨j, ?_, hj⟩
    rintro rfl
    rw [h] at hj
    injection hj with hj
    simp [hj] at hne
theorem top_rsort (E : List (Int × Int)) (deals : List Int) (hu : Up ltI deals) (hp : ∀ x ∈ deals, 0 < x) : ∀ (f : Nat) (out : List Int),
    topGo E f (deals.filter fun d => !decide (d ∈ out)) out = rsortGo E deals f out
  | 0, out => by rw [topGo, rsortGo]
  | f + 1, out => by
    have hul : Up ltI (deals.filter fun d => !decide (d ∈ out)) := hu.sublist List.filter_sublist
    have hready : ∀ d, readyB E (deals.filter fun d => !decide (d ∈ out)) d = !E.any (stopE deals out d) := fun d => by
      unfold readyB
      congr 2
      funext e
      unfold holdsE stopE
      congr 1
      rw [Bool.eq_iff_iff]
      simp
    have hfind : (deals.filter fun d => !decide (d ∈ out)).find? (readyB E (deals.filter fun d => !decide (d ∈ out))) = deals.find? (rokB E deals out) := by
      rw [List.find?_filter]
      congr 1
      funext d
      rw [hready d]
      unfold rokB
      rw [Bool.eq_iff_iff]
      simp
    rw [topGo, rsortGo, rbest_find _ _ hu hp, ← hfind]
    rcases idx_first (readyB E (deals.filter fun d => !decide (d ∈ out))) (deals.filter fun d => !decide (d ∈ out)) with ⟨h1, h2⟩ | ⟨i, x, h1, h2, h3⟩
    · rw [h1, h2, if_pos (by decide), if_pos (by rfl)]
    · have hx0 : 0 < x := hp x ((List.mem_filter.1 (List.mem_of_getElem? h1)).1)
      rw [h2, h3, if_neg (by omega), if_neg (by show x ≠ 0; omega)]
      have e1 : ((i : Nat) : Int).toNat = i := by omega
      rw [e1, erase_at hul h1, List.getD_eq_getElem?_getD, h1, ← top_rsort E deals hu hp f]
      congr 1
      rw [List.filter_filter]
      congr 1
      funext d
      rw [Bool.eq_iff_iff]
      simp
      constructor <;> intro h <;> exact ⟨h.2, h.1⟩
theorem ends2_ok {E : List (Int × Int)} (h : okE E) : ∀ x ∈ ends2 E, 0 < x := by
  intro x hx
  unfold ends2 at hx
  obtain ⟨e, he, hm⟩ := List.mem_flatMap.1 hx
  obtain ⟨h1, h2⟩ := h e he
  have h1' : 1 ≤ e.1 ∧ e.1 ≤ 6 := by simpa [txB] using h1
  have h2' : 1 ≤ e.2 ∧ e.2 ≤ 6 := by simpa [txB] using h2
  rcases List.mem_cons.1 hm with h | h
  · omega
  · rw [List.mem_singleton.1 h]; omega
theorem rsort_top {E : List (Int × Int)} (h : okE E) : rsortF E (namedF E) = topF E (namedF E) := by
  have hu : Up ltI (namedF E) := by rw [named_sort]; exact up_sortS sloI _
  have hp : ∀ x ∈ namedF E, 0 < x := fun x hx => ends2_ok h x (by rw [named_sort] at hx; exact mem_sortS.1 hx)
  unfold rsortF topF
  rw [sortI_of_up hu, ← top_rsort E _ hu hp]
  congr 1
  simp
end Go.Proofs.Ytmamejkdheigjaa

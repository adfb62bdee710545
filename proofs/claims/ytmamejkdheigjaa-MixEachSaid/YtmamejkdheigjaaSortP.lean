
/-
  PLAIN FACTS on strictly rising lists: there is one alone of given elements; insertion, sorting and striking what is there twice.
-/
import Derived.Test.YtmamejkdheigjaaBase

namespace Go.Proofs.Ytmamejkdheigjaa
open Go.RowKit

/-- A strict order in which any two that are not one are less or greater. -/
structure SLO {α : Type} (lt : α → α → Bool) : Prop where
  irr : ∀ x, lt x x = false
  trans : ∀ x y z, lt x y = true → lt y z = true → lt x z = true
  tri : ∀ x y, lt x y = true ∨ x = y ∨ lt y x = true
section
variable {α : Type} {lt : α → α → Bool}
def Up (lt : α → α → Bool) (l : List α) : Prop := l.Pairwise fun x y => lt x y = true
theorem up_ext (S : SLO lt) : ∀ {l l' : List α}, Up lt l → Up lt l' → (∀ x, x ∈ l ↔ x ∈ l') → l = l'
  | [], [], _, _, _ => rfl
  | [], b :: t, _, _, h => absurd ((h b).2 (by simp)) (by simp)
  | a :: t, [], _, _, h => absurd ((h a).1 (by simp)) (by simp)
  | a :: t, b :: t', h1, h2, h => by
    have g1 := List.pairwise_cons.1 h1
    have g2 := List.pairwise_cons.1 h2
    have hab : a = b := by
      rcases List.mem_cons.1 ((h a).1 (by simp)) with e | e
      · exact e
      · rcases List.mem_cons.1 ((h b).2 (by simp)) with e2 | e2
        · exact e2.symm
        · have := S.trans _ _ _ (g2.1 a e) (g1.1 b e2)
          rw [S.irr] at this; cases this
    subst hab
    have ht : ∀ x, x ∈ t ↔ x ∈ t' := fun x => by
      constructor
      · intro hx
        rcases List.mem_cons.1 ((h x).1 (by simp [hx])) with e | e
        · have := g1.1 x hx; rw [e, S.irr] at this; cases this
        · exact e
      · intro hx
        rcases List.mem_cons.1 ((h x).2 (by simp [hx])) with e | e
        · have := g2.1 x hx; rw [e, S.irr] at this; cases this
        · exact e
    rw [up_ext S g1.2 g2.2 ht]

variable [DecidableEq α]
/-- Insertion, once. -/
def insS (lt : α → α → Bool) (x : α) : List α → List α
  | [] => [x]
  | y :: t => if lt y x then y :: insS lt x t else if y = x then y :: t else x :: y :: t
theorem mem_insS {x z : α} : ∀ {l : List α}, z ∈ insS lt x l ↔ z = x ∨ z ∈ l
  | [] => by simp [insS]
  | y :: t => by
    unfold insS
    split
    · rw [List.mem_cons, mem_insS, List.mem_cons]
      constructor
      · rintro (h | h | h)
        · exact .inr (.inl h)
        · exact .inl h
        · exact .inr (.inr h)
      · rintro (h | h | h)
        · exact .inr (.inl h)
        · exact .inl h
        · exact .inr (.inr h)
    · split
      · rename_i e
        rw [List.mem_cons, e]
        constructor
        · exact .inr
        · rintro (h | h)
          · exact .inl h
          · exact h
      · rw [List.mem_cons]
theorem up_insS (S : SLO lt) {x : α} : ∀ {l : List α}, Up lt l → Up lt (insS lt x l)
  | [], _ => List.pairwise_singleton _ _
  | y :: t, h => by
    have g := List.pairwise_cons.1 h
    unfold insS
    split
    · rename_i hyx
      refine List.pairwise_cons.2 ⟨fun z hz => ?_, up_insS S g.2⟩
      rcases mem_insS.1 hz with e | e
      · rw [e]; exact hyx
      · exact g.1 z e
    · rename_i hyx
      split
      · exact h
      · rename_i hne
        have hxy : lt x y = true := by
          rcases S.tri x y with h1 | h1 | h1
          · exact h1
          · exact absurd h1.symm hne
          · exact absurd h1 hyx
        refine List.pairwise_cons.2 ⟨fun z hz => ?_, h⟩
        rcases List.mem_cons.1 hz with e | e
        · rw [e]; exact hxy
        · exact S.trans _ _ _ hxy (g.1 z e)
def sortGo (lt : α → α → Bool) (acc : List α) : List α → List α
  | [] => acc
  | x :: t => sortGo lt (insS lt x acc) t
def sortS (lt : α → α → Bool) (l : List α) : List α := sortGo lt [] l
theorem mem_sortGo {z : α} : ∀ {l acc : List α}, z ∈ sortGo lt acc l ↔ z ∈ acc ∨ z ∈ l
  | [], acc => by simp [sortGo]
  | x :: t, acc => by
    rw [sortGo, mem_sortGo, mem_insS, List.mem_cons]
    constructor
    · rintro ((h | h) | h)
      · exact .inr (.inl h)
      · exact .inl h
      · exact .inr (.inr h)
    · rintro (h | h | h)
      · exact .inl (.inr h)
      · exact .inl (.inl h)
      · exact .inr h
theorem mem_sortS {z : α} {l : List α} : z ∈ sortS lt l ↔ z ∈ l := by unfold sortS; rw [mem_sortGo]; simp
theorem up_sortGo (S : SLO lt) : ∀ {l acc : List α}, Up lt acc → Up lt (sortGo lt acc l)
  | [], _, h => h
  | x :: t, _, h => by rw [sortGo]; exact up_sortGo S (up_insS S h)
theorem up_sortS (S : SLO lt) (l : List α) : Up lt (sortS lt l) := up_sortGo S List.Pairwise.nil
theorem sortS_eq (S : SLO lt) {l m : List α} (h : Up lt m) (hm : ∀ x, x ∈ m ↔ x ∈ l) : m = sortS lt l := up_ext S h (up_sortS S l) fun x => (hm x).trans mem_sortS.symm
theorem sortGo_snoc (acc l : List α) (x : α) : sortGo lt acc (l ++ [x]) = insS lt x (sortGo lt acc l) := by
  induction l generalizing acc with
  | nil => rfl
  | cons y t ih => rw [List.cons_append, sortGo, sortGo, ih]
theorem sortS_snoc (l : List α) (x : α) : sortS lt (l ++ [x]) = insS lt x (sortS lt l) := sortGo_snoc [] l x
theorem sortS_self (S : SLO lt) {l : List α} (h : Up lt l) : sortS lt l = l := (sortS_eq S h fun _ => Iff.rfl).symm

/-- What slices.Compact leaves. -/
def compGo (p : α) : List α → List α
  | [] => []
  | y :: t => if y = p then compGo y t else y :: compGo y t
def compL : List α → List α
  | [] => []
  | x :: t => x :: compGo x t
theorem mem_compGo {z : α} : ∀ {l : List α} {p : α}, z ∈ l → z = p ∨ z ∈ compGo p l
  | y :: t, p, h => by
    unfold compGo
    rcases List.mem_cons.1 h with e | e
    · split
      · rename_i hp; exact .inl (e.trans hp)
      · exact .inr (by simp [e])
    · rcases mem_compGo (p := y) e with h1 | h1
      · split
        · rename_i hp; exact .inl (h1.trans hp)
        · exact .inr (by simp [h1])
      · split
        · exact .inr h1
        · exact .inr (by simp [h1])
theorem compGo_sub {z : α} : ∀ {l : List α} {p : α}, z ∈ compGo p l → z ∈ l
  | [], _, h => by cases h
  | y :: t, p, h => by
    unfold compGo at h
    split at h
    · exact List.mem_cons_of_mem _ (compGo_sub h)
    · rcases List.mem_cons.1 h with e | e
      · simp [e]
      · exact List.mem_cons_of_mem _ (compGo_sub e)
theorem mem_compL {z : α} : ∀ {l : List α}, z ∈ compL l ↔ z ∈ l
  | [] => Iff.rfl
  | x :: t => by
    unfold compL
    constructor
    · intro h
      rcases List.mem_cons.1 h with e | e
      · simp [e]
      · exact List.mem_cons_of_mem _ (compGo_sub e)
    · intro h
      rcases List.mem_cons.1 h with e | e
      · simp [e]
      · rcases mem_compGo (p := x) e with h1 | h1
        · simp [h1]
        · exact List.mem_cons_of_mem _ h1
theorem up_compGo (S : SLO lt) : ∀ {l : List α} {p : α}, (p :: l).Pairwise (fun x y => lt y x = false) → Up lt (compGo p l) ∧ ∀ z ∈ compGo p l, lt p z = true
  | [], _, _ => ⟨List.Pairwise.nil, by simp [compGo]⟩
  | y :: t, p, h => by
    have g := List.pairwise_cons.1 h
    obtain ⟨h1, h2⟩ := up_compGo S g.2
    unfold compGo
    split
    · rename_i e; rw [← e]; exact ⟨h1, h2⟩
    · rename_i hne
      have hpy : lt p y = true := by
        rcases S.tri p y with h3 | h3 | h3
        · exact h3
        · exact absurd h3.symm hne
        · rw [g.1 y (by simp)] at h3; cases h3
      refine ⟨List.pairwise_cons.2 ⟨h2, h1⟩, fun z hz => ?_⟩
      rcases List.mem_cons.1 hz with e | e
      · rw [e]; exact hpy
      · exact S.trans _ _ _ hpy (h2 z e)
theorem up_compL (S : SLO lt) : ∀ {l : List α}, l.Pairwise (fun x y => lt y x = false) → Up lt (compL l)
  | [], _ => List.Pairwise.nil
  | x :: t, h => by
    obtain ⟨h1, h2⟩ := up_compGo S h
    exact List.pairwise_cons.2 ⟨h2, h1⟩
theorem comp_sort (S : SLO lt) {l m : List α} (hp : ∀ x, x ∈ m ↔ x ∈ l) (hs : m.Pairwise fun x y => lt y x = false) : compL m = sortS lt l :=
  sortS_eq S (up_compL S hs) fun x => mem_compL.trans (hp x)
end

def ltI (x y : Int) : Bool := decide (x < y)
theorem sloI : SLO ltI := ⟨fun x => by simp [ltI], fun x y z => by simp [ltI]; omega, fun x y => by simp [ltI]; omega⟩
def ltE (x y : Int × Int) : Bool := decide (x.1 < y.1 ∨ x.1 = y.1 ∧ x.2 < y.2)
theorem sloE : SLO ltE := ⟨fun x => by simp [ltE], fun x y z => by simp [ltE]; omega, fun x y => by
  obtain ⟨a, b⟩ := x
  obtain ⟨c, d⟩ := y
  simp only [ltE, decide_eq_true_eq, Prod.mk.injEq]; omega⟩
end Go.Proofs.Ytmamejkdheigjaa

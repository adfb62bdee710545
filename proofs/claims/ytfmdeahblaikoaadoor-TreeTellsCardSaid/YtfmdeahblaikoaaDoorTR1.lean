
/-
  PLAIN LAWS: grips on a tree; from above there is no ring (ginv_run).
  PLAIN LAW: of grips that are legal on a tree the deals have an order (tree_order).
-/
import Derived.Test.YtfmdeahblaikoaaDoorEitherP
import Derived.Test.YtfmdeahblaikoaaDoorM2

namespace Go.Proofs.YtfmdeahblaikoaaDoor
open Go.RowKit

/-- A grip of a deal on an item of a tree: locked, or let go. -/
structure GOp where
  tx : Int
  item : Int
  lock : Bool
  deriving DecidableEq, Repr, Inhabited
def updF {α : Type} (f : Int → α) (k : Int) (v : α) : Int → α := fun x => if x = k then v else f x
theorem updF_self {α : Type} (f : Int → α) (k : Int) (v : α) : updF f k v k = v := if_pos rfl
theorem updF_ne {α : Type} (f : Int → α) {k x : Int} (v : α) (h : x ≠ k) : updF f k v x = f x := if_neg h
/-- Who holds each item (0: nobody); which items each deal had. -/
structure TSt where
  hold : Int → Int
  had : Int → List Int
def upF (up : List Int) (y : Int) : Int := up.getD (y.toNat - 1) 0
/-- One grip: the fault, and the state then. -/
def gripF (up : List Int) (s : TSt) (g : GOp) : Int × TSt :=
  if g.lock then
    if s.hold g.item ≠ 0 then (7, s)
    else if g.item ∈ s.had g.tx then (6, s)
    else if s.had g.tx ≠ [] ∧ (g.item = 1 ∨ s.hold (upF up g.item) ≠ g.tx) then (6, s)
    else (0, ⟨updF s.hold g.item g.tx, updF s.had g.tx (s.had g.tx ++ [g.item])⟩)
  else if s.hold g.item ≠ g.tx then (5, s) else (0, { s with hold := updF s.hold g.item 0 })
def ts0 : TSt := ⟨fun _ => 0, fun _ => []⟩
def gripB (n : Nat) (g : GOp) : Bool := txB g.tx && decide (1 ≤ g.item ∧ g.item ≤ n)
def gripsGo (up : List Int) : Nat → TSt → List GOp → Int × Int
  | _, _, [] => (0, 0)
  | i, s, g :: t => if gripB up.length g = false then (i, 1) else if (gripF up s g).1 ≠ 0 then (i, (gripF up s g).1) else gripsGo up (i + 1) (gripF up s g).2 t
/-- What is wrong with a tree. -/
def treeGo : Nat → List Int → Int
  | _, [] => 0
  | i, u :: t => if 1 ≤ u ∧ u ≤ i + 1 then treeGo (i + 1) t else 1
def treeE (up : List Int) : Int := if up.length < 1 ∨ 6 < up.length then 1 else if up.headD 0 ≠ 0 then 3 else treeGo 0 up.tail
def legalF (up : List Int) (l : List GOp) : Int × Int := if treeE up ≠ 0 then (0, treeE up) else if 40 < l.length then (0, 4) else gripsGo up 0 ts0 l
def pairG (a b : GOp) : Bool := a.lock && b.lock && decide (a.item = b.item)
def rawG : List GOp → List (Int × Int)
  | [] => []
  | a :: t => (t.filter (pairG a)).map (fun b => (a.tx, b.tx)) ++ rawG t
theorem rawG_snoc {l : List GOp} {g : GOp} {e : Int × Int} : e ∈ rawG (l ++ [g]) ↔ e ∈ rawG l ∨ ∃ a ∈ l, pairG a g = true ∧ e = (a.tx, g.tx) := by
  induction l with
  | nil => simp [rawG]
  | cons x t ih =>
    have e1 : rawG (x :: t ++ [g]) = ((t ++ [g]).filter (pairG x)).map (fun b => (x.tx, b.tx)) ++ rawG (t ++ [g]) := rfl
    have e2 : rawG (x :: t) = (t.filter (pairG x)).map (fun b => (x.tx, b.tx)) ++ rawG t := rfl
    rw [e1, e2, List.mem_append, List.mem_append, ih, List.filter_append, List.map_append, List.mem_append]
    constructor
    · rintro ((h | h) | h | ⟨a, ha, h1, h2⟩)
      · exact .inl (.inl h)
      · obtain ⟨b, hb, rfl⟩ := List.mem_map.1 h
        obtain ⟨hb, hp⟩ := List.mem_filter.1 hb
        rw [List.mem_singleton.1 hb] at hp ⊢
        exact .inr ⟨x, List.mem_cons_self, hp, rfl⟩
      · exact .inl (.inr h)
      · exact .inr ⟨a, List.mem_cons_of_mem _ ha, h1, h2⟩
    · rintro ((h | h) | ⟨a, ha, h1, h2⟩)
      · exact .inl (.inl h)
      · exact .inr (.inl h)
      · rcases List.mem_cons.1 ha with rfl | ha
        · exact .inl (.inr (List.mem_map.2 ⟨g, List.mem_filter.2 ⟨List.mem_singleton.2 rfl, h1⟩, h2.symm⟩))
        · exact .inr (.inr ⟨a, ha, h1, h2⟩)

/-! ### From above there is no ring. -/
/-- y lies in the tree below x, or is x. -/
inductive SubT (up : List Int) (x : Int) : Int → Prop
  | self : SubT up x x
  | down {y : Int} : 2 ≤ y → SubT up x (upF up y) → SubT up x y
def OkT (up : List Int) : Prop := ∀ y : Int, 2 ≤ y → upF up y < y
theorem SubT.le {up : List Int} (h : OkT up) {x y : Int} (hs : SubT up x y) : x ≤ y := by
  induction hs with
  | self => exact Int.le_refl _
  | down h2 _ ih => have := h _ h2; omega
def eT (p : List GOp) (a b : Int) : Prop := (a, b) ∈ rawG p
structure GInv (up : List Int) (p : List GOp) (s : TSt) : Prop where
  had : ∀ t i, i ∈ s.had t ↔ ∃ g ∈ p, g.lock = true ∧ g.tx = t ∧ g.item = i
  hold : ∀ i t, t ≠ 0 → s.hold i = t → i ∈ s.had t ∧ ∀ u, u ≠ t → i ∈ s.had u → eT p u t
  conn : ∀ t x, (∀ y ∈ s.had t, SubT up x y) ∨ (∀ y ∈ s.had t, ¬ SubT up x y) ∨ (x ∈ s.had t ∧ upF up x ∈ s.had t)
  share : ∀ a b, eT p a b → a ≠ b ∧ ∃ i, i ∈ s.had a ∧ i ∈ s.had b
  acyc : ∀ a, ¬ Relation.TransGen (eT p) a a
theorem gInv0 (up : List Int) : GInv up [] ts0 := by
  refine ⟨fun t i => ⟨fun h => (by cases h), fun ⟨g, h, _⟩ => (by cases h)⟩, fun i t ht h => absurd h.symm ht, fun t x => .inl fun y h => (by cases h), fun a b h => (by cases h), fun a h => ?_⟩
  cases h with
  | single h => cases h
  | tail _ h => cases h
/-- New edges all lead to T: around a ring one comes from T to one of those they come from. -/
theorem ring_new {E E' : Int → Int → Prop} {T : Int} {N : Int → Prop} (hE : ∀ a b, E' a b ↔ E a b ∨ (N a ∧ b = T)) (hac : ∀ a, ¬ Relation.TransGen E a a) (hno : ∀ S, N S → S ≠ T ∧ ¬ Relation.TransGen E T S) : ∀ a, ¬ Relation.TransGen E' a a := by
  have h1 : ∀ y, Relation.TransGen E' T y → Relation.TransGen E T y := by
    intro y h
    induction h with
    | single h =>
      rcases (hE _ _).1 h with h | h
      · exact .single h
      · exact absurd rfl (hno _ h.1).1
    | tail _ h ih =>
      rcases (hE _ _).1 h with h | h
      · exact .tail ih h
      · exact absurd ih (hno _ h.1).2
  have h2 : ∀ a b, Relation.TransGen E' a b → Relation.TransGen E a b ∨ (Relation.TransGen E' a T ∧ (b = T ∨ Relation.TransGen E' T b)) := by
    intro a b h
    induction h with
    | single h =>
      rcases (hE _ _).1 h with h' | h'
      · exact .inl (.single h')
      · exact .inr ⟨by rw [← h'.2]; exact .single h, .inl h'.2⟩
    | tail hab h ih =>
      rcases (hE _ _).1 h with h' | h'
      · rcases ih with ih | ⟨i1, i2⟩
        · exact .inl (.tail ih h')
        · refine .inr ⟨i1, .inr ?_⟩
          rcases i2 with rfl | i2
          · exact .single h
          · exact .tail i2 h
      · exact .inr ⟨by rw [← h'.2]; exact .tail hab h, .inl h'.2⟩
  intro a h
  rcases h2 a a h with h | ⟨h, rfl | h'⟩
  · exact hac a h
  · exact hac _ (h1 _ h)
  · exact hac _ (h1 _ (h'.trans h))
theorem rawG_unlock {p : List GOp} {g : GOp} (h : g.lock = false) {e : Int × Int} : e ∈ rawG (p ++ [g]) ↔ e ∈ rawG p := by
  rw [rawG_snoc]
  refine ⟨fun hh => hh.elim id fun ⟨a, _, h1, _⟩ => ?_, .inl⟩
  simp [pairG, h] at h1
theorem ginv_step {up : List Int} (hup : OkT up) {p : List GOp} {s : TSt} (I : GInv up p s) {g : GOp} (ht : 1 ≤ g.tx) (hi : 1 ≤ g.item) (h0 : (gripF up s g).1 = 0) : GInv up (p ++ [g]) (gripF up s g).2 := by
  unfold gripF at h0 ⊢
  by_cases hl : g.lock = true
  · rw [if_pos hl] at h0 ⊢
    by_cases h1 : s.hold g.item ≠ 0
    · rw [if_pos h1] at h0; cases h0
    rw [if_neg h1] at h0 ⊢
    by_cases h2 : g.item ∈ s.had g.tx
    · rw [if_pos h2] at h0; cases h0
    rw [if_neg h2] at h0 ⊢
    by_cases h3 : s.had g.tx ≠ [] ∧ (g.item = 1 ∨ s.hold (upF up g.item) ≠ g.tx)
    · rw [if_pos h3] at h0; cases h0
    rw [if_neg h3]
    have h1 : s.hold g.item = 0 := Decidable.not_not.1 h1
    have hE : ∀ a b, eT (p ++ [g]) a b ↔ eT p a b ∨ (g.item ∈ s.had a ∧ b = g.tx) := by
      intro a b
      unfold eT
      rw [rawG_snoc]
      constructor
      · rintro (h | ⟨x, hx, hp, he⟩)
        · exact .inl h
        · simp only [pairG, Bool.and_eq_true, decide_eq_true_eq] at hp
          injection he with e1 e2
          exact .inr ⟨(I.had a _).2 ⟨x, hx, hp.1.1, e1.symm, hp.2⟩, e2⟩
      · rintro (h | ⟨h, rfl⟩)
        · exact .inl h
        · obtain ⟨x, hx, h4, h5, h6⟩ := (I.had a _).1 h
          exact .inr ⟨x, hx, by simp [pairG, h4, hl, h6], by rw [h5]⟩
    have hhad : ∀ t i, i ∈ updF s.had g.tx (s.had g.tx ++ [g.item]) t ↔ i ∈ s.had t ∨ (t = g.tx ∧ i = g.item) := by
      intro t i
      by_cases h : t = g.tx
      · subst h
        rw [updF_self, List.mem_append, List.mem_singleton]
        simp
      · rw [updF_ne _ _ h]
        simp [h]
    refine ⟨fun t i => ?_, fun i t ht0 hh => ?_, fun t x => ?_, fun a b hab => ?_, ?_⟩
    · show i ∈ updF s.had g.tx _ t ↔ _
      rw [hhad, I.had]
      constructor
      · rintro (⟨x, hx, h⟩ | ⟨rfl, rfl⟩)
        · exact ⟨x, List.mem_append_left _ hx, h⟩
        · exact ⟨g, List.mem_append_right _ List.mem_cons_self, hl, rfl, rfl⟩
      · rintro ⟨x, hx, h4, h5, h6⟩
        rcases List.mem_append.1 hx with hx | hx
        · exact .inl ⟨x, hx, h4, h5, h6⟩
        · rw [List.mem_singleton.1 hx] at h5 h6
          exact .inr ⟨h5.symm, h6.symm⟩
    · replace hh : updF s.hold g.item g.tx i = t := hh
      show i ∈ updF s.had g.tx _ t ∧ ∀ u, u ≠ t → i ∈ updF s.had g.tx _ u → _
      by_cases hig : i = g.item
      · rw [hig, updF_self] at hh
        rw [hig]
        refine ⟨(hhad _ _).2 (.inr ⟨hh.symm, rfl⟩), fun u hu hiu => (hE _ _).2 (.inr ?_)⟩
        rcases (hhad _ _).1 hiu with h | ⟨h, _⟩
        · exact ⟨h, hh.symm⟩
        · exact absurd (h.trans hh) hu
      · rw [updF_ne _ _ hig] at hh
        obtain ⟨a1, a2⟩ := I.hold i t ht0 hh
        refine ⟨(hhad _ _).2 (.inl a1), fun u hu hiu => (hE _ _).2 (.inl (a2 u hu ?_))⟩
        rcases (hhad _ _).1 hiu with h | ⟨_, h⟩
        · exact h
        · exact absurd h hig
    · show (∀ y ∈ updF s.had g.tx _ t, _) ∨ (∀ y ∈ updF s.had g.tx _ t, _) ∨ (x ∈ updF s.had g.tx _ t ∧ upF up x ∈ updF s.had g.tx _ t)
      by_cases htg : t = g.tx
      · by_cases hne : s.had g.tx = []
        · by_cases hs : SubT up x g.item
          · refine .inl fun y hy => ?_
            rcases (hhad _ _).1 hy with h | ⟨_, h⟩
            · rw [htg, hne] at h; cases h
            · rw [h]; exact hs
          · refine .inr (.inl fun y hy => ?_)
            rcases (hhad _ _).1 hy with h | ⟨_, h⟩
            · rw [htg, hne] at h; cases h
            · rw [h]; exact hs
        · have h4 : g.item ≠ 1 ∧ s.hold (upF up g.item) = g.tx := by
            have := fun h => h3 ⟨hne, h⟩
            exact ⟨fun h => this (.inl h), Decidable.not_not.1 fun h => this (.inr h)⟩
          have hp := (I.hold _ _ (by omega) h4.2).1
          rw [htg]
          rcases I.conn g.tx x with h | h | h
          · refine .inl fun y hy => ?_
            rcases (hhad _ _).1 hy with h' | ⟨_, h'⟩
            · exact h y h'
            · rw [h']; exact .down (by omega) (h _ hp)
          · by_cases hx : x = g.item
            · exact .inr (.inr ⟨(hhad _ _).2 (.inr ⟨rfl, hx⟩), (hhad _ _).2 (.inl (by rw [hx]; exact hp))⟩)
            · refine .inr (.inl fun y hy => ?_)
              rcases (hhad _ _).1 hy with h' | ⟨_, h'⟩
              · exact h y h'
              · rw [h']
                intro hs
                cases hs with
                | self => exact hx rfl
                | down _ hs => exact h _ hp hs
          · exact .inr (.inr ⟨(hhad _ _).2 (.inl h.1), (hhad _ _).2 (.inl h.2)⟩)
      · rw [updF_ne _ _ htg]; exact I.conn t x
    · show a ≠ b ∧ ∃ i, i ∈ updF s.had g.tx _ a ∧ i ∈ updF s.had g.tx _ b
      rcases (hE a b).1 hab with h | ⟨h, rfl⟩
      · obtain ⟨h4, i, h5, h6⟩ := I.share a b h
        exact ⟨h4, i, (hhad _ _).2 (.inl h5), (hhad _ _).2 (.inl h6)⟩
      · exact ⟨fun e => h2 (by rw [← e]; exact h), g.item, (hhad _ _).2 (.inl h), (hhad _ _).2 (.inr ⟨rfl, rfl⟩)⟩
    · refine ring_new hE I.acyc fun S hS => ⟨fun e => h2 (by rw [← e]; exact hS), fun hpath => ?_⟩
      by_cases hne : s.had g.tx = []
      · have : ∀ y, Relation.TransGen (eT p) g.tx y → False := by
          intro y h
          induction h with
          | single h =>
            obtain ⟨_, i, h5, _⟩ := I.share _ _ h
            rw [hne] at h5; cases h5
          | tail _ _ ih => exact ih
        exact this _ hpath
      · have h4 : g.item ≠ 1 ∧ s.hold (upF up g.item) = g.tx := by
          have := fun h => h3 ⟨hne, h⟩
          exact ⟨fun h => this (.inl h), Decidable.not_not.1 fun h => this (.inr h)⟩
        obtain ⟨hp, hp2⟩ := I.hold _ _ (by omega) h4.2
        have hlt : upF up g.item < g.item := hup _ (by omega)
        have hdis : ∀ y ∈ s.had g.tx, ¬ SubT up g.item y := by
          rcases I.conn g.tx g.item with h | h | h
          · have := (h _ hp).le hup
            omega
          · exact h
          · exact absurd h.1 h2
        have key : ∀ y, Relation.TransGen (eT p) g.tx y → (∀ z ∈ s.had y, ¬ SubT up g.item z) ∨ ∃ V, Relation.TransGen (eT p) g.tx V ∧ g.item ∈ s.had V ∧ upF up g.item ∈ s.had V := by
          have one : ∀ u w, eT p u w → Relation.TransGen (eT p) g.tx w → (∀ z ∈ s.had u, ¬ SubT up g.item z) → (∀ z ∈ s.had w, ¬ SubT up g.item z) ∨ ∃ V, Relation.TransGen (eT p) g.tx V ∧ g.item ∈ s.had V ∧ upF up g.item ∈ s.had V := by
            intro u w huw hw hd
            obtain ⟨_, i, h5, h6⟩ := I.share _ _ huw
            rcases I.conn w g.item with h | h | h
            · exact absurd (h i h6) (hd i h5)
            · exact .inl h
            · exact .inr ⟨w, hw, h⟩
          intro y h
          induction h with
          | single h => exact one _ _ h (.single h) hdis
          | tail hab h ih =>
            rcases ih with ih | ih
            · exact one _ _ h (.tail hab h) ih
            · exact .inr ih
        rcases key S hpath with h | ⟨V, h5, h6, h7⟩
        · exact h _ hS .self
        · exact I.acyc _ (.tail h5 (hp2 V (fun e => h2 (by rw [← e]; exact h6)) h7))
  · have hl : g.lock = false := by simpa using hl
    rw [hl, if_neg Bool.false_ne_true] at h0 ⊢
    by_cases h1 : s.hold g.item ≠ g.tx
    · rw [if_pos h1] at h0; cases h0
    rw [if_neg h1]
    have hE : eT (p ++ [g]) = eT p := by
      funext a b
      exact propext (rawG_unlock hl)
    refine ⟨fun t i => ?_, fun i t ht0 hh => ?_, I.conn, fun a b hab => ?_, by rw [hE]; exact I.acyc⟩
    · show i ∈ s.had t ↔ _
      rw [I.had]
      constructor
      · rintro ⟨x, hx, h⟩
        exact ⟨x, List.mem_append_left _ hx, h⟩
      · rintro ⟨x, hx, h4, h5⟩
        rcases List.mem_append.1 hx with hx | hx
        · exact ⟨x, hx, h4, h5⟩
        · rw [List.mem_singleton.1 hx, hl] at h4; cases h4
    · replace hh : updF s.hold g.item 0 i = t := hh
      by_cases hig : i = g.item
      · rw [hig, updF_self] at hh
        exact absurd hh.symm ht0
      · rw [updF_ne _ _ hig] at hh
        rw [hE]
        exact I.hold i t ht0 hh
    · rw [hE] at hab
      exact I.share a b hab
theorem ginv_run {up : List Int} (hup : OkT up) : ∀ (l p : List GOp) (i : Nat) (s : TSt), GInv up p s → (gripsGo up i s l).2 = 0 → ∃ s', GInv up (p ++ l) s'
  | [], p, i, s, I, _ => ⟨s, by rw [List.append_nil]; exact I⟩
  | g :: t, p, i, s, I, h => by
    rw [gripsGo] at h
    split at h
    · cases h
    · rename_i hb
      split at h
      · rename_i h1; exact absurd h h1
      · rename_i h1
        have hb : gripB up.length g = true := by simpa using hb
        simp only [gripB, Bool.and_eq_true, decide_eq_true_eq, txB] at hb
        have := ginv_run hup t (p ++ [g]) (i + 1) _ (ginv_step hup I hb.1.1 hb.2.1 (Decidable.not_not.1 h1)) h
        rw [List.append_assoc] at this
        exact this
end Go.Proofs.YtfmdeahblaikoaaDoor


namespace Go.Proofs.YtfmdeahblaikoaaDoor
open Go.RowKit

theorem treeGo_le : ∀ (l : List Int) (i : Nat), treeGo i l = 0 → ∀ (j : Nat) (u : Int), l[j]? = some u → 1 ≤ u ∧ u ≤ (i : Int) + j + 1
  | [], _, _, _, _, h => by simp at h
  | x :: t, i, h0, j, u, h => by
    rw [treeGo] at h0
    split at h0
    · rename_i hx
      cases j with
      | zero =>
        obtain rfl : x = u := by simpa using h
        exact ⟨hx.1, by have := hx.2; simp; omega⟩
      | succ j =>
        have := treeGo_le t (i + 1) h0 j u (by simpa using h)
        refine ⟨this.1, ?_⟩
        have := this.2
        push_cast at this ⊢
        omega
    · cases h0
theorem treeE_ok {up : List Int} (h : treeE up = 0) : OkT up := by
  unfold treeE at h
  split at h
  · cases h
  · split at h
    · cases h
    · intro y hy
      unfold upF
      cases up with
      | nil => simp; omega
      | cons a t =>
        have e : y.toNat - 1 = (y.toNat - 2) + 1 := by omega
        rw [e, List.getD_cons_succ]
        cases hj : t[y.toNat - 2]? with
        | none => rw [List.getD_eq_getElem?_getD, hj]; simp; omega
        | some u =>
          rw [List.getD_eq_getElem?_getD, hj]
          have := treeGo_le t 0 h _ u hj
          simp
          omega
def edgesG (l : List GOp) : List (Int × Int) := sortS ltE (rawG l)
theorem gripsGo_txs {up : List Int} : ∀ (l : List GOp) (i : Nat) (s : TSt), (gripsGo up i s l).2 = 0 → ∀ g ∈ l, 1 ≤ g.tx ∧ g.tx ≤ 6
  | [], _, _, _, _, h => by cases h
  | x :: t, i, s, h, g, hg => by
    rw [gripsGo] at h
    split at h
    · cases h
    · rename_i hb
      split at h
      · rename_i h1; exact absurd h h1
      · rcases List.mem_cons.1 hg with rfl | hg
        · have hb : gripB up.length g = true := by simpa using hb
          simp only [gripB, Bool.and_eq_true, decide_eq_true_eq, txB] at hb
          exact hb.1
        · exact gripsGo_txs t _ _ h g hg
theorem mem_rawG {l : List GOp} {e : Int × Int} (h : e ∈ rawG l) : (∃ a ∈ l, a.tx = e.1) ∧ ∃ b ∈ l, b.tx = e.2 := by
  induction l with
  | nil => cases h
  | cons x t ih =>
    have e2 : rawG (x :: t) = (t.filter (pairG x)).map (fun b => (x.tx, b.tx)) ++ rawG t := rfl
    rw [e2] at h
    rcases List.mem_append.1 h with h | h
    · obtain ⟨b, hb, rfl⟩ := List.mem_map.1 h
      exact ⟨⟨x, List.mem_cons_self, rfl⟩, b, List.mem_cons_of_mem _ (List.mem_filter.1 hb).1, rfl⟩
    · obtain ⟨⟨a, ha, h1⟩, b, hb, h2⟩ := ih h
      exact ⟨⟨a, List.mem_cons_of_mem _ ha, h1⟩, b, List.mem_cons_of_mem _ hb, h2⟩
theorem edgesG_ok {l : List GOp} (ht : ∀ g ∈ l, 1 ≤ g.tx ∧ g.tx ≤ 6) : okE (edgesG l) ∧ (edgesG l).length ≤ 36 := by
  have hok : okE (edgesG l) := fun e he => by
    obtain ⟨⟨a, ha, h1⟩, b, hb, h2⟩ := mem_rawG (mem_sortS.1 he)
    have h3 := ht a ha
    have h4 := ht b hb
    exact ⟨by rw [← h1]; simpa [txB] using h3, by rw [← h2]; simpa [txB] using h4⟩
  have hn : (edgesG l).Nodup := (up_sortS sloE _).imp fun {a b} hab e => by rw [e] at hab; simp [ltE] at hab
  refine ⟨hok, nodup_len (s := allE) hn fun ⟨x, y⟩ hx => ?_⟩
  have h1 := hok _ hx
  have h2 : 1 ≤ x ∧ x ≤ 6 := by simpa [txB] using h1.1
  have h3 : 1 ≤ y ∧ y ≤ 6 := by simpa [txB] using h1.2
  unfold allE
  rw [List.mem_flatMap]
  refine ⟨x, by simp; omega, ?_⟩
  rw [List.mem_map]
  exact ⟨y, by simp; omega, rfl⟩
/-- Of grips that are legal the deals have an order, and nobody comes behind itself. -/
theorem tree_order {up : List Int} {l : List GOp} (h : (legalF up l).2 = 0) : (∃ o, topF (edgesG l) (namedF (edgesG l)) = some o ∧ o.length ≤ 6) ∧ checkG (edgesG l) = 0 ∧ (∀ e ∈ edgesG l, e.1 ≠ e.2) ∧ ∀ g ∈ l, 1 ≤ g.tx ∧ g.tx ≤ 6 := by
  unfold legalF at h
  split at h
  · rename_i h1; exact absurd h h1
  · rename_i h1
    split at h
    · cases h
    · have htx := gripsGo_txs l 0 ts0 h
      obtain ⟨s', I⟩ := ginv_run (treeE_ok (Decidable.not_not.1 h1)) l [] 0 ts0 (gInv0 up) h
      rw [List.nil_append] at I
      obtain ⟨hok, h36⟩ := edgesG_ok htx
      refine ⟨?_, ?_, fun e he => (I.share e.1 e.2 (mem_sortS.1 he)).1, htx⟩
      · rcases either hok with ⟨o, ho, _⟩ | ⟨_, r, hr⟩
        · obtain ⟨h2, h3, _⟩ := order_some hok ho
          exact ⟨o, ho, nodup_sub_len o [1, 2, 3, 4, 5, 6] h2 fun x hx => by have := h3 x hx; simp only [List.mem_cons, List.not_mem_nil, or_false]; omega⟩
        · exfalso
          have hr := ringF_some hr
          obtain ⟨a, b, ha, _, _, _, _, _, _⟩ := ring_at hr (ringE_len hr).1
          have hw := reachF_way hok |>.1 (ring_reach hok hr (ringE_len hr).1 ha)
          have key : ∀ x y : Nat, WayR (edgesG l) x y → Relation.TransGen (eT l) (x : Int) (y : Int) := by
            intro x y h
            induction h with
            | single h => exact .single (mem_sortS.1 h)
            | tail _ h ih => exact .tail ih (mem_sortS.1 h)
          exact I.acyc _ (key _ _ hw)
      · unfold checkG
        rw [if_neg (by omega), if_neg]
        intro hb
        rw [List.any_eq_true] at hb
        obtain ⟨e, he, hb⟩ := hb
        have := hok e he
        simp [badE, this.1, this.2] at hb
end Go.Proofs.YtfmdeahblaikoaaDoor

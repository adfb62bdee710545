
/-
  PLAIN LAW: of grips that are legal on a tree the deals have an order (tree_order).
-/
import Derived.Test.YtehodagoibgadaaDoorTreeP
import Derived.Test.YtehodagoibgadaaDoorM2

namespace Go.Proofs.YtehodagoibgadaaDoor
open Go.RowKit

theorem treeGo_le : ∀ (l : List Int) (i : Nat), treeGo i l = 0 → ∀ (j : Nat) (u : Int), l[j]? = some u → 1 ≤ u ∧ u ≤ (i : Int) + j + 1
  | [], _, _, _, _, h => by simp at h
  | x :: t, i, h0, j, u, h => by
    rw [treeGo] at h0
    split at h0
    · rename_i hx
      cases j with
      | zero =>
        obtain rfl : x = u := by simpa using h
        exact ⟨hx.1, by have := hx.2; simp; omega⟩
      | succ j =>
        have := treeGo_le t (i + 1) h0 j u (by simpa using h)
        refine ⟨this.1, ?_⟩
        have := this.2
        push_cast at this ⊢
        omega
    · cases h0
theorem treeE_ok {up : List Int} (h : treeE up = 0) : OkT up := by
  unfold treeE at h
  split at h
  · cases h
  · split at h
    · cases h
    · intro y hy
      unfold upF
      cases up with
      | nil => simp; omega
      | cons a t =>
        have e : y.toNat - 1 = (y.toNat - 2) + 1 := by omega
        rw [e, List.getD_cons_succ]
        cases hj : t[y.toNat - 2]? with
        | none => rw [List.getD_eq_getElem?_getD, hj]; simp; omega
        | some u =>
          rw [List.getD_eq_getElem?_getD, hj]
          have := treeGo_le t 0 h _ u hj
          simp
          omega
def edgesG (l : List GOp) : List (Int × Int) := sortS ltE (rawG l)
theorem gripsGo_txs {up : List Int} : ∀ (l : List GOp) (i : Nat) (s : TSt), (gripsGo up i s l).2 = 0 → ∀ g ∈ l, 1 ≤ g.tx ∧ g.tx ≤ 6
  | [], _, _, _, _, h => by cases h
  | x :: t, i, s, h, g, hg => by
    rw [gripsGo] at h
    split at h
    · cases h
    · rename_i hb
      split at h
      · rename_i h1; exact absurd h h1
      · rcases List.mem_cons.1 hg with rfl | hg
        · have hb : gripB up.length g = true := by simpa using hb
          simp only [gripB, Bool.and_eq_true, decide_eq_true_eq, txB] at hb
          exact hb.1
        · exact gripsGo_txs t _ _ h g hg
theorem mem_rawG {l : List GOp} {e : Int × Int} (h : e ∈ rawG l) : (∃ a ∈ l, a.tx = e.1) ∧ ∃ b ∈ l, b.tx = e.2 := by
  induction l with
  | nil => cases h
  | cons x t ih =>
    have e2 : rawG (x :: t) = (t.filter (pairG x)).map (fun b => (x.tx, b.tx)) ++ rawG t := rfl
    rw [e2] at h
    rcases List.mem_append.1 h with h | h
    · obtain ⟨b, hb, rfl⟩ := List.mem_map.1 h
      exact ⟨⟨x, List.mem_cons_self, rfl⟩, b, List.mem_cons_of_mem _ (List.mem_filter.1 hb).1, rfl⟩
    · obtain ⟨⟨a, ha, h1⟩, b, hb, h2⟩ := ih h
      exact ⟨⟨a, List.mem_cons_of_mem _ ha, h1⟩, b, List.mem_cons_of_mem _ hb, h2⟩
theorem edgesG_ok {l : List GOp} (ht : ∀ g ∈ l, 1 ≤ g.tx ∧ g.tx ≤ 6) : okE (edgesG l) ∧ (edgesG l).length ≤ 36 := by
  have hok : okE (edgesG l) := fun e he => by
    obtain ⟨⟨a, ha, h1⟩, b, hb, h2⟩ := mem_rawG (mem_sortS.1 he)
    have h3 := ht a ha
    have h4 := ht b hb
    exact ⟨by rw [← h1]; simpa [txB] using h3, by rw [← h2]; simpa [txB] using h4⟩
  have hn : (edgesG l).Nodup := (up_sortS sloE _).imp fun {a b} hab e => by rw [e] at hab; simp [ltE] at hab
  refine ⟨hok, nodup_len (s := allE) hn fun ⟨x, y⟩ hx => ?_⟩
  have h1 := hok _ hx
  have h2 : 1 ≤ x ∧ x ≤ 6 := by simpa [txB] using h1.1
  have h3 : 1 ≤ y ∧ y ≤ 6 := by simpa [txB] using h1.2
  unfold allE
  rw [List.mem_flatMap]
  refine ⟨x, by simp; omega, ?_⟩
  rw [List.mem_map]
  exact ⟨y, by simp; omega, rfl⟩
/-- Of grips that are legal the deals have an order, and nobody comes behind itself. -/
theorem tree_order {up : List Int} {l : List GOp} (h : (legalF up l).2 = 0) : (∃ o, topF (edgesG l) (namedF (edgesG l)) = some o ∧ o.length ≤ 6) ∧ checkG (edgesG l) = 0 ∧ (∀ e ∈ edgesG l, e.1 ≠ e.2) ∧ ∀ g ∈ l, 1 ≤ g.tx ∧ g.tx ≤ 6 := by
  unfold legalF at h
  split at h
  · rename_i h1; exact absurd h h1
  · rename_i h1
    split at h
    · cases h
    · have htx := gripsGo_txs l 0 ts0 h
      obtain ⟨s', I⟩ := ginv_run (treeE_ok (Decidable.not_not.1 h1)) l [] 0 ts0 (gInv0 up) h
      rw [List.nil_append] at I
      obtain ⟨hok, h36⟩ := edgesG_ok htx
      refine ⟨?_, ?_, fun e he => (I.share e.1 e.2 (mem_sortS.1 he)).1, htx⟩
      · rcases either hok with ⟨o, ho, _⟩ | ⟨_, r, hr⟩
        · obtain ⟨h2, h3, _⟩ := order_some hok ho
          exact ⟨o, ho, nodup_sub_len o [1, 2, 3, 4, 5, 6] h2 fun x hx => by have := h3 x hx; simp only [List.mem_cons, List.not_mem_nil, or_false]; omega⟩
        · exfalso
          have hr := ringF_some hr
          obtain ⟨a, b, ha, _, _, _, _, _, _⟩ := ring_at hr (ringE_len hr).1
          have hw := reachF_way hok |>.1 (ring_reach hok hr (ringE_len hr).1 ha)
          have key : ∀ x y : Nat, WayR (edgesG l) x y → Relation.TransGen (eT l) (x : Int) (y : Int) := by
            intro x y h
            induction h with
            | single h => exact .single (mem_sortS.1 h)
            | tail _ h ih => exact .tail ih (mem_sortS.1 h)
          exact I.acyc _ (key _ _ hw)
      · unfold checkG
        rw [if_neg (by omega), if_neg]
        intro hb
        rw [List.any_eq_true] at hb
        obtain ⟨e, he, hb⟩ := hb
        have := hok e he
        simp [badE, this.1, this.2] at hb
end Go.Proofs.YtehodagoibgadaaDoor

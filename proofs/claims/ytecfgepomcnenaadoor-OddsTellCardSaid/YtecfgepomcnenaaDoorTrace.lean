
/-
  PLAIN LAWS: histories that are alike are those that differ by swaps of neighbours that are not at odds.
-/
import Derived.Test.YtecfgepomcnenaaDoorAlikeP
namespace Go.Proofs.YtecfgepomcnenaaDoor
open Go.RowKit

theorem oddB_comm (a b : HOp) : oddB a b = oddB b a := by
  unfold oddB
  rw [decide_eq_decide]
  constructor
  · rintro ⟨h1, h2, h3, h4⟩; exact ⟨fun e => h1 e.symm, h2.symm, by rw [← h2]; exact h3, h4.symm⟩
  · rintro ⟨h1, h2, h3, h4⟩; exact ⟨fun e => h1 e.symm, h2.symm, by rw [← h2]; exact h3, h4.symm⟩

/-- Neighbours of unlike deals that are not at odds change places, as often as may be. -/
inductive Sw : List HOp → List HOp → Prop
  | refl (h : List HOp) : Sw h h
  | step {p q g : List HOp} {a b : HOp} : a.tx ≠ b.tx → oddB a b = false → Sw (p ++ b :: a :: q) g → Sw (p ++ a :: b :: q) g
theorem Sw.trans {h g k : List HOp} (h1 : Sw h g) (h2 : Sw g k) : Sw h k := by
  induction h1 with
  | refl => exact h2
  | step ht ho _ ih => exact .step ht ho (ih h2)
theorem Sw.one {p q : List HOp} {a b : HOp} (ht : a.tx ≠ b.tx) (ho : oddB a b = false) : Sw (p ++ a :: b :: q) (p ++ b :: a :: q) := .step ht ho (.refl _)
theorem Sw.symm {h g : List HOp} (h1 : Sw h g) : Sw g h := by
  induction h1 with
  | refl => exact .refl _
  | step ht ho _ ih => exact ih.trans (.one (fun e => ht e.symm) (by rw [oddB_comm]; exact ho))
theorem Sw.cons {h g : List HOp} (x : HOp) (h1 : Sw h g) : Sw (x :: h) (x :: g) := by
  induction h1 with
  | refl => exact .refl _
  | @step p q g a b ht ho _ ih => exact .step (p := x :: p) ht ho ih
theorem Sw.front {a : HOp} {r : List HOp} : ∀ {l : List HOp}, (∀ x ∈ l, x.tx ≠ a.tx ∧ oddB x a = false) → Sw (l ++ a :: r) (a :: (l ++ r))
  | [], _ => .refl _
  | x :: l, h => by
    have h1 := Sw.front (a := a) (r := r) (l := l) fun y hy => h y (List.mem_cons_of_mem _ hy)
    obtain ⟨h2, h3⟩ := h x List.mem_cons_self
    exact (h1.cons x).trans (Sw.one (p := []) h2 h3)
theorem Sw.inv {β : Type} {P : HOp → Prop} (F : List HOp → β) (hF : ∀ (p q : List HOp) (a b : HOp), a.tx ≠ b.tx → oddB a b = false → (∀ o ∈ p ++ a :: b :: q, P o) → F (p ++ a :: b :: q) = F (p ++ b :: a :: q)) {h g : List HOp} (hs : Sw h g) :
    (∀ o ∈ h, P o) → F h = F g := by
  induction hs with
  | refl => intro _; rfl
  | @step p q g a b ht ho _ ih =>
    intro hp
    rw [hF p q a b ht ho hp]
    refine ih fun o hm => hp o ?_
    simp only [List.mem_append, List.mem_cons] at hm ⊢
    rcases hm with h | h | h | h
    · exact .inl h
    · exact .inr (.inr (.inl h))
    · exact .inr (.inl h)
    · exact .inr (.inr (.inr h))

theorem ownL_cons_same {a : HOp} {h : List HOp} : ownL (a :: h) a.tx = a :: ownL h a.tx := by unfold ownL; rw [List.filter_cons_of_pos (by simp)]
theorem ownL_cons_other {a : HOp} {h : List HOp} {t : Int} (ht : a.tx ≠ t) : ownL (a :: h) t = ownL h t := by unfold ownL; rw [List.filter_cons_of_neg (by simpa using ht)]
theorem cntT_cons (a : HOp) (h : List HOp) (t : Int) : cntT (a :: h) t = (if a.tx = t then 1 else 0) + cntT h t := by
  unfold cntT
  rw [List.countP_cons]
  by_cases e : a.tx = t <;> simp [e]; omega

/-- The first op of a deal in another history: none of that deal stands ahead. -/
theorem first_in {t : Int} {a : HOp} {L : List HOp} : ∀ {g : List HOp}, ownL g t = a :: L → ∃ l r, g = l ++ a :: r ∧ (∀ x ∈ l, x.tx ≠ t) ∧ ownL r t = L
  | [], h => by cases h
  | x :: g, h => by
    by_cases hx : x.tx = t
    · subst hx
      rw [ownL_cons_same] at h
      injection h with h1 h2
      subst h1
      exact ⟨[], g, rfl, by simp, h2⟩
    · rw [ownL_cons_other hx] at h
      obtain ⟨l, r, h1, h2, h3⟩ := first_in h
      refine ⟨x :: l, r, by rw [h1]; rfl, fun y hy => ?_, h3⟩
      rcases List.mem_cons.1 hy with e | e
      · rw [e]; exact hx
      · exact h2 y e
theorem cntT_none {l : List HOp} {t : Int} (h : ∀ x ∈ l, x.tx ≠ t) : cntT l t = 0 := by
  unfold cntT
  rw [List.countP_eq_zero]
  intro x hx
  simpa using h x hx

theorem own_len_eq {h g : List HOp} (hs : ∀ t : Int, ownL h t = ownL g t) : h.length = g.length := by
  induction h generalizing g with
  | nil =>
    cases g with
    | nil => rfl
    | cons x g =>
      have := hs x.tx
      rw [ownL_cons_same] at this
      cases this
  | cons a h ih =>
    have h1 := hs a.tx
    rw [ownL_cons_same] at h1
    obtain ⟨l, r, rfl, h2, h3⟩ := first_in h1.symm
    have := ih (g := l ++ r) fun t => by
      have ht := hs t
      rw [ownL_append] at ht ⊢
      by_cases e : a.tx = t
      · subst e
        rw [ownL_cons_same, ownL_cons_same] at ht
        have hn : ownL l a.tx = [] := by
          unfold ownL
          rw [List.filter_eq_nil_iff]
          intro x hx
          simpa using h2 x hx
        rw [hn, List.nil_append] at ht ⊢
        injection ht
      · rwa [ownL_cons_other e, ownL_cons_other e] at ht
    simp at this ⊢
    omega

theorem alike_sw : ∀ (h g : List HOp), (∀ t : Int, ownL h t = ownL g t) → keepsOdds h g → Sw h g
  | [], g, hs, _ => by
    have := own_len_eq hs
    obtain rfl : g = [] := List.eq_nil_of_length_eq_zero this.symm
    exact .refl _
  | a :: h, g, hs, hk => by
    have h1 := hs a.tx
    rw [ownL_cons_same] at h1
    obtain ⟨l, r, rfl, h2, h3⟩ := first_in h1.symm
    have hn : ownL l a.tx = [] := by
      unfold ownL
      rw [List.filter_eq_nil_iff]
      intro x hx
      simpa using h2 x hx
    have hs' : ∀ t : Int, ownL h t = ownL (l ++ r) t := fun t => by
      have ht := hs t
      rw [ownL_append] at ht ⊢
      by_cases e : a.tx = t
      · subst e
        rw [ownL_cons_same, ownL_cons_same] at ht
        rw [hn, List.nil_append] at ht ⊢
        injection ht
      · rwa [ownL_cons_other e, ownL_cons_other e] at ht
    have hl0 : (l ++ a :: r)[l.length]? = some a := by simp
    have hfr : ∀ x ∈ l, x.tx ≠ a.tx ∧ oddB x a = false := fun x hx => by
      refine ⟨h2 x hx, ?_⟩
      cases ho : oddB x a
      · rfl
      · exfalso
        obtain ⟨j, hj⟩ := List.mem_iff_getElem?.1 hx
        have hjl := (List.getElem?_eq_some_iff.1 hj).1
        have hjg : (l ++ a :: r)[j]? = some x := by rw [List.getElem?_append_left hjl]; exact hj
        -- x in a :: h
        obtain ⟨i, hi, hc⟩ := name_in hjg ((hs x.tx).symm)
        have hi0 : 0 < i := by
          cases i with
          | zero =>
            simp at hi
            exact absurd (by rw [hi]) (h2 x hx)
          | succ i => omega
        have := hk 0 i a x hi0 rfl hi (by rw [oddB_comm]; exact ho) l.length j hl0 hjg (by
          rw [List.take_left, cntT_none h2]; rfl) hc.symm
        omega
    have hk' : keepsOdds h (l ++ r) := by
      intro i k x y hik hx hy ho i' k' hx' hy' hcx hcy
      -- places in l ++ a :: r
      have shift : ∀ (n : Nat) (z : HOp) (m : Nat), (l ++ r)[n]? = some z → h[m]? = some z → cntT ((l ++ r).take n) z.tx = cntT (h.take m) z.tx →
          (l ++ a :: r)[if n < l.length then n else n + 1]? = some z ∧ cntT ((l ++ a :: r).take (if n < l.length then n else n + 1)) z.tx = cntT ((a :: h).take (m + 1)) z.tx := by
        intro n z m hz hzm hc
        rw [List.take_succ_cons, cntT_cons]
        by_cases hn' : n < l.length
        · rw [if_pos hn']
          have hzl : l[n]? = some z := by rwa [List.getElem?_append_left hn'] at hz
          refine ⟨by rw [List.getElem?_append_left hn']; exact hzl, ?_⟩
          have hne : a.tx ≠ z.tx := fun e => h2 z (List.mem_of_getElem? hzl) e.symm
          rw [if_neg hne, ← hc, List.take_append_of_le_length (by omega), List.take_append_of_le_length (by omega), Nat.zero_add]
        · rw [if_neg hn']
          rw [List.getElem?_append_right (by omega)] at hz
          refine ⟨by rw [List.getElem?_append_right (by omega), show n + 1 - l.length = (n - l.length) + 1 by omega, List.getElem?_cons_succ]; exact hz, ?_⟩
          rw [← hc, List.take_append, List.take_append, show n + 1 - l.length = (n - l.length) + 1 by omega, List.take_succ_cons, cntT_append, cntT_append, cntT_cons, List.take_of_length_le (l := l) (i := n + 1) (by omega), List.take_of_length_le (l := l) (i := n) (by omega)]
          omega
      obtain ⟨s1, s2⟩ := shift i' x i hx' hx hcx
      obtain ⟨s3, s4⟩ := shift k' y k hy' hy hcy
      have := hk (i + 1) (k + 1) x y (by omega) (by simpa using hx) (by simpa using hy) ho _ _ s1 s3 s2 s4
      split at this <;> split at this <;> omega
    exact ((alike_sw h (l ++ r) hs' hk').cons a).trans (Sw.front hfr).symm
end Go.Proofs.YtecfgepomcnenaaDoor

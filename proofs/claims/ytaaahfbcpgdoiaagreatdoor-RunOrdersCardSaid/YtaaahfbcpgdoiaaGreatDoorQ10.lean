
/-
  PLAIN LAWS: histories that are alike are those that differ by swaps of neighbours that are not at odds.
  PLAIN LAWS: swaps of neighbours that are not at odds keep what is done, the edges, what a history comes to, and that it is right.
-/
import Derived.Test.YtaaahfbcpgdoiaaGreatDoorQ9
import Derived.Test.YtaaahfbcpgdoiaaGreatDoorQ6

namespace Go.Proofs.YtaaahfbcpgdoiaaGreatDoor
open Go.RowKit

theorem oddB_comm (a b : HOp) : oddB a b = oddB b a := by
  unfold oddB
  rw [decide_eq_decide]
  constructor
  · rintro ⟨h1, h2, h3, h4⟩; exact ⟨fun e => h1 e.symm, h2.symm, by rw [← h2]; exact h3, h4.symm⟩
  · rintro ⟨h1, h2, h3, h4⟩; exact ⟨fun e => h1 e.symm, h2.symm, by rw [← h2]; exact h3, h4.symm⟩

/-- Neighbours of unlike deals that are not at odds change places, as often as may be. -/
inductive Sw : List HOp → List HOp → Prop
  | refl (h : List HOp) : Sw h h
  | step {p q g : List HOp} {a b : HOp} : a.tx ≠ b.tx → oddB a b = false → Sw (p ++ b :: a :: q) g → Sw (p ++ a :: b :: q) g
theorem Sw.trans {h g k : List HOp} (h1 : Sw h g) (h2 : Sw g k) : Sw h k := by
  induction h1 with
  | refl => exact h2
  | step ht ho _ ih => exact .step ht ho (ih h2)
theorem Sw.one {p q : List HOp} {a b : HOp} (ht : a.tx ≠ b.tx) (ho : oddB a b = false) : Sw (p ++ a :: b :: q) (p ++ b :: a :: q) := .step ht ho (.refl _)
theorem Sw.symm {h g : List HOp} (h1 : Sw h g) : Sw g h := by
  induction h1 with
  | refl => exact .refl _
  | step ht ho _ ih => exact ih.trans (.one (fun e => ht e.symm) (by rw [oddB_comm]; exact ho))
theorem Sw.cons {h g : List HOp} (x : HOp) (h1 : Sw h g) : Sw (x :: h) (x :: g) := by
  induction h1 with
  | refl => exact .refl _
  | @step p q g a b ht ho _ ih => exact .step (p := x :: p) ht ho ih
theorem Sw.front {a : HOp} {r : List HOp} : ∀ {l : List HOp}, (∀ x ∈ l, x.tx ≠ a.tx ∧ oddB x a = false) → Sw (l ++ a :: r) (a :: (l ++ r))
  | [], _ => .refl _
  | x :: l, h => by
    have h1 := Sw.front (a := a) (r := r) (l := l) fun y hy => h y (List.mem_cons_of_mem _ hy)
    obtain ⟨h2, h3⟩ := h x List.mem_cons_self
    exact (h1.cons x).trans (Sw.one (p := []) h2 h3)
theorem Sw.inv {β : Type} {P : HOp → Prop} (F : List HOp → β) (hF : ∀ (p q : List HOp) (a b : HOp), a.tx ≠ b.tx → oddB a b = false → (∀ o ∈ p ++ a :: b :: q, P o) → F (p ++ a :: b :: q) = F (p ++ b :: a :: q)) {h g : List HOp} (hs : Sw h g) :
    (∀ o ∈ h, P o) → F h = F g := by
  induction hs with
  | refl => intro _; rfl
  | @step p q g a b ht ho _ ih =>
    intro hp
    rw [hF p q a b ht ho hp]
    refine ih fun o hm => hp o ?_
    simp only [List.mem_append, List.mem_cons] at hm ⊢
    rcases hm with h | h | h | h
    · exact .inl h
    · exact .inr (.inr (.inl h))
    · exact .inr (.inl h)
    · exact .inr (.inr (.inr h))

theorem ownL_cons_same {a : HOp} {h : List HOp} : ownL (a :: h) a.tx = a :: ownL h a.tx := by unfold ownL; rw [List.filter_cons_of_pos (by simp)]
theorem ownL_cons_other {a : HOp} {h : List HOp} {t : Int} (ht : a.tx ≠ t) : ownL (a :: h) t = ownL h t := by unfold ownL; rw [List.filter_cons_of_neg (by simpa using ht)]
theorem cntT_cons (a : HOp) (h : List HOp) (t : Int) : cntT (a :: h) t = (if a.tx = t then 1 else 0) + cntT h t := by
  unfold cntT
  rw [List.countP_cons]
  by_cases e : a.tx = t <;> simp [e]; omega

/-- The first op of a deal in another history: none of that deal stands ahead. -/
theorem first_in {t : Int} {a : HOp} {L : List HOp} : ∀ {g : List HOp}, ownL g t = a :: L → ∃ l r, g = l ++ a :: r ∧ (∀ x ∈ l, x.tx ≠ t) ∧ ownL r t = L
  | [], h => by cases h
  | x :: g, h => by
    by_cases hx : x.tx = t
    · subst hx
      rw [ownL_cons_same] at h
      injection h with h1 h2
      subst h1
      exact ⟨[], g, rfl, by simp, h2⟩
    · rw [ownL_cons_other hx] at h
      obtain ⟨l, r, h1, h2, h3⟩ := first_in h
      refine ⟨x :: l, r, by rw [h1]; rfl, fun y hy => ?_, h3⟩
      rcases List.mem_cons.1 hy with e | e
      · rw [e]; exact hx
      · exact h2 y e
theorem cntT_none {l : List HOp} {t : Int} (h : ∀ x ∈ l, x.tx ≠ t) : cntT l t = 0 := by
  unfold cntT
  rw [List.countP_eq_zero]
  intro x hx
  simpa using h x hx

theorem own_len_eq {h g : List HOp} (hs : ∀ t : Int, ownL h t = ownL g t) : h.length = g.length := by
  induction h generalizing g with
  | nil =>
    cases g with
    | nil => rfl
    | cons x g =>
      have := hs x.tx
      rw [ownL_cons_same] at this
      cases this
  | cons a h ih =>
    have h1 := hs a.tx
    rw [ownL_cons_same] at h1
    obtain ⟨l, r, rfl, h2, h3⟩ := first_in h1.symm
    have := ih (g := l ++ r) fun t => by
      have ht := hs t
      rw [ownL_append] at ht ⊢
      by_cases e : a.tx = t
      · subst e
        rw [ownL_cons_same, ownL_cons_same] at ht
        have hn : ownL l a.tx = [] := by
          unfold ownL
          rw [List.filter_eq_nil_iff]
          intro x hx
          simpa using h2 x hx
        rw [hn, List.nil_append] at ht ⊢
        injection ht
      · rwa [ownL_cons_other e, ownL_cons_other e] at ht
    simp at this ⊢
    omega

theorem alike_sw : ∀ (h g : List HOp), (∀ t : Int, ownL h t = ownL g t) → keepsOdds h g → Sw h g
  | [], g, hs, _ => by
    have := own_len_eq hs
    obtain rfl : g = [] := List.eq_nil_of_length_eq_zero this.symm
    exact .refl _
  | a :: h, g, hs, hk => by
    have h1 := hs a.tx
    rw [ownL_cons_same] at h1
    obtain ⟨l, r, rfl, h2, h3⟩ := first_in h1.symm
    have hn : ownL l a.tx = [] := by
      unfold ownL
      rw [List.filter_eq_nil_iff]
      intro x hx
      simpa using h2 x hx
    have hs' : ∀ t : Int, ownL h t = ownL (l ++ r) t := fun t => by
      have ht := hs t
      rw [ownL_append] at ht ⊢
      by_cases e : a.tx = t
      · subst e
        rw [ownL_cons_same, ownL_cons_same] at ht
        rw [hn, List.nil_append] at ht ⊢
        injection ht
      · rwa [ownL_cons_other e, ownL_cons_other e] at ht
    have hl0 : (l ++ a :: r)[l.length]? = some a := by simp
    have hfr : ∀ x ∈ l, x.tx ≠ a.tx ∧ oddB x a = false := fun x hx => by
      refine ⟨h2 x hx, ?_⟩
      cases ho : oddB x a
      · rfl
      · exfalso
        obtain ⟨j, hj⟩ := List.mem_iff_getElem?.1 hx
        have hjl := (List.getElem?_eq_some_iff.1 hj).1
        have hjg : (l ++ a :: r)[j]? = some x := by rw [List.getElem?_append_left hjl]; exact hj
        -- x in a :: h
        obtain ⟨i, hi, hc⟩ := name_in hjg ((hs x.tx).symm)
        have hi0 : 0 < i := by
          cases i with
          | zero =>
            simp at hi
            exact absurd (by rw [hi]) (h2 x hx)
          | succ i => omega
        have := hk 0 i a x hi0 rfl hi (by rw [oddB_comm]; exact ho) l.length j hl0 hjg (by
          rw [List.take_left, cntT_none h2]; rfl) hc.symm
        omega
    have hk' : keepsOdds h (l ++ r) := by
      intro i k x y hik hx hy ho i' k' hx' hy' hcx hcy
      -- places in l ++ a :: r
      have shift : ∀ (n : Nat) (z : HOp) (m : Nat), (l ++ r)[n]? = some z → h[m]? = some z → cntT ((l ++ r).take n) z.tx = cntT (h.take m) z.tx →
          (l ++ a :: r)[if n < l.length then n else n + 1]? = some z ∧ cntT ((l ++ a :: r).take (if n < l.length then n else n + 1)) z.tx = cntT ((a :: h).take (m + 1)) z.tx := by
        intro n z m hz hzm hc
        rw [List.take_succ_cons, cntT_cons]
        by_cases hn' : n < l.length
        · rw [if_pos hn']
          have hzl : l[n]? = some z := by rwa [List.getElem?_append_left hn'] at hz
          refine ⟨by rw [List.getElem?_append_left hn']; exact hzl, ?_⟩
          have hne : a.tx ≠ z.tx := fun e => h2 z (List.mem_of_getElem? hzl) e.symm
          rw [if_neg hne, ← hc, List.take_append_of_le_length (by omega), List.take_append_of_le_length (by omega), Nat.zero_add]
        · rw [if_neg hn']
          rw [List.getElem?_append_right (by omega)] at hz
          refine ⟨by rw [List.getElem?_append_right (by omega), show n + 1 - l.length = (n - l.length) + 1 by omega, List.getElem?_cons_succ]; exact hz, ?_⟩
          rw [← hc, List.take_append, List.take_append, show n + 1 - l.length = (n - l.length) + 1 by omega, List.take_succ_cons, cntT_append, cntT_append, cntT_cons, List.take_of_length_le (l := l) (i := n + 1) (by omega), List.take_of_length_le (l := l) (i := n) (by omega)]
          omega
      obtain ⟨s1, s2⟩ := shift i' x i hx' hx hcx
      obtain ⟨s3, s4⟩ := shift k' y k hy' hy hcy
      have := hk (i + 1) (k + 1) x y (by omega) (by simpa using hx) (by simpa using hy) ho _ _ s1 s3 s2 s4
      split at this <;> split at this <;> omega
    exact ((alike_sw h (l ++ r) hs' hk').cons a).trans (Sw.front hfr).symm
end Go.Proofs.YtaaahfbcpgdoiaaGreatDoor


namespace Go.Proofs.YtaaahfbcpgdoiaaGreatDoor
open Go.RowKit

/-! ### What is done, of histories that differ by such swaps. -/
theorem doneL_swap {p q : List HOp} {a b : HOp} (ht : ∀ o ∈ p ++ a :: b :: q, 1 ≤ o.tx ∧ o.tx ≤ 6) :
    doneL (p ++ b :: a :: q) = (p ++ b :: a :: q).filter fun o => (flagsF (p ++ a :: b :: q)).getD o.tx.toNat false := by
  have hm : ∀ o, o ∈ p ++ b :: a :: q ↔ o ∈ p ++ a :: b :: q := fun o => by
    simp only [List.mem_append, List.mem_cons]
    constructor
    · rintro (h | h | h | h) <;> simp [h]
    · rintro (h | h | h | h) <;> simp [h]
  unfold doneL
  refine List.filter_congr fun o ho => ?_
  rw [Bool.eq_iff_iff, flagsF_get (fun o h => ht o ((hm o).1 h)), flagsF_get ht]
  constructor
  · rintro ⟨c, h1, h2⟩; exact ⟨c, (hm c).1 h1, h2⟩
  · rintro ⟨c, h1, h2⟩; exact ⟨c, (hm c).2 h1, h2⟩
theorem Sw.done {h g : List HOp} (hs : Sw h g) : (∀ o ∈ h, 1 ≤ o.tx ∧ o.tx ≤ 6) → Sw (doneL h) (doneL g) := by
  induction hs with
  | refl => intro _; exact .refl _
  | @step p q g a b ht ho _ ih =>
    intro hp
    have hp' : ∀ o ∈ p ++ b :: a :: q, 1 ≤ o.tx ∧ o.tx ≤ 6 := fun o hm => hp o (by
      simp only [List.mem_append, List.mem_cons] at hm ⊢
      rcases hm with h | h | h | h <;> simp [h])
    refine Sw.trans ?_ (ih hp')
    rw [doneL_swap hp]
    unfold doneL
    generalize (flagsF (p ++ a :: b :: q)) = fs
    rw [List.filter_append, List.filter_append]
    generalize hf : (fun o : HOp => fs.getD o.tx.toNat false) = f
    cases ha : f a <;> cases hb : f b
    · rw [List.filter_cons_of_neg (by simp [ha]), List.filter_cons_of_neg (by simp [hb]), List.filter_cons_of_neg (by simp [hb]), List.filter_cons_of_neg (by simp [ha])]
      exact .refl _
    · rw [List.filter_cons_of_neg (by simp [ha]), List.filter_cons_of_pos (by simp [hb]), List.filter_cons_of_pos (by simp [hb]), List.filter_cons_of_neg (by simp [ha])]
      exact .refl _
    · rw [List.filter_cons_of_pos (by simp [ha]), List.filter_cons_of_neg (by simp [hb]), List.filter_cons_of_neg (by simp [hb]), List.filter_cons_of_pos (by simp [ha])]
      exact .refl _
    · rw [List.filter_cons_of_pos (by simp [ha]), List.filter_cons_of_pos (by simp [hb]), List.filter_cons_of_pos (by simp [hb]), List.filter_cons_of_pos (by simp [ha])]
      exact .one ht ho
theorem Sw.mem {h g : List HOp} (hs : Sw h g) {o : HOp} : o ∈ h ↔ o ∈ g := by
  induction hs with
  | refl => exact Iff.rfl
  | step _ _ _ ih =>
    rw [← ih]
    simp only [List.mem_append, List.mem_cons]
    constructor
    · rintro (h | h | h | h) <;> simp [h]
    · rintro (h | h | h | h) <;> simp [h]
theorem Sw.own {h g : List HOp} (hs : Sw h g) (t : Int) : ownL h t = ownL g t := by
  induction hs with
  | refl => rfl
  | @step p q g a b ht _ _ ih =>
    rw [← ih, ownL_append, ownL_append]
    congr 1
    unfold ownL
    by_cases ha : a.tx = t <;> by_cases hb : b.tx = t
    · exact absurd (ha.trans hb.symm) ht
    · rw [List.filter_cons_of_pos (by simpa using ha), List.filter_cons_of_neg (by simpa using hb), List.filter_cons_of_neg (by simpa using hb), List.filter_cons_of_pos (by simpa using ha)]
    · rw [List.filter_cons_of_neg (by simpa using ha), List.filter_cons_of_pos (by simpa using hb), List.filter_cons_of_pos (by simpa using hb), List.filter_cons_of_neg (by simpa using ha)]
    · rw [List.filter_cons_of_neg (by simpa using ha), List.filter_cons_of_neg (by simpa using hb), List.filter_cons_of_neg (by simpa using hb), List.filter_cons_of_neg (by simpa using ha)]

/-! ### Edges. -/
def edgeP : List HOp → List (Int × Int)
  | [] => []
  | a :: t => (t.filter (oddB a)).map (fun b => (a.tx, b.tx)) ++ edgeP t
def edgesF (h : List HOp) : List (Int × Int) := sortS ltE (edgeP (doneL h))
theorem mem_edgeP {h : List HOp} {x y : Int} : (x, y) ∈ edgeP h ↔ ∃ (i k : Nat) (a b : HOp), i < k ∧ h[i]? = some a ∧ h[k]? = some b ∧ oddB a b = true ∧ x = a.tx ∧ y = b.tx := by
  induction h with
  | nil => simp [edgeP]
  | cons p t ih =>
    rw [edgeP, List.mem_append, ih, List.mem_map]
    constructor
    · rintro (⟨b, hb, he⟩ | ⟨i, k, a, b, h1, h2, h3, h4⟩)
      · rw [List.mem_filter] at hb
        obtain ⟨k, hk⟩ := List.mem_iff_getElem?.1 hb.1
        injection he with e1 e2
        exact ⟨0, k + 1, p, b, by omega, rfl, by simpa using hk, hb.2, e1.symm, e2.symm⟩
      · exact ⟨i + 1, k + 1, a, b, by omega, by simpa using h2, by simpa using h3, h4⟩
    · rintro ⟨i, k, a, b, h1, h2, h3, h4, h5, h6⟩
      obtain ⟨k, rfl⟩ : ∃ k', k = k' + 1 := ⟨k - 1, by omega⟩
      rw [List.getElem?_cons_succ] at h3
      cases i with
      | zero =>
        simp only [List.getElem?_cons_zero, Option.some.injEq] at h2
        subst h2
        exact .inl ⟨b, List.mem_filter.2 ⟨List.mem_of_getElem? h3, h4⟩, by rw [h5, h6]⟩
      | succ i =>
        rw [List.getElem?_cons_succ] at h2
        exact .inr ⟨i, k, a, b, by omega, h2, h3, h4, h5, h6⟩
theorem sortS_ext {α : Type} [DecidableEq α] {lt : α → α → Bool} (S : SLO lt) {l m : List α} (h : ∀ x, x ∈ l ↔ x ∈ m) : sortS lt l = sortS lt m :=
  up_ext S (up_sortS S l) (up_sortS S m) fun x => by rw [mem_sortS, mem_sortS, h]
theorem edgeP_swap {q : List HOp} {a b : HOp} (ho : oddB a b = false) : ∀ (p : List HOp) (x : Int × Int), x ∈ edgeP (p ++ a :: b :: q) ↔ x ∈ edgeP (p ++ b :: a :: q)
  | [], x => by
    have ho2 : oddB b a = false := by rw [oddB_comm]; exact ho
    simp only [List.nil_append, edgeP, List.mem_append]
    rw [List.filter_cons_of_neg (by simp [ho]), List.filter_cons_of_neg (by simp [ho2])]
    constructor
    · rintro (h | h | h) <;> simp [h]
    · rintro (h | h | h) <;> simp [h]
  | c :: p, x => by
    rw [List.cons_append, List.cons_append, edgeP, edgeP, List.mem_append, List.mem_append, edgeP_swap ho p x]
    have : ∀ z, z ∈ List.filter (oddB c) (p ++ a :: b :: q) ↔ z ∈ List.filter (oddB c) (p ++ b :: a :: q) := fun z => by
      rw [List.mem_filter, List.mem_filter]
      simp only [List.mem_append, List.mem_cons]
      constructor
      · rintro ⟨h | h | h | h, h2⟩ <;> refine ⟨?_, h2⟩ <;> simp [h]
      · rintro ⟨h | h | h | h, h2⟩ <;> refine ⟨?_, h2⟩ <;> simp [h]
    simp only [List.mem_map, this]
theorem edgesF_sw {h g : List HOp} (hs : Sw h g) (ht : ∀ o ∈ h, 1 ≤ o.tx ∧ o.tx ≤ 6) : edgesF h = edgesF g := by
  unfold edgesF
  exact Sw.inv (P := fun _ => True) (fun l => sortS ltE (edgeP l)) (fun p q a b _ ho _ => sortS_ext sloE fun x => edgeP_swap ho p x) (hs.done ht) fun _ _ => trivial

/-! ### What a history comes to. -/
def stepV (s : List Int × List (Int × Int)) (o : HOp) : List Int × List (Int × Int) :=
  if o.what = 1 then (s.1, s.2.set o.tx.toNat ((s.2.getD o.tx.toNat (0, 0)).1 + 1, (s.2.getD o.tx.toNat (0, 0)).2 + s.1.getD (o.item.toNat - 1) 0))
  else if o.what = 2 then (s.1.set (o.item.toNat - 1) ((7 * o.tx + ((s.2.getD o.tx.toNat (0, 0)).1 + 1) + (s.2.getD o.tx.toNat (0, 0)).2) % 1000003), s.2.set o.tx.toNat ((s.2.getD o.tx.toNat (0, 0)).1 + 1, (s.2.getD o.tx.toNat (0, 0)).2))
  else (s.1, s.2.set o.tx.toNat ((s.2.getD o.tx.toNat (0, 0)).1 + 1, (s.2.getD o.tx.toNat (0, 0)).2))
theorem playGo_fold : ∀ (h : List HOp) (vs seen : List Int) (ds : List (Int × Int)), (playGo vs seen ds h).1 = (h.foldl stepV (vs, ds)).1
  | [], _, _, _ => rfl
  | o :: t, vs, seen, ds => by
    rw [playGo, List.foldl_cons]
    unfold stepV
    split
    · exact playGo_fold t _ _ _
    · split
      · exact playGo_fold t _ _ _
      · exact playGo_fold t _ _ _
theorem getDl_set_ne {α : Type} (l : List α) {i j : Nat} (h : i ≠ j) (x d : α) : (l.set i x).getD j d = l.getD j d := by
  rw [List.getD_eq_getElem?_getD, List.getElem?_set_ne h, ← List.getD_eq_getElem?_getD]
theorem stepV_comm {a b : HOp} (ht : a.tx ≠ b.tx) (ho : oddB a b = false) (ha : rightB a = true) (hb : rightB b = true) (s : List Int × List (Int × Int)) : stepV (stepV s a) b = stepV (stepV s b) a := by
  obtain ⟨a1, a2, _, _, a5, _⟩ := rightB_get ha
  obtain ⟨b1, b2, _, _, b5, _⟩ := rightB_get hb
  have hn : a.tx.toNat ≠ b.tx.toNat := by omega
  have hn' : b.tx.toNat ≠ a.tx.toNat := fun e => hn e.symm
  have hitem : a.what < 3 → b.what < 3 → (a.what = 2 ∨ b.what = 2) → a.item.toNat - 1 ≠ b.item.toNat - 1 := by
    intro h1 h2 h3 he
    have ia := a5 h1
    have ib := b5 h2
    have : oddB a b = true := by
      unfold oddB
      rw [decide_eq_true_iff]
      exact ⟨ht, by omega, by omega, h3⟩
    rw [ho] at this
    cases this
  obtain ⟨vs, ds⟩ := s
  by_cases pa1 : a.what = 1
  · by_cases pb1 : b.what = 1
    · simp only [stepV, pa1, pb1, if_true, getDl_set_ne _ hn, getDl_set_ne _ hn']
      rw [List.set_comm _ _ hn]
    · by_cases pb2 : b.what = 2
      · have hi := hitem (by omega) (by omega) (.inr pb2)
        simp only [stepV, pa1, pb2, if_true, getDl_set_ne _ hn]
        simp only [show ((2 : Int) = 1) = False by simp, if_false, getDl_set_ne _ hn', getDl_set_ne _ (fun e => hi e.symm)]
        rw [List.set_comm _ _ hn]
      · simp only [stepV, pa1, pb1, pb2, if_true, if_false, getDl_set_ne _ hn, getDl_set_ne _ hn']
        rw [List.set_comm _ _ hn]
  · by_cases pa2 : a.what = 2
    · by_cases pb1 : b.what = 1
      · have hi := hitem (by omega) (by omega) (.inl pa2)
        simp only [stepV, pa2, pb1, if_true]
        simp only [show ((2 : Int) = 1) = False by simp, if_false, getDl_set_ne _ hn, getDl_set_ne _ hn', getDl_set_ne _ hi]
        rw [List.set_comm _ _ hn]
      · by_cases pb2 : b.what = 2
        · have hi := hitem (by omega) (by omega) (.inl pa2)
          simp only [stepV, pa2, pb2, if_true]
          simp only [show ((2 : Int) = 1) = False by simp, if_false, getDl_set_ne _ hn, getDl_set_ne _ hn']
          rw [List.set_comm _ _ hn, List.set_comm _ _ hi]
        · simp only [stepV, pa2, pb1, pb2, if_true]
          simp only [show ((2 : Int) = 1) = False by simp, if_false, getDl_set_ne _ hn, getDl_set_ne _ hn']
          rw [List.set_comm _ _ hn]
    · by_cases pb1 : b.what = 1
      · simp only [stepV, pa1, pa2, pb1, if_true, if_false, getDl_set_ne _ hn, getDl_set_ne _ hn']
        rw [List.set_comm _ _ hn]
      · by_cases pb2 : b.what = 2
        · simp only [stepV, pa1, pa2, pb2, if_true, if_false]
          simp only [show ((2 : Int) = 1) = False by simp, if_false, getDl_set_ne _ hn, getDl_set_ne _ hn']
          rw [List.set_comm _ _ hn]
        · simp only [stepV, pa1, pa2, pb1, pb2, if_false, getDl_set_ne _ hn, getDl_set_ne _ hn']
          rw [List.set_comm _ _ hn]
theorem playF_sw {h g : List HOp} (hs : Sw h g) (hr : ∀ o ∈ h, rightB o = true) : (playF h).1 = (playF g).1 := by
  have ht : ∀ o ∈ h, 1 ≤ o.tx ∧ o.tx ≤ 6 := fun o ho => by
    obtain ⟨h1, h2, _⟩ := rightB_get (hr o ho)
    exact ⟨h1, h2⟩
  unfold playF
  rw [playGo_fold, playGo_fold]
  refine Sw.inv (P := fun o => rightB o = true) (fun l => (l.foldl stepV (List.replicate 6 0, List.replicate 7 (0, 0))).1) (fun p q a b hab ho hP => ?_) (hs.done ht) fun o ho => hr o ((mem_doneL ht).1 ho).1
  simp only [List.foldl_append, List.foldl_cons]
  rw [stepV_comm hab ho (hP a (by simp)) (hP b (by simp))]

/-! ### Two that changed places. -/
theorem swap_lists {h : List HOp} {i : Nat} {a b : HOp} (ha : h[i]? = some a) (hb : h[i + 1]? = some b) : h = h.take i ++ a :: b :: h.drop (i + 2) ∧ (h.set i b).set (i + 1) a = h.take i ++ b :: a :: h.drop (i + 2) := by
  obtain ⟨hl, _⟩ := List.getElem?_eq_some_iff.1 hb
  have e : h = h.take i ++ a :: b :: h.drop (i + 2) := by
    rw [← drop_at hb, ← drop_at ha, List.take_append_drop]
  refine ⟨e, ?_⟩
  have hlen : (h.take i).length = i := by rw [List.length_take]; omega
  have h1 : h.set i b = h.take i ++ b :: b :: h.drop (i + 2) := by
    conv => lhs; rw [e]
    rw [List.set_append_right _ _ (by omega), hlen, Nat.sub_self]; rfl
  rw [h1, List.set_append_right _ _ (by omega), hlen, show i + 1 - i = 1 by omega]; rfl
theorem keeps_one {p q : List HOp} {a b : HOp} (ht : a.tx ≠ b.tx) (ho : oddB a b = false) : keepsOdds (p ++ a :: b :: q) (p ++ b :: a :: q) := by
  have key : ∀ (i : Nat) (x : HOp), (p ++ a :: b :: q)[i]? = some x → ∀ i' : Nat, (p ++ b :: a :: q)[i']? = some x → cntT ((p ++ b :: a :: q).take i') x.tx = cntT ((p ++ a :: b :: q).take i) x.tx →
      i' = (if i = p.length then p.length + 1 else if i = p.length + 1 then p.length else i) ∧ (i = p.length → x = a) ∧ (i = p.length + 1 → x = b) := by
    intro i x hx i' hx' hc
    rcases Nat.lt_trichotomy i p.length with h | h | h
    · rw [if_neg (by omega), if_neg (by omega)]
      refine ⟨?_, by omega, by omega⟩
      have hz : (p ++ b :: a :: q)[i]? = some x := by
        rw [List.getElem?_append_left h] at hx ⊢; exact hx
      refine name_inj hx' hz rfl ?_
      rw [hc, List.take_append_of_le_length (by omega), List.take_append_of_le_length (by omega)]
    · subst h
      rw [if_pos rfl]
      have hxa : x = a := by simpa using hx.symm
      subst hxa
      refine ⟨?_, fun _ => rfl, by omega⟩
      have hz : (p ++ b :: x :: q)[p.length + 1]? = some x := by
        rw [List.getElem?_append_right (by omega), show p.length + 1 - p.length = 1 by omega]; rfl
      refine name_inj hx' hz rfl ?_
      rw [hc, List.take_left, show p ++ b :: x :: q = (p ++ [b]) ++ x :: q by simp, List.take_left' (by simp), cntT_append]
      have : cntT [b] x.tx = 0 := cntT_none (by simpa using fun e => ht e.symm)
      omega
    · by_cases h2 : i = p.length + 1
      · subst h2
        rw [if_neg (by omega), if_pos rfl]
        have hxb : x = b := by
          rw [List.getElem?_append_right (by omega), show p.length + 1 - p.length = 1 by omega] at hx
          simpa using hx.symm
        subst hxb
        refine ⟨?_, by omega, fun _ => rfl⟩
        have hz : (p ++ x :: a :: q)[p.length]? = some x := by simp
        refine name_inj hx' hz rfl ?_
        rw [hc, List.take_left, show p ++ a :: x :: q = (p ++ [a]) ++ x :: q by simp, List.take_left' (by simp), cntT_append]
        have : cntT [a] x.tx = 0 := cntT_none (by simpa using ht)
        omega
      · rw [if_neg (by omega), if_neg h2]
        refine ⟨?_, by omega, by omega⟩
        obtain ⟨j, rfl⟩ : ∃ j, i = p.length + 2 + j := ⟨i - p.length - 2, by omega⟩
        have hz : (p ++ b :: a :: q)[p.length + 2 + j]? = some x := by
          rw [List.getElem?_append_right (by omega), show p.length + 2 + j - p.length = j + 1 + 1 by omega] at hx ⊢
          simpa using hx
        refine name_inj hx' hz rfl ?_
        rw [hc, show p ++ b :: a :: q = (p ++ [b, a]) ++ q by simp, show p ++ a :: b :: q = (p ++ [a, b]) ++ q by simp, List.take_append (l₁ := p ++ [a, b]), List.take_append (l₁ := p ++ [b, a]), cntT_append, cntT_append, List.take_of_length_le (l := p ++ [a, b]) (by simp), List.take_of_length_le (l := p ++ [b, a]) (by simp), cntT_append, cntT_append, cntT_cons, cntT_cons, cntT_cons, cntT_cons]
        simp
        omega
  intro i k x y hik hx hy hxy i' k' hx' hy' hcx hcy
  obtain ⟨e1, f1, f2⟩ := key i x hx i' hx' hcx
  obtain ⟨e2, f3, f4⟩ := key k y hy k' hy' hcy
  by_cases hi : i = p.length
  · by_cases hk : k = p.length + 1
    · rw [f1 hi, f4 hk, ho] at hxy; cases hxy
    · rw [if_pos hi] at e1
      rw [if_neg (by omega), if_neg hk] at e2
      omega
  · rw [if_neg hi] at e1
    by_cases hi2 : i = p.length + 1
    · rw [if_pos hi2] at e1
      rw [if_neg (by omega), if_neg (by omega)] at e2
      omega
    · rw [if_neg hi2] at e1
      split at e2
      · omega
      · split at e2 <;> omega
theorem keeps_sw {h g : List HOp} (hs : Sw h g) : keepsOdds h g := by
  induction hs with
  | refl h =>
    intro i k a b hik ha hb _ i' k' ha' hb' hca hcb
    have := name_inj ha' ha rfl hca
    have := name_inj hb' hb rfl hcb
    omega
  | @step p q g a b ht ho hs ih =>
    intro i k x y hik hx hy hxy i' k' hx' hy' hcx hcy
    have hown : ∀ t, ownL (p ++ a :: b :: q) t = ownL (p ++ b :: a :: q) t := (Sw.one ht ho).own
    obtain ⟨j, h1, h2⟩ := name_in hx (hown x.tx)
    obtain ⟨l, h3, h4⟩ := name_in hy (hown y.tx)
    have hjl := keeps_one (p := p) (q := q) ht ho i k x y hik hx hy hxy j l h1 h3 h2 h4
    exact ih j l x y hjl h1 h3 hxy i' k' hx' hy' (by rw [h2, hcx]) (by rw [h4, hcy])
theorem alike_iff_sw {h g : List HOp} (ht : ∀ o ∈ h, 1 ≤ o.tx ∧ o.tx ≤ 6) (hg : ∀ o ∈ g, 1 ≤ o.tx ∧ o.tx ≤ 6) : alikeB h g = true ↔ Sw h g := by
  rw [alikeB_iff ht]
  constructor
  · rintro ⟨h1, h2⟩
    refine alike_sw h g (fun t => ?_) h2
    by_cases hb : 1 ≤ t ∧ t ≤ 6
    · exact sameOwnB_iff.1 h1 t hb.1 hb.2
    · have e : ∀ l : List HOp, (∀ o ∈ l, 1 ≤ o.tx ∧ o.tx ≤ 6) → ownL l t = [] := fun l hl => by
        unfold ownL
        rw [List.filter_eq_nil_iff]
        intro x hx
        have := hl x hx
        simp
        omega
      rw [e h ht, e g hg]
  · intro hs
    exact ⟨sameOwnB_iff.2 fun t _ _ => hs.own t, keeps_sw hs⟩
theorem Sw.len {h g : List HOp} (hs : Sw h g) : h.length = g.length := by
  induction hs with
  | refl => rfl
  | step _ _ _ ih => rw [← ih]; simp

/-! ### What is right, deal by deal. -/
def goodOwn : List HOp → Prop
  | [] => True
  | o :: l => (endsB o = true → l = []) ∧ goodOwn l
theorem checkGo_iff : ∀ {h : List HOp} {es : List Bool} {i : Nat}, es.length = 7 → (checkGo es i h = (0, 0) ↔ (∀ o ∈ h, rightB o = true) ∧ ∀ t : Int, 1 ≤ t → t ≤ 6 → (es.getD t.toNat false = true → ownL h t = []) ∧ goodOwn (ownL h t))
  | [], es, i, hes => by
    rw [checkGo]
    refine ⟨fun _ => ⟨by simp, fun t _ _ => ⟨fun _ => rfl, trivial⟩⟩, fun _ => rfl⟩
  | o :: h, es, i, hes => by
    rw [checkGo]
    cases hr : rightB o
    · simp [hr]
    · obtain ⟨r1, r2, _⟩ := rightB_get hr
      rw [if_neg (by simp)]
      cases he : es.getD o.tx.toNat false
      · rw [if_neg (by simp), checkGo_iff (h := h) (by simpa using hes)]
        constructor
        · rintro ⟨h1, h2⟩
          refine ⟨fun x hx => ?_, fun t ht1 ht2 => ?_⟩
          · rcases List.mem_cons.1 hx with e | e
            · rw [e]; exact hr
            · exact h1 x e
          · obtain ⟨g1, g2⟩ := h2 t ht1 ht2
            by_cases ht : o.tx = t
            · subst ht
              rw [ownL_cons_same]
              refine ⟨(fun h => by rw [he] at h; cases h), fun hend => g1 ?_, g2⟩
              rw [List.getD_eq_getElem?_getD, List.getElem?_set_self (by omega)]
              exact hend
            · rw [ownL_cons_other ht]
              refine ⟨fun h => g1 ?_, g2⟩
              rw [getDl_set_ne _ (by omega)]
              exact h
        · rintro ⟨h1, h2⟩
          refine ⟨fun x hx => h1 x (List.mem_cons_of_mem _ hx), fun t ht1 ht2 => ?_⟩
          obtain ⟨g1, g2⟩ := h2 t ht1 ht2
          by_cases ht : o.tx = t
          · subst ht
            rw [ownL_cons_same] at g2
            refine ⟨fun h => g2.1 ?_, g2.2⟩
            rw [List.getD_eq_getElem?_getD, List.getElem?_set_self (by omega)] at h
            exact h
          · rw [ownL_cons_other ht] at g1 g2
            refine ⟨fun h => g1 ?_, g2⟩
            rw [getDl_set_ne _ (by omega)] at h
            exact h
      · rw [if_pos rfl]
        refine ⟨(fun h => by cases h), fun ⟨_, h2⟩ => ?_⟩
        have := (h2 o.tx r1 r2).1 he
        rw [ownL_cons_same] at this
        cases this
theorem okH_iff {h : List HOp} : okH h ↔ h.length ≤ 40 ∧ (∀ o ∈ h, rightB o = true) ∧ ∀ t : Int, 1 ≤ t → t ≤ 6 → goodOwn (ownL h t) := by
  constructor
  · intro hk
    have := (checkGo_iff (by simp)).1 (okH_go hk)
    exact ⟨okH_len hk, this.1, fun t h1 h2 => (this.2 t h1 h2).2⟩
  · rintro ⟨h1, h2, h3⟩
    unfold okH checkF
    rw [if_neg (by omega), (checkGo_iff (by simp)).2 ⟨h2, fun t t1 t2 => ⟨fun h => by
      simp only [List.getD_eq_getElem?_getD, List.getElem?_replicate] at h
      split at h <;> simp at h, h3 t t1 t2⟩⟩]
theorem okH_sw {h g : List HOp} (hs : Sw h g) (hk : okH h) : okH g := by
  obtain ⟨h1, h2, h3⟩ := okH_iff.1 hk
  exact okH_iff.2 ⟨by rw [← hs.len]; exact h1, fun o ho => h2 o (hs.mem.2 ho), fun t t1 t2 => by rw [← hs.own]; exact h3 t t1 t2⟩
end Go.Proofs.YtaaahfbcpgdoiaaGreatDoor

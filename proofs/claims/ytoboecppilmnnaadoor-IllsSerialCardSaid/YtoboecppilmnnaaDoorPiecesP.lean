
/-
  PLAIN FACTS on deals one behind the other: they are a history that is right; at each op all other deals have ended.
-/
import Derived.Test.YtoboecppilmnnaaDoorPieces
import Derived.Test.YtoboecppilmnnaaDoorRefP
import Derived.Test.YtoboecppilmnnaaDoorRef
namespace Go.Proofs.YtoboecppilmnnaaDoor
open Go.RowKit

structure OrdOk (order : List Int) : Prop where
  nd : order.Nodup
  rg : ∀ t ∈ order, 1 ≤ t ∧ t ≤ 6
theorem nodup_le : ∀ {l s : List Int}, l.Nodup → (∀ x ∈ l, x ∈ s) → l.length ≤ s.length
  | [], _, _, _ => Nat.zero_le _
  | a :: t, s, hn, hs => by
    rw [List.nodup_cons] at hn
    have ha := hs a (by simp)
    have := nodup_le (l := t) (s := s.erase a) hn.2 fun x hx => (List.mem_erase_of_ne (fun e => hn.1 (by rw [← e]; exact hx))).2 (hs x (by simp [hx]))
    rw [List.length_erase_of_mem ha] at this
    have h0 : 0 < s.length := List.length_pos_of_mem ha
    simp only [List.length_cons]; omega
theorem OrdOk.len {order : List Int} (h : OrdOk order) : order.length ≤ 6 := nodup_le (s := [1, 2, 3, 4, 5, 6]) h.nd fun x hx => by
  have := h.rg x hx
  simp only [List.mem_cons, List.not_mem_nil, or_false]; omega
theorem orderGo_ok : ∀ {l order : List Int}, OrdOk order → OrdOk (orderGo order l)
  | [], _, h => h
  | x :: r, order, h => by
    unfold orderGo
    split
    · rename_i hx
      refine orderGo_ok ⟨?_, fun t ht => ?_⟩
      · rw [List.nodup_append]
        refine ⟨h.nd, by simp, fun a ha b hb => ?_⟩
        rw [List.mem_singleton] at hb
        rintro rfl
        exact hx.2 (hb ▸ ha)
      · rcases List.mem_append.1 ht with h1 | h1
        · exact h.rg t h1
        · rw [List.mem_singleton] at h1
          have := hx.1
          rw [h1]; simpa [txB] using this
    · exact orderGo_ok h
theorem order_ok (l : List Int) : OrdOk (orderF l) := orderGo_ok ⟨List.nodup_nil, by simp⟩
theorem OrdOk.pre {p q : List Int} (h : OrdOk (p ++ q)) : OrdOk p := ⟨(List.nodup_append.1 h.nd).1, fun t ht => h.rg t (by simp [ht])⟩

theorem piecesH_cons (a b : Int) (t : Int) (q : List Int) : piecesH a b (t :: q) = ([⟨t, 1, a⟩, ⟨t, 2, b⟩, ⟨t, 3, 0⟩] : List HOp) ++ piecesH a b q := by simp [piecesH]
theorem piecesH_len (a b : Int) (q : List Int) : (piecesH a b q).length = q.length * 3 := by
  induction q with
  | nil => rfl
  | cons t q ih => rw [piecesH_cons, List.length_append, ih]; simp; omega
theorem piecesH_mem {a b : Int} {q : List Int} {o : HOp} (h : o ∈ piecesH a b q) : o.tx ∈ q ∧ (o = ⟨o.tx, 1, a⟩ ∨ o = ⟨o.tx, 2, b⟩ ∨ o = ⟨o.tx, 3, 0⟩) := by
  unfold piecesH at h
  obtain ⟨t, ht, ho⟩ := List.mem_flatMap.1 h
  simp only [List.mem_cons, List.not_mem_nil, or_false] at ho
  rcases ho with rfl | rfl | rfl <;> simp [ht]
theorem piecesH_end (a b : Int) (q : List Int) (t : Int) : endIn t (piecesH a b q) = decide (t ∈ q) := by
  induction q with
  | nil => rfl
  | cons x q ih =>
    have e : endIn t (piecesH a b (x :: q)) = (decide (x = t) || endIn t (piecesH a b q)) := by
      rw [piecesH_cons]; simp [endIn]
    rw [e, ih]
    by_cases h : x = t
    · simp [h]
    · have h' : ¬ t = x := fun e => h e.symm
      simp [h, h']
theorem okH_snoc {h : List HOp} (hk : okH h) (h39 : h.length ≤ 39) {o : HOp} (hr : rightB o = true) (hn : endIn o.tx h = false) : okH (h ++ [o]) := by
  show (checkF _).2 = 0
  rw [checkF_snoc hk h39, hr, hn]; rfl
theorem piecesH_ok {a b : Int} (ha : 1 ≤ a ∧ a ≤ 6) (hb : 1 ≤ b ∧ b ≤ 6) : ∀ (q p : List Int), OrdOk (p ++ q) → okH (piecesH a b p) → okH (piecesH a b (p ++ q))
  | [], p, _, h => by rw [List.append_nil]; exact h
  | t :: q, p, ho, h => by
    have e : p ++ t :: q = (p ++ [t]) ++ q := by simp
    have hpt : OrdOk (p ++ [t]) := by rw [e] at ho; exact ho.pre
    have hl := hpt.len
    rw [List.length_append, List.length_singleton] at hl
    have htr := hpt.rg t (by simp)
    have hnt : t ∉ p := fun hm => (List.nodup_append.1 hpt.nd).2.2 t hm t (by simp) rfl
    have hlen := piecesH_len a b p
    have hend := piecesH_end a b p t
    rw [decide_eq_false hnt] at hend
    have k1 := okH_snoc h (by omega) (o := ⟨t, 1, a⟩) (rightB_mk ⟨htr.1, htr.2, by simp, by simp, fun _ => ha, by simp⟩) hend
    have n1 : endIn t (piecesH a b p ++ [⟨t, 1, a⟩]) = false := by rw [endIn_snoc, hend]; simp
    have k2 := okH_snoc k1 (by simp; omega) (o := ⟨t, 2, b⟩) (rightB_mk ⟨htr.1, htr.2, by simp, by simp, fun _ => hb, by simp⟩) n1
    have n2 : endIn t (piecesH a b p ++ [⟨t, 1, a⟩] ++ [⟨t, 2, b⟩]) = false := by rw [endIn_snoc, n1]; simp
    have k3 := okH_snoc k2 (by simp; omega) (o := ⟨t, 3, 0⟩) (rightB_mk ⟨htr.1, htr.2, by simp, by simp, by simp, by simp⟩) n2
    have e3 : piecesH a b p ++ [⟨t, 1, a⟩] ++ [⟨t, 2, b⟩] ++ [⟨t, 3, 0⟩] = piecesH a b (p ++ [t]) := by rw [piecesH_snoc]; simp
    rw [e3] at k3
    rw [e]
    exact piecesH_ok ha hb q (p ++ [t]) (by rw [← e]; exact ho) k3
theorem pieces_ok {a b : Int} (ha : 1 ≤ a ∧ a ≤ 6) (hb : 1 ≤ b ∧ b ≤ 6) {q : List Int} (h : OrdOk q) : okH (piecesH a b q) := by
  have := piecesH_ok ha hb q [] h rfl
  exact this

/-- Where an op of such a history stands. -/
theorem piecesH_at {a b : Int} : ∀ {q : List Int} {i : Nat} {x : HOp}, (piecesH a b q)[i]? = some x → ∃ (p : List Int) (t : Int) (r : List Int) (j : Nat), q = p ++ t :: r ∧ j < 3 ∧ i = p.length * 3 + j ∧ x.tx = t ∧
    (piecesH a b q).take i = piecesH a b p ++ ([⟨t, 1, a⟩, ⟨t, 2, b⟩, ⟨t, 3, 0⟩] : List HOp).take j ∧ ([⟨t, 1, a⟩, ⟨t, 2, b⟩, ⟨t, 3, 0⟩] : List HOp)[j]? = some x
  | [], i, x, h => by simp [piecesH] at h
  | t :: q, i, x, h => by
    rw [piecesH_cons] at h ⊢
    rcases Nat.lt_or_ge i 3 with hi | hi
    · rw [List.getElem?_append_left (by simpa using hi)] at h
      refine ⟨[], t, q, i, rfl, hi, by simp, ?_, ?_, h⟩
      · have h3 : i = 0 ∨ i = 1 ∨ i = 2 := by omega
        rcases h3 with rfl | rfl | rfl <;> simp at h <;> rw [← h]
      · rw [List.take_append_of_le_length (by simp; omega)]; rfl
    · rw [List.getElem?_append_right (by simpa using hi)] at h
      obtain ⟨p, t', r, j, h1, h2, h3, h4, h5, h6⟩ := piecesH_at h
      simp only [List.length_cons, List.length_nil] at h3 h5
      refine ⟨t :: p, t', r, j, by rw [h1]; rfl, h2, by simp only [List.length_cons]; omega, h4, ?_, h6⟩
      rw [piecesH_cons, List.take_append, List.take_of_length_le (by simp; omega)]
      simp only [List.length_cons, List.length_nil]
      rw [h5, List.append_assoc]
/-- At each op all other deals ahead have ended. -/
theorem pieces_ended {a b : Int} {q : List Int} {i : Nat} {x : HOp} (hx : (piecesH a b q)[i]? = some x) : ∀ o ∈ (piecesH a b q).take i, o.tx ≠ x.tx → endIn o.tx ((piecesH a b q).take i) = true := by
  obtain ⟨p, t, r, j, h1, h2, h3, h4, h5, h6⟩ := piecesH_at hx
  intro o ho hne
  rw [h5] at ho ⊢
  rcases List.mem_append.1 ho with h7 | h7
  · have h8 := (piecesH_mem h7).1
    have h9 : endIn o.tx (piecesH a b p) = true := by rw [piecesH_end, decide_eq_true h8]
    unfold endIn at h9 ⊢
    rw [List.any_append, h9]; rfl
  · have h8 := List.mem_of_mem_take h7
    simp only [List.mem_cons, List.not_mem_nil, or_false] at h8
    exact absurd (by rcases h8 with rfl | rfl | rfl <;> exact h4.symm) hne
end Go.Proofs.YtoboecppilmnnaaDoor


/-
  PLAIN FACTS: a lost write as the reference asks for it (three ops), and as the program does.
-/
import Derived.Test.YtoboecppilmnnaaDoorIllsP
namespace Go.Proofs.YtoboecppilmnnaaDoor
open Go.RowKit

theorem commits_end {h : List HOp} (hk : okH h) (tx : Int) : commits h tx = decide (endGo tx h = 3) := by
  unfold commits
  rw [← when_eq hk tx, idxGo_any, Bool.eq_iff_iff, List.any_eq_true, decide_eq_true_iff]
  constructor
  · rintro ⟨o, ho, h1⟩
    unfold whenT at h1
    simp only [decide_eq_true_eq] at h1
    have := endGo_is hk ho (by omega)
    rw [h1.1, h1.2] at this
    exact this
  · intro h1
    obtain ⟨o, h2, h3, h4, h5⟩ := endGo_mem (endGo_in.1 (by rw [h1]; decide) : endIn tx h = true)
    exact ⟨o, h2, by unfold whenT; simp only [decide_eq_true_eq]; exact ⟨h3, by omega⟩⟩

def ownW (a c : HOp) : Bool := decide (c.tx = a.tx ∧ c.what = 2 ∧ c.item = a.item)
theorem lostTail_true (a : HOp) (t : List HOp) : lostTail a true t = t.any (ownW a) := by
  induction t with
  | nil => rfl
  | cons b t ih =>
    rw [lostTail, List.any_cons, Bool.true_or, Bool.true_and, ih]
    unfold ownW
    by_cases h : b.tx = a.tx ∧ b.what = 2 ∧ b.item = a.item
    · simp [h]
    · rw [if_neg (by rw [decide_eq_true_iff]; exact h), decide_eq_false h]; rfl
def lostC (h : List HOp) (a b c : HOp) : Bool := decide (a.what = 1 ∧ b.what = 2 ∧ c.what = 2 ∧ a.tx = c.tx ∧ a.tx ≠ b.tx ∧ a.item = b.item ∧ a.item = c.item ∧ endGo a.tx h = 3)
def lostB (h : List HOp) (a : HOp) : List HOp → Bool
  | [] => false
  | b :: t => t.any (lostC h a b) || lostB h a t
def lostA (h : List HOp) : List HOp → Bool
  | [] => false
  | a :: t => lostB h a t || lostA h t
theorem lostB_own {h : List HOp} {a : HOp} : ∀ {t : List HOp}, lostB h a t = true → t.any (ownW a) = true ∧ a.what = 1 ∧ endGo a.tx h = 3
  | [], hb => by cases hb
  | b :: t, hb => by
    rw [lostB, Bool.or_eq_true] at hb
    rcases hb with hb | hb
    · obtain ⟨c, hc, h1⟩ := List.any_eq_true.1 hb
      unfold lostC at h1
      simp only [decide_eq_true_eq] at h1
      obtain ⟨g1, g2, g3, g4, g5, g6, g7, g8⟩ := h1
      exact ⟨List.any_eq_true.2 ⟨c, by simp [hc], by unfold ownW; simp only [decide_eq_true_eq]; exact ⟨g4.symm, g3, g7.symm⟩⟩, g1, g8⟩
    · obtain ⟨h1, h2⟩ := lostB_own hb
      exact ⟨by rw [List.any_cons, h1, Bool.or_true], h2⟩
theorem lostB_tail {h : List HOp} {a : HOp} (h1 : a.what = 1) (h0 : a.item ≠ 0) (h3 : endGo a.tx h = 3) : ∀ t : List HOp, lostB h a t = lostTail a false t
  | [] => rfl
  | b :: t => by
    rw [lostB, lostTail, Bool.false_or, lostB_tail h1 h0 h3 t]
    by_cases hq : oddB a b = true
    · have hq' := hq
      unfold oddB at hq'
      simp only [decide_eq_true_eq] at hq'
      obtain ⟨q1, q2, q3, q4⟩ := hq'
      have hn : ¬ (b.tx = a.tx ∧ b.what = 2 ∧ b.item = a.item) := fun e => q1 e.1.symm
      rw [hq, decide_eq_false hn, Bool.and_false, if_neg (by simp), lostTail_true, ← lostB_tail h1 h0 h3 t]
      have e : ∀ c, lostC h a b c = ownW a c := fun c => by
        unfold lostC ownW
        rw [Bool.eq_iff_iff, decide_eq_true_iff, decide_eq_true_iff]
        constructor
        · rintro ⟨_, _, g3, g4, _, _, g7, _⟩; exact ⟨g4.symm, g3, g7.symm⟩
        · rintro ⟨g1, g2, g3⟩; exact ⟨h1, by omega, g2, g1.symm, q1, q2, g3.symm, h3⟩
      have e2 : t.any (lostC h a b) = t.any (ownW a) := by congr 1; exact funext e
      rw [e2]
      cases ho : t.any (ownW a)
      · cases hb : lostB h a t
        · rfl
        · rw [(lostB_own hb).1] at ho; cases ho
      · rfl
    · have hq' : oddB a b = false := by simpa using hq
      rw [hq', Bool.false_and, if_neg (by simp)]
      have : t.any (lostC h a b) = false := by
        rw [List.any_eq_false]
        intro c hc
        unfold lostC
        simp only [decide_eq_true_eq]
        rintro ⟨_, g2, _, _, g5, g6, _, _⟩
        apply hq
        unfold oddB
        simp only [decide_eq_true_eq]
        exact ⟨g5, g6, h0, .inr g2⟩
      rw [this, Bool.false_or]
theorem lostA_go {h : List HOp} (hk : okH h) : ∀ l : List HOp, (∀ o ∈ l, rightB o = true) → lostA h l = lostGo h l
  | [], _ => rfl
  | a :: t, hr => by
    rw [lostA, lostGo, lostA_go hk t fun o ho => hr o (by simp [ho])]
    congr 1
    unfold lostOne
    rw [commits_end hk]
    by_cases h1 : a.what = 1
    · by_cases h3 : endGo a.tx h = 3
      · obtain ⟨_, _, _, _, w5, _⟩ := rightB_get (hr a (by simp))
        have := w5 (by omega)
        rw [lostB_tail h1 (by omega) h3, decide_eq_true h1, decide_eq_true h3]; rfl
      · rw [decide_eq_false h3, Bool.and_false, Bool.false_and]
        cases hb : lostB h a t
        · rfl
        · exact absurd (lostB_own hb).2.2 h3
    · rw [decide_eq_false h1]
      cases hb : lostB h a t
      · rfl
      · exact absurd (lostB_own hb).2.1 h1
theorem lostA_eq {h : List HOp} (hk : okH h) : lostA h h = lostF h := lostA_go hk h (okH_right hk)

/-- The first op with one: -1 if there is none. -/
def firstR (h : List HOp) (k : Nat) : Int := match firstGo illT [] 0 (h.take k) with | some i => (i : Int) | none => -1
theorem firstGo_snoc {p : List HOp → HOp → Bool} {o : HOp} : ∀ {l pre : List HOp} {i : Nat}, firstGo p pre i (l ++ [o]) = match firstGo p pre i l with | some j => some j | none => if p (pre ++ l) o then some (i + l.length) else none
  | [], pre, i => by simp [firstGo]
  | x :: t, pre, i => by
    rw [List.cons_append, firstGo, firstGo]
    by_cases hp : p pre x = true
    · rw [if_pos hp, if_pos hp]
    · rw [if_neg hp, if_neg hp, firstGo_snoc]
      have e : pre ++ [x] ++ t = pre ++ x :: t := by simp
      have e2 : i + 1 + t.length = i + (x :: t).length := by simp; omega
      rw [e, e2]
theorem firstR_zero (h : List HOp) : firstR h 0 = -1 := rfl
theorem firstR_cases (h : List HOp) (k : Nat) : firstR h k = -1 ∨ (0 ≤ firstR h k ∧ firstR h k ≤ k) := by
  unfold firstR
  cases hf : firstGo illT [] 0 (h.take k) with
  | none => exact .inl rfl
  | some i =>
    obtain ⟨j, o, h1, h2, _⟩ := firstGo_some hf
    have := (List.getElem?_eq_some_iff.1 h2).1
    rw [List.length_take] at this
    exact .inr (by simp only; omega)
theorem firstR_step {h : List HOp} {k : Nat} {o : HOp} (ho : h[k]? = some o) : firstR h (k + 1) = if firstR h k < 0 then (if illT (h.take k) o = true then (k : Int) else -1) else firstR h k := by
  unfold firstR
  have hl : (h.take k).length = k := by
    have := (List.getElem?_eq_some_iff.1 ho).1
    rw [List.length_take]; omega
  rw [take_snoc ho, firstGo_snoc]
  by_cases hp : illT (h.take k) o = true
  · rw [if_pos hp, List.nil_append, if_pos hp, hl, Nat.zero_add]
    cases hf : firstGo illT [] 0 (h.take k) with
    | some i => show (i : Int) = if (i : Int) < 0 then _ else _; rw [if_neg (by omega)]
    | none => rfl
  · rw [if_neg hp, List.nil_append, if_neg hp]
    cases hf : firstGo illT [] 0 (h.take k) with
    | some i => show (i : Int) = if (i : Int) < 0 then _ else _; rw [if_neg (by omega)]
    | none => rfl
theorem firstR_all (h : List HOp) : firstR h h.length = match firstF h with | some k => (k : Int) | none => -1 := by
  unfold firstR firstF; rw [List.take_length]
theorem lostB_step {h : List HOp} {a b : HOp} {l t : List HOp} (e : l = b :: t) : lostB h a l = (t.any (lostC h a b) || lostB h a t) := by rw [e, lostB]
theorem lostA_step {h : List HOp} {a : HOp} {l t : List HOp} (e : l = a :: t) : lostA h l = (lostB h a t || lostA h t) := by rw [e, lostA]
end Go.Proofs.YtoboecppilmnnaaDoor


/-
  PLAIN FACTS on ills: what is strict, rigorous by them; what is lost was unrepeated; the first op with one.
-/
import Derived.Test.YtoboecppilmnnaaDoorIlls
namespace Go.Proofs.YtoboecppilmnnaaDoor
open Go.RowKit

def anyL (p : List HOp → HOp → Bool) (h : List HOp) : Nat → Bool
  | 0 => false
  | k + 1 => anyL p h k || (match h[k]? with | some o => p (h.take k) o | none => false)
theorem anyL_succ {p : List HOp → HOp → Bool} {h : List HOp} {k : Nat} {o : HOp} (ho : h[k]? = some o) : anyL p h (k + 1) = (anyL p h k || p (h.take k) o) := by rw [anyL, ho]
theorem anyL_iff {p : List HOp → HOp → Bool} {h : List HOp} {k : Nat} : anyL p h k = true ↔ ∃ i o, i < k ∧ h[i]? = some o ∧ p (h.take i) o = true := by
  induction k with
  | zero => simp [anyL]
  | succ k ih =>
    rw [anyL, Bool.or_eq_true, ih]
    constructor
    · rintro (⟨i, o, h1, h2⟩ | h1)
      · exact ⟨i, o, by omega, h2⟩
      · cases ho : h[k]? with
        | none => simp [ho] at h1
        | some o => exact ⟨k, o, by omega, ho, by simpa [ho] using h1⟩
    · rintro ⟨i, o, h1, h2, h3⟩
      rcases Nat.lt_or_ge i k with hi | hi
      · exact .inl ⟨i, o, hi, h2, h3⟩
      · obtain rfl : i = k := by omega
        right; simp [h2, h3]
def illsF (h : List HOp) : FacesV := ⟨anyL dwT h h.length, anyL drT h h.length, anyL unT h h.length, lostF h⟩
def illT (pre : List HOp) (o : HOp) : Bool := dwT pre o || drT pre o || unT pre o
def firstGo (p : List HOp → HOp → Bool) (pre : List HOp) (i : Nat) : List HOp → Option Nat
  | [] => none
  | o :: t => if p pre o then some i else firstGo p (pre ++ [o]) (i + 1) t
def firstF (h : List HOp) : Option Nat := firstGo illT [] 0 h
theorem firstGo_none {p : List HOp → HOp → Bool} {l : List HOp} : ∀ {pre : List HOp} {i : Nat}, firstGo p pre i l = none → ∀ j o, l[j]? = some o → p (pre ++ l.take j) o = false := by
  induction l with
  | nil => intro pre i _ j o ho; simp at ho
  | cons x t ih =>
    intro pre i hf j o ho
    unfold firstGo at hf
    split at hf
    · cases hf
    · rename_i hx
      cases j with
      | zero =>
        obtain rfl : x = o := by simpa using ho
        simpa using hx
      | succ j =>
        have := ih hf j o (by simpa using ho)
        simpa using this
theorem firstGo_some {p : List HOp → HOp → Bool} {l : List HOp} : ∀ {pre : List HOp} {i k : Nat}, firstGo p pre i l = some k → ∃ j o, k = i + j ∧ l[j]? = some o ∧ p (pre ++ l.take j) o = true ∧ ∀ j' o', j' < j → l[j']? = some o' → p (pre ++ l.take j') o' = false := by
  induction l with
  | nil => intro pre i k hf; cases hf
  | cons x t ih =>
    intro pre i k hf
    unfold firstGo at hf
    split at hf
    · rename_i hx
      injection hf with hf
      exact ⟨0, x, by omega, rfl, by simpa using hx, by intro j' _ hj; omega⟩
    · rename_i hx
      obtain ⟨j, o, h1, h2, h3, h4⟩ := ih hf
      refine ⟨j + 1, o, by omega, by simpa using h2, by simpa using h3, fun j' o' hj ho => ?_⟩
      cases j' with
      | zero =>
        obtain rfl : x = o' := by simpa using ho
        simpa using hx
      | succ j' =>
        have := h4 j' o' (by omega) (by simpa using ho)
        simpa using this

theorem strict_dirty {o : HOp} (hr : rightB o = true) (pre : List HOp) : strictT pre o = !(dwT pre o || drT pre o) := by
  obtain ⟨_, _, w1, w2, _, _⟩ := rightB_get hr
  unfold strictT dwT drT
  have h4 : o.what = 1 ∨ o.what = 2 ∨ 3 ≤ o.what := by omega
  rcases h4 with h4 | h4 | h4
  · have : endsB o = false := by simp [endsB, h4]
    simp [this, h4]
  · have : endsB o = false := by simp [endsB, h4]
    simp [this, h4]
  · have : endsB o = true := by simp [endsB]; omega
    have a1 : ¬ o.what = 1 := by omega
    have a2 : ¬ o.what = 2 := by omega
    simp [this, a1, a2]
theorem rig_un {o : HOp} (hr : rightB o = true) (pre : List HOp) : rigT pre o = !unT pre o := by
  obtain ⟨_, _, w1, w2, _, _⟩ := rightB_get hr
  unfold rigT unT
  by_cases h4 : 3 ≤ o.what
  · have : endsB o = true := by simp [endsB]; omega
    have a2 : ¬ o.what = 2 := by omega
    simp [this, a2]
  · have : endsB o = false := by simp [endsB]; omega
    simp [this]
theorem scan_any {p q : List HOp → HOp → Bool} {h : List HOp} (hpq : ∀ o ∈ h, ∀ pre, p pre o = !q pre o) (k : Nat) : scanB p [] (h.take k) = !anyL q h k := by
  induction k with
  | zero => rfl
  | succ k ih =>
    cases ho : h[k]? with
    | none =>
      have hge : h.length ≤ k := by rw [List.getElem?_eq_none_iff] at ho; exact ho
      rw [List.take_of_length_le (by omega)]
      rw [List.take_of_length_le hge] at ih
      rw [ih, anyL, ho]; simp
    | some o => rw [take_snoc ho, scanB_snoc, ih, anyL_succ ho, hpq o (List.mem_of_getElem? ho)]; simp
theorem scan_and {p q : List HOp → HOp → Bool} (h : List HOp) : (scanB p [] h && scanB q [] h) = scanB (fun pre o => p pre o && q pre o) [] h := by
  suffices H : ∀ (l pre : List HOp), (scanB p pre l && scanB q pre l) = scanB (fun pre o => p pre o && q pre o) pre l from H h []
  intro l
  induction l with
  | nil => intro pre; rfl
  | cons o t ih =>
    intro pre
    simp only [scanB]
    rw [← ih]
    cases p pre o <;> cases q pre o <;> cases scanB p (pre ++ [o]) t <;> cases scanB q (pre ++ [o]) t <;> rfl
theorem anyL_or {p q : List HOp → HOp → Bool} {h : List HOp} (k : Nat) : anyL (fun pre o => p pre o || q pre o) h k = (anyL p h k || anyL q h k) := by
  induction k with
  | zero => rfl
  | succ k ih =>
    rw [anyL, anyL, anyL, ih]
    cases h[k]? with
    | none => simp
    | some o =>
      simp only
      cases anyL p h k <;> cases anyL q h k <;> cases p (h.take k) o <;> cases q (h.take k) o <;> rfl
theorem strict_eq {h : List HOp} (hk : okH h) (k : Nat) : scanB strictT [] (h.take k) = !(anyL dwT h k || anyL drT h k) := by
  rw [← anyL_or]
  exact scan_any (q := fun pre o => dwT pre o || drT pre o) (fun o ho pre => strict_dirty (okH_right hk o ho) pre) k
theorem rig_eq {h : List HOp} (hk : okH h) (k : Nat) : scanB rigT [] (h.take k) = !anyL unT h k := scan_any (fun o ho pre => rig_un (okH_right hk o ho) pre) k
theorem facesF_rig {h : List HOp} (hk : okH h) (k : Nat) : (facesF (h.take k)).rig = !anyL illT h k := by
  have e : anyL illT h k = (anyL dwT h k || anyL drT h k || anyL unT h k) := by
    rw [show illT = fun pre o => (fun pre o => dwT pre o || drT pre o) pre o || unT pre o from rfl, anyL_or, anyL_or]
  rw [e]
  show (scanB rigT [] (h.take k) && scanB strictT [] (h.take k)) = _
  rw [rig_eq hk, strict_eq hk]
  cases anyL dwT h k <;> cases anyL drT h k <;> cases anyL unT h k <;> rfl

theorem lostGo_some {h l : List HOp} (hl : lostGo h l = true) : ∃ p a t, l = p ++ a :: t ∧ lostOne h a t = true := by
  induction l with
  | nil => cases hl
  | cons a t ih =>
    rw [lostGo, Bool.or_eq_true] at hl
    rcases hl with h1 | h1
    · exact ⟨[], a, t, rfl, h1⟩
    · obtain ⟨p, a', t', h2, h3⟩ := ih h1
      exact ⟨a :: p, a', t', by rw [h2]; rfl, h3⟩
theorem lostTail_some {a : HOp} {t : List HOp} : ∀ {ot : Bool}, lostTail a ot t = true → ∃ p c r, t = p ++ c :: r ∧ c.tx = a.tx ∧ c.what = 2 ∧ c.item = a.item ∧ (ot = true ∨ ∃ b ∈ p, oddB a b = true) := by
  induction t with
  | nil => intro ot hl; cases hl
  | cons b t ih =>
    intro ot hl
    unfold lostTail at hl
    split at hl
    · rename_i h1
      rw [Bool.and_eq_true, decide_eq_true_iff, Bool.or_eq_true] at h1
      refine ⟨[], b, t, rfl, h1.2.1, h1.2.2.1, h1.2.2.2, .inl ?_⟩
      rcases h1.1 with h2 | h2
      · exact h2
      · unfold oddB at h2
        have := of_decide_eq_true h2
        exact absurd h1.2.1.symm this.1
    · obtain ⟨p, c, r, h2, h3, h4, h5, h6⟩ := ih hl
      refine ⟨b :: p, c, r, by rw [h2]; rfl, h3, h4, h5, ?_⟩
      rcases h6 with h6 | ⟨x, hx, h7⟩
      · rw [Bool.or_eq_true] at h6
        rcases h6 with h6 | h6
        · exact .inl h6
        · exact .inr ⟨b, by simp, h6⟩
      · exact .inr ⟨x, by simp [hx], h7⟩
theorem endIn_pre {tx : Int} {p q : List HOp} (h : endIn tx (p ++ q) = false) : endIn tx p = false := by
  unfold endIn at h ⊢
  rw [List.any_append] at h
  cases hp : p.any fun o => decide (o.tx = tx ∧ 3 ≤ o.what)
  · rfl
  · rw [hp] at h; cases h
/-- What is lost was unrepeated. -/
theorem lost_un {h : List HOp} (hk : okH h) (hl : lostF h = true) : anyL unT h h.length = true := by
  obtain ⟨p0, a, t, hh, h1⟩ := lostGo_some hl
  unfold lostOne at h1
  rw [Bool.and_eq_true, Bool.and_eq_true, decide_eq_true_iff] at h1
  obtain ⟨⟨ha1, _⟩, h2⟩ := h1
  obtain ⟨p, c, r, ht, c1, c2, c3, hb⟩ := lostTail_some h2
  rcases hb with hb | ⟨b, hb, ho⟩
  · cases hb
  obtain ⟨q1, q2, hq⟩ := List.append_of_mem hb
  unfold oddB at ho
  have ho := of_decide_eq_true ho
  have hb2 : b.what = 2 := by rcases ho.2.2.2 with h | h; omega; exact h
  rw [anyL_iff]
  have e1 : h = (p0 ++ a :: q1) ++ b :: (q2 ++ c :: r) := by rw [hh, ht, hq]; simp
  have hi : h[(p0 ++ a :: q1).length]? = some b := by rw [e1, List.getElem?_append_right (Nat.le_refl _)]; simp
  have htk : h.take (p0 ++ a :: q1).length = p0 ++ a :: q1 := by rw [e1, List.take_left]
  refine ⟨(p0 ++ a :: q1).length, b, (List.getElem?_eq_some_iff.1 hi).1, hi, ?_⟩
  have hta := okH_tx hk a (by rw [e1]; simp)
  have hend : endIn a.tx (p0 ++ a :: q1) = false := by
    have e2 : h = ((p0 ++ a :: q1) ++ b :: q2) ++ c :: r := by rw [e1]; simp
    have := (okH_after (o := c) (r := r) (a := (p0 ++ a :: q1) ++ b :: q2) (by rw [← e2]; exact hk)).2
    rw [c1] at this
    exact endIn_pre this
  have hge := endedF_get hk (p0 ++ a :: q1).length a.tx hta.1 hta.2
  rw [htk, endGo_zero.2 hend] at hge
  unfold unT
  rw [htk, hb2, Bool.and_eq_true]
  refine ⟨rfl, ?_⟩
  unfold openB
  rw [List.any_eq_true]
  exact ⟨a, by simp, by unfold openT; exact decide_eq_true ⟨ha1, ho.2.1, ho.1, hge⟩⟩
end Go.Proofs.YtoboecppilmnnaaDoor


/-
  PLAIN FACTS: how deals ended, by the program's array and by the reference's look; from whom is read; who is open; when a deal commits.
-/
import Derived.Test.YtkpnpkikonlmpaaRefP
import Derived.Test.YtkpnpkikonlmpaaM6

namespace Go.Proofs.Ytkpnpkikonlmpaa
open Go.RowKit

theorem endedGo_app (es : List Int) (a b : List HOp) : endedGo es (a ++ b) = endedGo (endedGo es a) b := by
  induction a generalizing es with
  | nil => rfl
  | cons o t ih => rw [List.cons_append, endedGo, endedGo, ih]
theorem endedF_snoc (a : List HOp) (o : HOp) : endedF (a ++ [o]) = if endsB o then (endedF a).set o.tx.toNat o.what else endedF a := by
  rw [endedF, endedGo_app]; rfl
theorem endsB_iff {o : HOp} (hr : rightB o = true) : endsB o = decide (3 ≤ o.what) := by
  obtain ⟨_, _, w1, w2, _, _⟩ := rightB_get hr
  unfold endsB
  by_cases h : 3 ≤ o.what
  · rw [decide_eq_true h, decide_eq_true (by omega)]
  · rw [decide_eq_false h, decide_eq_false (by omega)]
theorem endedF_get {h : List HOp} (hk : okH h) : ∀ (k : Nat) (t : Int), 1 ≤ t → t ≤ 6 → (endedF (h.take k)).getD t.toNat 0 = endGo t (h.take k) := by
  intro k
  induction k with
  | zero =>
    intro t h1 h2
    simp only [List.take_zero, endedF, endedGo, endGo, List.getD_eq_getElem?_getD, List.getElem?_replicate]
    split <;> rfl
  | succ k ih =>
    intro t h1 h2
    rcases Nat.lt_or_ge k h.length with hlt | hge
    · have ho : h[k]? = some h[k] := List.getElem?_eq_getElem hlt
      have hs := take_snoc ho
      have hd : h = h.take k ++ h[k] :: h.drop (k + 1) := by rw [← List.drop_eq_getElem_cons hlt, List.take_append_drop]
      obtain ⟨hr, hn⟩ := okH_after (a := h.take k) (r := h.drop (k + 1)) (o := h[k]) (by rw [← hd]; exact hk)
      have h7 : (endedF (h.take k)).length = 7 := endedF_length _
      obtain ⟨t1, t2, _⟩ := rightB_get hr
      rw [hs, endedF_snoc, endsB_iff hr, endGo_app]
      by_cases hw : 3 ≤ (h[k]).what
      · rw [decide_eq_true hw, if_pos rfl]
        by_cases ht : (h[k]).tx = t
        · subst ht
          rw [List.getD_eq_getElem?_getD, List.getElem?_set_self (by omega), hn, if_neg (by simp)]
          simp [endGo, hw]
        · rw [List.getD_eq_getElem?_getD, List.getElem?_set_ne (by omega), ← List.getD_eq_getElem?_getD, ih t h1 h2]
          split
          · rfl
          · rename_i he; rw [endGo_zero.2 (by simpa using he)]; simp [endGo, ht]
      · rw [decide_eq_false hw, if_neg (by simp), ih t h1 h2]
        split
        · rfl
        · rename_i he; rw [endGo_zero.2 (by simpa using he)]; simp [endGo, hw]
    · rw [List.take_of_length_le (by omega), ← List.take_of_length_le (l := h) (i := k) hge]; exact ih t h1 h2

/-- The deal of the last op that a test takes; else acc. -/
def lastTx (p : HOp → Bool) (acc : Int) : List HOp → Int
  | [] => acc
  | o :: t => lastTx p (if p o then o.tx else acc) t
theorem lastTx_find (p : HOp → Bool) (l : List HOp) : ∀ acc, lastTx p acc l = match l.reverse.find? p with | some o => o.tx | none => acc := by
  induction l with
  | nil => intro acc; rfl
  | cons o t ih =>
    intro acc
    rw [lastTx, ih, List.reverse_cons, List.find?_append]
    cases hf : t.reverse.find? p with
    | some x => simp
    | none =>
      cases hp : p o <;> simp [hp]
theorem lastTx_congr {p q : HOp → Bool} {l : List HOp} (h : ∀ o ∈ l, p o = q o) : ∀ acc, lastTx p acc l = lastTx q acc l := by
  induction l with
  | nil => intro acc; rfl
  | cons o t ih =>
    intro acc
    rw [lastTx, lastTx, h o (by simp), ih (fun x hx => h x (by simp [hx]))]
theorem lastTx_snoc (p : HOp → Bool) (acc : Int) (l : List HOp) (o : HOp) : lastTx p acc (l ++ [o]) = if p o then o.tx else lastTx p acc l := by
  induction l generalizing acc with
  | nil => rfl
  | cons x t ih => rw [List.cons_append, lastTx, lastTx, ih]
theorem fromB_last (pre : List HOp) (x : HOp) : fromB pre x = lastTx (fromT (endedF pre) x) 0 pre := by rw [fromB, lastTx_find]; cases pre.reverse.find? (fromT (endedF pre) x) <;> rfl
/-- The reference's tests. -/
def rfromT (pre : List HOp) (x o : HOp) : Bool := decide (o.what = 2 ∧ o.item = x.item ∧ endGo o.tx pre ≠ 4)
def ropenT (pre : List HOp) (x : HOp) (what : Int) (o : HOp) : Bool := decide (o.what = what ∧ o.item = x.item ∧ o.tx ≠ x.tx ∧ endGo o.tx pre = 0)
theorem rfrom_eq {h : List HOp} (hk : okH h) (k : Nat) (x : HOp) : lastTx (rfromT (h.take k) x) 0 (h.take k) = fromB (h.take k) x := by
  rw [fromB_last]
  refine lastTx_congr (fun o ho => ?_) 0
  have := okH_tx hk o (List.mem_of_mem_take ho)
  unfold rfromT fromT
  rw [endedF_get hk k o.tx this.1 this.2]
theorem ropen_eq {h : List HOp} (hk : okH h) (k : Nat) (x : HOp) (what : Int) : (h.take k).any (ropenT (h.take k) x what) = openB (h.take k) x what := by
  unfold openB
  rw [Bool.eq_iff_iff, List.any_eq_true, List.any_eq_true]
  have e : ∀ o ∈ h.take k, ropenT (h.take k) x what o = openT (endedF (h.take k)) x what o := fun o ho => by
    have := okH_tx hk o (List.mem_of_mem_take ho)
    unfold ropenT openT
    rw [endedF_get hk k o.tx this.1 this.2]
  constructor
  · rintro ⟨o, ho, h1⟩; exact ⟨o, ho, by rw [← e o ho]; exact h1⟩
  · rintro ⟨o, ho, h1⟩; exact ⟨o, ho, by rw [e o ho]; exact h1⟩
theorem idxGo_congr {α : Type} {p q : α → Bool} {l : List α} (h : ∀ o ∈ l, p o = q o) : ∀ k, idxGo p k l = idxGo q k l := by
  induction l with
  | nil => intro k; rfl
  | cons o t ih =>
    intro k
    rw [idxGo, idxGo, h o (by simp), ih (fun x hx => h x (by simp [hx]))]
def whenT (tx : Int) (o : HOp) : Bool := decide (o.tx = tx ∧ o.what = 3)
theorem when_eq {h : List HOp} (hk : okH h) (tx : Int) : idxGo (whenT tx) 0 h = idxGo (fun o => decide (o = HOp.mk tx 3 0)) 0 h := by
  refine idxGo_congr (fun o ho => ?_) 0
  obtain ⟨_, _, _, _, _, h6⟩ := rightB_get (okH_right hk o ho)
  rw [whenT, Bool.eq_iff_iff, decide_eq_true_iff, decide_eq_true_iff]
  constructor
  · rintro ⟨h1, h2⟩
    have h3 := h6 (by omega)
    obtain ⟨a, b, c⟩ := o
    simp only at h1 h2 h3
    subst h1 h2 h3; rfl
  · rintro rfl; exact ⟨rfl, rfl⟩
theorem idxGo_none {α : Type} (p : α → Bool) (h : List α) : idxGo p 0 h = -1 ∨ 0 ≤ idxGo p 0 h := by
  rcases idxGo_spec p 0 h with ⟨_, h2⟩ | ⟨i, o, _, _, _, h4⟩
  · exact .inl h2
  · right; omega
end Go.Proofs.Ytkpnpkikonlmpaa

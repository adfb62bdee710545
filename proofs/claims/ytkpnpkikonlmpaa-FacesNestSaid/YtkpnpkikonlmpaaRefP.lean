
/-
  PLAIN FACTS on the references' words: who has ended among ops, and what Check says of ops behind others.
-/
import Derived.Test.YtkpnpkikonlmpaaDone2
import Derived.Test.YtkpnpkikonlmpaaR1

namespace Go.Proofs.Ytkpnpkikonlmpaa
open Go.RowKit

/-- Did a deal end among ops? -/
def endIn (tx : Int) (p : List HOp) : Bool := p.any fun o => decide (o.tx = tx ∧ 3 ≤ o.what)
theorem endIn_snoc (tx : Int) (p : List HOp) (o : HOp) : endIn tx (p ++ [o]) = (endIn tx p || decide (o.tx = tx ∧ 3 ≤ o.what)) := by simp [endIn]
/-- The flags that Check keeps are those of who ended among ops. -/
def EsOk (es : List Bool) (p : List HOp) : Prop := es.length = 7 ∧ ∀ t : Int, 1 ≤ t → t ≤ 6 → es.getD t.toNat false = endIn t p
theorem EsOk.nil : EsOk (List.replicate 7 false) [] := ⟨by simp, fun t _ _ => by
  simp only [List.getD_eq_getElem?_getD, List.getElem?_replicate]; split <;> rfl⟩
theorem EsOk.snoc {es : List Bool} {p : List HOp} {o : HOp} (h : EsOk es p) (hr : rightB o = true) (hn : endIn o.tx p = false) : EsOk (es.set o.tx.toNat (endsB o)) (p ++ [o]) := by
  obtain ⟨t1, t2, w1, w2, _, _⟩ := rightB_get hr
  have hl := h.1
  refine ⟨by simpa using h.1, fun t h1 h2 => ?_⟩
  rw [endIn_snoc]
  by_cases hx : o.tx = t
  · subst hx
    rw [List.getD_eq_getElem?_getD, List.getElem?_set_self (by omega), hn]
    simp only [Option.getD_some, endsB, Bool.false_or]
    by_cases h3 : 3 ≤ o.what
    · rw [decide_eq_true (by omega)]; simp [h3]
    · rw [decide_eq_false (by omega)]; simp [h3]
  · rw [List.getD_eq_getElem?_getD, List.getElem?_set_ne (by omega), ← List.getD_eq_getElem?_getD, h.2 t h1 h2, decide_eq_false (fun e => hx e.1)]
    simp

theorem checkGo_stuck {h : List HOp} : ∀ {es : List Bool} {i : Nat}, (checkGo es i h).2 ≠ 0 → ∀ r, checkGo es i (h ++ r) = checkGo es i h := by
  induction h with
  | nil => intro es i hc; simp [checkGo] at hc
  | cons o t ih =>
    intro es i hc r
    rw [List.cons_append]
    unfold checkGo at hc ⊢
    split
    · rfl
    · rename_i h1
      split
      · rfl
      · rename_i h2
        rw [if_neg h1, if_neg h2] at hc
        exact ih hc r
theorem checkGo_goes {h : List HOp} : ∀ {es : List Bool} {i : Nat} {p : List HOp}, (checkGo es i h).2 = 0 → EsOk es p → ∃ es', EsOk es' (p ++ h) ∧ ∀ r, checkGo es i (h ++ r) = checkGo es' (i + h.length) r := by
  induction h with
  | nil => intro es i p _ hes; exact ⟨es, by simpa using hes, fun r => by simp⟩
  | cons o t ih =>
    intro es i p hc hes
    unfold checkGo at hc
    split at hc
    · simp at hc
    · rename_i h1
      split at hc
      · simp at hc
      · rename_i h2
        have hr : rightB o = true := by simpa using h1
        obtain ⟨t1, t2, _⟩ := rightB_get hr
        have hn : endIn o.tx p = false := by rw [← hes.2 _ t1 t2]; simpa using h2
        obtain ⟨es', he, hq⟩ := ih hc (hes.snoc hr hn)
        refine ⟨es', by simpa using he, fun r => ?_⟩
        rw [List.cons_append, checkGo, if_neg h1, if_neg h2, hq, List.length_cons]
        congr 1; omega
theorem checkGo_at {es : List Bool} {p : List HOp} (hes : EsOk es p) (i : Nat) (o : HOp) (r : List HOp) :
    checkGo es i (o :: r) = if rightB o = false then (i, 1) else if endIn o.tx p = true then (i, 6) else checkGo (es.set o.tx.toNat (endsB o)) (i + 1) r := by
  rw [checkGo]
  by_cases h1 : rightB o = false
  · rw [if_pos h1, if_pos h1]
  · rw [if_neg h1, if_neg h1]
    obtain ⟨t1, t2, _⟩ := rightB_get (by simpa using h1 : rightB o = true)
    rw [hes.2 _ t1 t2]
/-- Behind ops that are right, what Check says of one op more. -/
theorem checkF_snoc {h : List HOp} (hk : okH h) (h39 : h.length ≤ 39) (o : HOp) : checkF (h ++ [o]) = if rightB o = false then (h.length, 1) else if endIn o.tx h = true then (h.length, 6) else (0, 0) := by
  obtain ⟨es', he, hq⟩ := checkGo_goes (p := []) (by rw [okH_go hk]) EsOk.nil
  unfold checkF
  rw [if_neg (by simp; omega), hq, checkGo_at (by simpa using he)]
  simp [checkGo]
theorem checkF_no {h : List HOp} (hk : ¬ okH h) (h39 : h.length ≤ 39) (r : List HOp) : (checkF (h ++ r)).2 ≠ 0 := by
  unfold okH checkF at hk
  rw [if_neg (by omega)] at hk
  unfold checkF
  split
  · simp
  · rw [checkGo_stuck hk]; exact hk
theorem checkF_one (o : HOp) : checkF [o] = if rightB o = false then (0, 1) else (0, 0) := by
  unfold checkF
  rw [if_neg (by simp), checkGo_at EsOk.nil]
  simp [endIn, checkGo]
theorem endGo_in {tx : Int} {h : List HOp} : endGo tx h ≠ 0 ↔ endIn tx h = true := by
  induction h with
  | nil => simp [endGo, endIn]
  | cons o t ih =>
    rw [endGo]
    have e : endIn tx (o :: t) = (decide (o.tx = tx ∧ 3 ≤ o.what) || endIn tx t) := by simp [endIn]
    rw [e]
    by_cases h1 : o.tx = tx ∧ 3 ≤ o.what
    · rw [if_pos h1, decide_eq_true h1]; simp; omega
    · rw [if_neg h1, decide_eq_false h1]; simpa using ih
theorem endGo_zero {tx : Int} {h : List HOp} : endGo tx h = 0 ↔ endIn tx h = false := by
  have := endGo_in (tx := tx) (h := h)
  cases he : endIn tx h <;> simp_all
theorem okH_pre {a r : List HOp} (hk : okH (a ++ r)) : okH a := by
  have hg := okH_go hk
  have hl := okH_len hk
  unfold okH checkF
  rw [if_neg (by simp at hl; omega)]
  by_cases hz : (checkGo (List.replicate 7 false) 0 a).2 = 0
  · exact hz
  · rw [checkGo_stuck hz] at hg; rw [hg]
/-- Where all is right no op of a deal comes behind its end. -/
theorem okH_after {a r : List HOp} {o : HOp} (hk : okH (a ++ o :: r)) : rightB o = true ∧ endIn o.tx a = false := by
  obtain ⟨es', he, hq⟩ := checkGo_goes (p := []) (es := List.replicate 7 false) (i := 0) (h := a) (by rw [okH_go (okH_pre hk)]) EsOk.nil
  have hg := okH_go hk
  rw [hq, checkGo_at (by simpa using he)] at hg
  split at hg
  · simp at hg
  · rename_i h1
    split at hg
    · simp at hg
    · rename_i h2
      exact ⟨by simpa using h1, by simpa using h2⟩
theorem endGo_app {tx : Int} {a r : List HOp} : endGo tx (a ++ r) = if endIn tx a = true then endGo tx a else endGo tx r := by
  induction a with
  | nil => simp [endIn]
  | cons o t ih =>
    have e : endIn tx (o :: t) = (decide (o.tx = tx ∧ 3 ≤ o.what) || endIn tx t) := by simp [endIn]
    rw [List.cons_append, endGo, endGo, e]
    by_cases h1 : o.tx = tx ∧ 3 ≤ o.what
    · simp [h1]
    · rw [if_neg h1, if_neg h1, ih, decide_eq_false h1]; simp
theorem endGo_mem {tx : Int} {h : List HOp} (he : endIn tx h = true) : ∃ o ∈ h, o.tx = tx ∧ 3 ≤ o.what ∧ endGo tx h = o.what := by
  induction h with
  | nil => simp [endIn] at he
  | cons o t ih =>
    have e : endIn tx (o :: t) = (decide (o.tx = tx ∧ 3 ≤ o.what) || endIn tx t) := by simp [endIn]
    rw [endGo]
    by_cases h1 : o.tx = tx ∧ 3 ≤ o.what
    · exact ⟨o, by simp, h1.1, h1.2, by rw [if_pos h1]⟩
    · rw [e, decide_eq_false h1] at he
      obtain ⟨x, hx, h2, h3, h4⟩ := ih (by simpa using he)
      exact ⟨x, by simp [hx], h2, h3, by rw [if_neg h1, h4]⟩
/-- Where all is right an op that ends its deal is what that deal's end is. -/
theorem endGo_is {h : List HOp} (hk : okH h) {c : HOp} (hc : c ∈ h) (h3 : 3 ≤ c.what) : endGo c.tx h = c.what := by
  obtain ⟨a, r, rfl⟩ := List.append_of_mem hc
  rw [endGo_app, if_neg (by rw [(okH_after hk).2]; simp), endGo, if_pos ⟨rfl, h3⟩]
theorem endGo_done {h : List HOp} (hk : okH h) (tx : Int) (t1 : 1 ≤ tx) (t2 : tx ≤ 6) : endGo tx h = 3 ↔ (flagsF h).getD tx.toNat false = true := by
  rw [flagsF_get (okH_tx hk)]
  constructor
  · intro he
    obtain ⟨o, ho, h1, h2, h4⟩ := endGo_mem (endGo_in.1 (show endGo tx h ≠ 0 by omega))
    exact ⟨o, ho, by rw [h1], by omega⟩
  · rintro ⟨c, hc, h1, h2⟩
    have := okH_tx hk c hc
    have e : c.tx = tx := by omega
    rw [← e, endGo_is hk hc (by omega), h2]
theorem doneL_eq {h : List HOp} (hk : okH h) : doneL h = h.filter fun o => decide (endGo o.tx h = 3) := by
  unfold doneL
  refine List.filter_congr fun o ho => ?_
  have := okH_tx hk o ho
  have h2 := endGo_done hk o.tx this.1 this.2
  cases hf : (flagsF h).getD o.tx.toNat false
  · rw [hf] at h2; simp at h2; simp [h2]
  · rw [hf] at h2; simp [h2.2 rfl]
end Go.Proofs.Ytkpnpkikonlmpaa


/-
  CONTRACTS of the references' small functions over histories and numbers.
  PLAIN FACTS on the references' words: who has ended among ops, and what Check says of ops behind others.
  CONTRACTS of laneref1.History, Right: which op is wrong, and how, as Check says.
  PLAIN FACTS on deals one behind the other: they are a history that is right; at each op all other deals have ended.
-/
import Derived.Test.YtaaahfbcpgdoiaaGreatDoorQ0
import Derived.Test.YtaaahfbcpgdoiaaGreatDoorQ9
import Derived.Test.YtaaahfbcpgdoiaaGreatDoorPieces

namespace Go.Proofs.YtaaahfbcpgdoiaaGreatDoor
open Go.RowKit

def endGo (tx : Int) : List HOp → Int
  | [] => 0
  | o :: t => if o.tx = tx ∧ 3 ≤ o.what then o.what else endGo tx t

end Go.Proofs.YtaaahfbcpgdoiaaGreatDoor


namespace Go.Proofs.YtaaahfbcpgdoiaaGreatDoor
open Go.RowKit

/-- Did a deal end among ops? -/
def endIn (tx : Int) (p : List HOp) : Bool := p.any fun o => decide (o.tx = tx ∧ 3 ≤ o.what)
theorem endIn_snoc (tx : Int) (p : List HOp) (o : HOp) : endIn tx (p ++ [o]) = (endIn tx p || decide (o.tx = tx ∧ 3 ≤ o.what)) := by simp [endIn]
/-- The flags that Check keeps are those of who ended among ops. -/
def EsOk (es : List Bool) (p : List HOp) : Prop := es.length = 7 ∧ ∀ t : Int, 1 ≤ t → t ≤ 6 → es.getD t.toNat false = endIn t p
theorem EsOk.nil : EsOk (List.replicate 7 false) [] := ⟨by simp, fun t _ _ => by
  simp only [List.getD_eq_getElem?_getD, List.getElem?_replicate]; split <;> rfl⟩
theorem EsOk.snoc {es : List Bool} {p : List HOp} {o : HOp} (h : EsOk es p) (hr : rightB o = true) (hn : endIn o.tx p = false) : EsOk (es.set o.tx.toNat (endsB o)) (p ++ [o]) := by
  obtain ⟨t1, t2, w1, w2, _, _⟩ := rightB_get hr
  have hl := h.1
  refine ⟨by simpa using h.1, fun t h1 h2 => ?_⟩
  rw [endIn_snoc]
  by_cases hx : o.tx = t
  · subst hx
    rw [List.getD_eq_getElem?_getD, List.getElem?_set_self (by omega), hn]
    simp only [Option.getD_some, endsB, Bool.false_or]
    by_cases h3 : 3 ≤ o.what
    · rw [decide_eq_true (by omega)]; simp [h3]
    · rw [decide_eq_false (by omega)]; simp [h3]
  · rw [List.getD_eq_getElem?_getD, List.getElem?_set_ne (by omega), ← List.getD_eq_getElem?_getD, h.2 t h1 h2, decide_eq_false (fun e => hx e.1)]
    simp

theorem checkGo_stuck {h : List HOp} : ∀ {es : List Bool} {i : Nat}, (checkGo es i h).2 ≠ 0 → ∀ r, checkGo es i (h ++ r) = checkGo es i h := by
  induction h with
  | nil => intro es i hc; simp [checkGo] at hc
  | cons o t ih =>
    intro es i hc r
    rw [List.cons_append]
    unfold checkGo at hc ⊢
    split
    · rfl
    · rename_i h1
      split
      · rfl
      · rename_i h2
        rw [if_neg h1, if_neg h2] at hc
        exact ih hc r
theorem checkGo_goes {h : List HOp} : ∀ {es : List Bool} {i : Nat} {p : List HOp}, (checkGo es i h).2 = 0 → EsOk es p → ∃ es', EsOk es' (p ++ h) ∧ ∀ r, checkGo es i (h ++ r) = checkGo es' (i + h.length) r := by
  induction h with
  | nil => intro es i p _ hes; exact ⟨es, by simpa using hes, fun r => by simp⟩
  | cons o t ih =>
    intro es i p hc hes
    unfold checkGo at hc
    split at hc
    · simp at hc
    · rename_i h1
      split at hc
      · simp at hc
      · rename_i h2
        have hr : rightB o = true := by simpa using h1
        obtain ⟨t1, t2, _⟩ := rightB_get hr
        have hn : endIn o.tx p = false := by rw [← hes.2 _ t1 t2]; simpa using h2
        obtain ⟨es', he, hq⟩ := ih hc (hes.snoc hr hn)
        refine ⟨es', by simpa using he, fun r => ?_⟩
        rw [List.cons_append, checkGo, if_neg h1, if_neg h2, hq, List.length_cons]
        congr 1; omega
theorem checkGo_at {es : List Bool} {p : List HOp} (hes : EsOk es p) (i : Nat) (o : HOp) (r : List HOp) :
    checkGo es i (o :: r) = if rightB o = false then (i, 1) else if endIn o.tx p = true then (i, 6) else checkGo (es.set o.tx.toNat (endsB o)) (i + 1) r := by
  rw [checkGo]
  by_cases h1 : rightB o = false
  · rw [if_pos h1, if_pos h1]
  · rw [if_neg h1, if_neg h1]
    obtain ⟨t1, t2, _⟩ := rightB_get (by simpa using h1 : rightB o = true)
    rw [hes.2 _ t1 t2]
/-- Behind ops that are right, what Check says of one op more. -/
theorem checkF_snoc {h : List HOp} (hk : okH h) (h39 : h.length ≤ 39) (o : HOp) : checkF (h ++ [o]) = if rightB o = false then (h.length, 1) else if endIn o.tx h = true then (h.length, 6) else (0, 0) := by
  obtain ⟨es', he, hq⟩ := checkGo_goes (p := []) (by rw [okH_go hk]) EsOk.nil
  unfold checkF
  rw [if_neg (by simp; omega), hq, checkGo_at (by simpa using he)]
  simp [checkGo]
theorem checkF_no {h : List HOp} (hk : ¬ okH h) (h39 : h.length ≤ 39) (r : List HOp) : (checkF (h ++ r)).2 ≠ 0 := by
  unfold okH checkF at hk
  rw [if_neg (by omega)] at hk
  unfold checkF
  split
  · simp
  · rw [checkGo_stuck hk]; exact hk
theorem checkF_one (o : HOp) : checkF [o] = if rightB o = false then (0, 1) else (0, 0) := by
  unfold checkF
  rw [if_neg (by simp), checkGo_at EsOk.nil]
  simp [endIn, checkGo]
theorem endGo_in {tx : Int} {h : List HOp} : endGo tx h ≠ 0 ↔ endIn tx h = true := by
  induction h with
  | nil => simp [endGo, endIn]
  | cons o t ih =>
    rw [endGo]
    have e : endIn tx (o :: t) = (decide (o.tx = tx ∧ 3 ≤ o.what) || endIn tx t) := by simp [endIn]
    rw [e]
    by_cases h1 : o.tx = tx ∧ 3 ≤ o.what
    · rw [if_pos h1, decide_eq_true h1]; simp; omega
    · rw [if_neg h1, decide_eq_false h1]; simpa using ih
theorem endGo_zero {tx : Int} {h : List HOp} : endGo tx h = 0 ↔ endIn tx h = false := by
  have := endGo_in (tx := tx) (h := h)
  cases he : endIn tx h <;> simp_all
theorem okH_pre {a r : List HOp} (hk : okH (a ++ r)) : okH a := by
  have hg := okH_go hk
  have hl := okH_len hk
  unfold okH checkF
  rw [if_neg (by simp at hl; omega)]
  by_cases hz : (checkGo (List.replicate 7 false) 0 a).2 = 0
  · exact hz
  · rw [checkGo_stuck hz] at hg; rw [hg]
/-- Where all is right no op of a deal comes behind its end. -/
theorem okH_after {a r : List HOp} {o : HOp} (hk : okH (a ++ o :: r)) : rightB o = true ∧ endIn o.tx a = false := by
  obtain ⟨es', he, hq⟩ := checkGo_goes (p := []) (es := List.replicate 7 false) (i := 0) (h := a) (by rw [okH_go (okH_pre hk)]) EsOk.nil
  have hg := okH_go hk
  rw [hq, checkGo_at (by simpa using he)] at hg
  split at hg
  · simp at hg
  · rename_i h1
    split at hg
    · simp at hg
    · rename_i h2
      exact ⟨by simpa using h1, by simpa using h2⟩
theorem endGo_app {tx : Int} {a r : List HOp} : endGo tx (a ++ r) = if endIn tx a = true then endGo tx a else endGo tx r := by
  induction a with
  | nil => simp [endIn]
  | cons o t ih =>
    have e : endIn tx (o :: t) = (decide (o.tx = tx ∧ 3 ≤ o.what) || endIn tx t) := by simp [endIn]
    rw [List.cons_append, endGo, endGo, e]
    by_cases h1 : o.tx = tx ∧ 3 ≤ o.what
    · simp [h1]
    · rw [if_neg h1, if_neg h1, ih, decide_eq_false h1]; simp
theorem endGo_mem {tx : Int} {h : List HOp} (he : endIn tx h = true) : ∃ o ∈ h, o.tx = tx ∧ 3 ≤ o.what ∧ endGo tx h = o.what := by
  induction h with
  | nil => simp [endIn] at he
  | cons o t ih =>
    have e : endIn tx (o :: t) = (decide (o.tx = tx ∧ 3 ≤ o.what) || endIn tx t) := by simp [endIn]
    rw [endGo]
    by_cases h1 : o.tx = tx ∧ 3 ≤ o.what
    · exact ⟨o, by simp, h1.1, h1.2, by rw [if_pos h1]⟩
    · rw [e, decide_eq_false h1] at he
      obtain ⟨x, hx, h2, h3, h4⟩ := ih (by simpa using he)
      exact ⟨x, by simp [hx], h2, h3, by rw [if_neg h1, h4]⟩
/-- Where all is right an op that ends its deal is what that deal's end is. -/
theorem endGo_is {h : List HOp} (hk : okH h) {c : HOp} (hc : c ∈ h) (h3 : 3 ≤ c.what) : endGo c.tx h = c.what := by
  obtain ⟨a, r, rfl⟩ := List.append_of_mem hc
  rw [endGo_app, if_neg (by rw [(okH_after hk).2]; simp), endGo, if_pos ⟨rfl, h3⟩]
theorem endGo_done {h : List HOp} (hk : okH h) (tx : Int) (t1 : 1 ≤ tx) (t2 : tx ≤ 6) : endGo tx h = 3 ↔ (flagsF h).getD tx.toNat false = true := by
  rw [flagsF_get (okH_tx hk)]
  constructor
  · intro he
    obtain ⟨o, ho, h1, h2, h4⟩ := endGo_mem (endGo_in.1 (show endGo tx h ≠ 0 by omega))
    exact ⟨o, ho, by rw [h1], by omega⟩
  · rintro ⟨c, hc, h1, h2⟩
    have := okH_tx hk c hc
    have e : c.tx = tx := by omega
    rw [← e, endGo_is hk hc (by omega), h2]
theorem doneL_eq {h : List HOp} (hk : okH h) : doneL h = h.filter fun o => decide (endGo o.tx h = 3) := by
  unfold doneL
  refine List.filter_congr fun o ho => ?_
  have := okH_tx hk o ho
  have h2 := endGo_done hk o.tx this.1 this.2
  cases hf : (flagsF h).getD o.tx.toNat false
  · rw [hf] at h2; simp at h2; simp [h2]
  · rw [hf] at h2; simp [h2.2 rfl]
end Go.Proofs.YtaaahfbcpgdoiaaGreatDoor


namespace Go.Proofs.YtaaahfbcpgdoiaaGreatDoor
open Go.RowKit

theorem rightB_mk {o : HOp} (h : 1 ≤ o.tx ∧ o.tx ≤ 6 ∧ 1 ≤ o.what ∧ o.what ≤ 4 ∧ (o.what < 3 → 1 ≤ o.item ∧ o.item ≤ 6) ∧ (3 ≤ o.what → o.item = 0)) : rightB o = true := by
  obtain ⟨h1, h2, h3, h4, h5, h6⟩ := h
  unfold rightB txB endsB
  rw [decide_eq_true (by omega), decide_eq_true (by omega)]
  by_cases hw : 3 ≤ o.what
  · rw [if_pos (by simp; omega)]; simp [h6 hw]
  · rw [if_neg (by simp; omega)]; have := h5 (by omega); simp; omega
theorem rightB_not {o : HOp} (h : ¬ (1 ≤ o.tx ∧ o.tx ≤ 6 ∧ 1 ≤ o.what ∧ o.what ≤ 4 ∧ (o.what < 3 → 1 ≤ o.item ∧ o.item ≤ 6) ∧ (3 ≤ o.what → o.item = 0))) : rightB o = false := by
  cases hr : rightB o
  · rfl
  · exact absurd (rightB_get hr) h

/-- A contract of one round's op: what is known of it, by cases. -/
theorem badCases (o : HOp) : (rightB o = true ∧ 1 ≤ o.tx ∧ o.tx ≤ 6 ∧ txB o.tx = true ∧ 1 ≤ o.what ∧ o.what ≤ 4 ∧ ((o.what < 3 ∧ 1 ≤ o.item ∧ o.item ≤ 6) ∨ (3 ≤ o.what ∧ o.item = 0))) ∨
    (rightB o = false ∧ (txB o.tx = false ∨ (txB o.tx = true ∧ (o.what < 1 ∨ 4 < o.what ∨ (1 ≤ o.what ∧ o.what < 3 ∧ (o.item < 1 ∨ 6 < o.item)) ∨ (3 ≤ o.what ∧ o.what ≤ 4 ∧ o.item ≠ 0))))) := by
  cases hr : rightB o
  · right
    refine ⟨rfl, ?_⟩
    cases hT : txB o.tx
    · exact .inl rfl
    · right
      refine ⟨rfl, ?_⟩
      have hT' : 1 ≤ o.tx ∧ o.tx ≤ 6 := by simpa [txB] using hT
      by_cases h : 1 ≤ o.tx ∧ o.tx ≤ 6 ∧ 1 ≤ o.what ∧ o.what ≤ 4 ∧ (o.what < 3 → 1 ≤ o.item ∧ o.item ≤ 6) ∧ (3 ≤ o.what → o.item = 0)
      · rw [rightB_mk h] at hr; cases hr
      · omega
  · left
    obtain ⟨h1, h2, h3, h4, h5, h6⟩ := rightB_get hr
    exact ⟨rfl, h1, h2, by simp [txB]; omega, h3, h4, by omega⟩

def checkZ (h : List HOp) : Nat × Int := checkGo (List.replicate 7 false) 0 h
end Go.Proofs.YtaaahfbcpgdoiaaGreatDoor


namespace Go.Proofs.YtaaahfbcpgdoiaaGreatDoor
open Go.RowKit

structure OrdOk (order : List Int) : Prop where
  nd : order.Nodup
  rg : ∀ t ∈ order, 1 ≤ t ∧ t ≤ 6
theorem nodup_le : ∀ {l s : List Int}, l.Nodup → (∀ x ∈ l, x ∈ s) → l.length ≤ s.length
  | [], _, _, _ => Nat.zero_le _
  | a :: t, s, hn, hs => by
    rw [List.nodup_cons] at hn
    have ha := hs a (by simp)
    have := nodup_le (l := t) (s := s.erase a) hn.2 fun x hx => (List.mem_erase_of_ne (fun e => hn.1 (by rw [← e]; exact hx))).2 (hs x (by simp [hx]))
    rw [List.length_erase_of_mem ha] at this
    have h0 : 0 < s.length := List.length_pos_of_mem ha
    simp only [List.length_cons]; omega
theorem OrdOk.len {order : List Int} (h : OrdOk order) : order.length ≤ 6 := nodup_le (s := [1, 2, 3, 4, 5, 6]) h.nd fun x hx => by
  have := h.rg x hx
  simp only [List.mem_cons, List.not_mem_nil, or_false]; omega
theorem orderGo_ok : ∀ {l order : List Int}, OrdOk order → OrdOk (orderGo order l)
  | [], _, h => h
  | x :: r, order, h => by
    unfold orderGo
    split
    · rename_i hx
      refine orderGo_ok ⟨?_, fun t ht => ?_⟩
      · rw [List.nodup_append]
        refine ⟨h.nd, by simp, fun a ha b hb => ?_⟩
        rw [List.mem_singleton] at hb
        rintro rfl
        exact hx.2 (hb ▸ ha)
      · rcases List.mem_append.1 ht with h1 | h1
        · exact h.rg t h1
        · rw [List.mem_singleton] at h1
          have := hx.1
          rw [h1]; simpa [txB] using this
    · exact orderGo_ok h
theorem order_ok (l : List Int) : OrdOk (orderF l) := orderGo_ok ⟨List.nodup_nil, by simp⟩
theorem OrdOk.pre {p q : List Int} (h : OrdOk (p ++ q)) : OrdOk p := ⟨(List.nodup_append.1 h.nd).1, fun t ht => h.rg t (by simp [ht])⟩

theorem piecesH_cons (a b : Int) (t : Int) (q : List Int) : piecesH a b (t :: q) = ([⟨t, 1, a⟩, ⟨t, 2, b⟩, ⟨t, 3, 0⟩] : List HOp) ++ piecesH a b q := by simp [piecesH]
theorem piecesH_len (a b : Int) (q : List Int) : (piecesH a b q).length = q.length * 3 := by
  induction q with
  | nil => rfl
  | cons t q ih => rw [piecesH_cons, List.length_append, ih]; simp; omega
theorem piecesH_mem {a b : Int} {q : List Int} {o : HOp} (h : o ∈ piecesH a b q) : o.tx ∈ q ∧ (o = ⟨o.tx, 1, a⟩ ∨ o = ⟨o.tx, 2, b⟩ ∨ o = ⟨o.tx, 3, 0⟩) := by
  unfold piecesH at h
  obtain ⟨t, ht, ho⟩ := List.mem_flatMap.1 h
  simp only [List.mem_cons, List.not_mem_nil, or_false] at ho
  rcases ho with rfl | rfl | rfl <;> simp [ht]
theorem piecesH_end (a b : Int) (q : List Int) (t : Int) : endIn t (piecesH a b q) = decide (t ∈ q) := by
  induction q with
  | nil => rfl
  | cons x q ih =>
    have e : endIn t (piecesH a b (x :: q)) = (decide (x = t) || endIn t (piecesH a b q)) := by
      rw [piecesH_cons]; simp [endIn]
    rw [e, ih]
    by_cases h : x = t
    · simp [h]
    · have h' : ¬ t = x := fun e => h e.symm
      simp [h, h']
theorem okH_snoc {h : List HOp} (hk : okH h) (h39 : h.length ≤ 39) {o : HOp} (hr : rightB o = true) (hn : endIn o.tx h = false) : okH (h ++ [o]) := by
  show (checkF _).2 = 0
  rw [checkF_snoc hk h39, hr, hn]; rfl
theorem piecesH_ok {a b : Int} (ha : 1 ≤ a ∧ a ≤ 6) (hb : 1 ≤ b ∧ b ≤ 6) : ∀ (q p : List Int), OrdOk (p ++ q) → okH (piecesH a b p) → okH (piecesH a b (p ++ q))
  | [], p, _, h => by rw [List.append_nil]; exact h
  | t :: q, p, ho, h => by
    have e : p ++ t :: q = (p ++ [t]) ++ q := by simp
    have hpt : OrdOk (p ++ [t]) := by rw [e] at ho; exact ho.pre
    have hl := hpt.len
    rw [List.length_append, List.length_singleton] at hl
    have htr := hpt.rg t (by simp)
    have hnt : t ∉ p := fun hm => (List.nodup_append.1 hpt.nd).2.2 t hm t (by simp) rfl
    have hlen := piecesH_len a b p
    have hend := piecesH_end a b p t
    rw [decide_eq_false hnt] at hend
    have k1 := okH_snoc h (by omega) (o := ⟨t, 1, a⟩) (rightB_mk ⟨htr.1, htr.2, by simp, by simp, fun _ => ha, by simp⟩) hend
    have n1 : endIn t (piecesH a b p ++ [⟨t, 1, a⟩]) = false := by rw [endIn_snoc, hend]; simp
    have k2 := okH_snoc k1 (by simp; omega) (o := ⟨t, 2, b⟩) (rightB_mk ⟨htr.1, htr.2, by simp, by simp, fun _ => hb, by simp⟩) n1
    have n2 : endIn t (piecesH a b p ++ [⟨t, 1, a⟩] ++ [⟨t, 2, b⟩]) = false := by rw [endIn_snoc, n1]; simp
    have k3 := okH_snoc k2 (by simp; omega) (o := ⟨t, 3, 0⟩) (rightB_mk ⟨htr.1, htr.2, by simp, by simp, by simp, by simp⟩) n2
    have e3 : piecesH a b p ++ [⟨t, 1, a⟩] ++ [⟨t, 2, b⟩] ++ [⟨t, 3, 0⟩] = piecesH a b (p ++ [t]) := by rw [piecesH_snoc]; simp
    rw [e3] at k3
    rw [e]
    exact piecesH_ok ha hb q (p ++ [t]) (by rw [← e]; exact ho) k3
theorem pieces_ok {a b : Int} (ha : 1 ≤ a ∧ a ≤ 6) (hb : 1 ≤ b ∧ b ≤ 6) {q : List Int} (h : OrdOk q) : okH (piecesH a b q) := by
  have := piecesH_ok ha hb q [] h rfl
  exact this

/-- Where an op of such a history stands. -/
theorem piecesH_at {a b : Int} : ∀ {q : List Int} {i : Nat} {x : HOp}, (piecesH a b q)[i]? = some x → ∃ (p : List Int) (t : Int) (r : List Int) (j : Nat), q = p ++ t :: r ∧ j < 3 ∧ i = p.length * 3 + j ∧ x.tx = t ∧
    (piecesH a b q).take i = piecesH a b p ++ ([⟨t, 1, a⟩, ⟨t, 2, b⟩, ⟨t, 3, 0⟩] : List HOp).take j ∧ ([⟨t, 1, a⟩, ⟨t, 2, b⟩, ⟨t, 3, 0⟩] : List HOp)[j]? = some x
  | [], i, x, h => by simp [piecesH] at h
  | t :: q, i, x, h => by
    rw [piecesH_cons] at h ⊢
    rcases Nat.lt_or_ge i 3 with hi | hi
    · rw [List.getElem?_append_left (by simpa using hi)] at h
      refine ⟨[], t, q, i, rfl, hi, by simp, ?_, ?_, h⟩
      · have h3 : i = 0 ∨ i = 1 ∨ i = 2 := by omega
        rcases h3 with rfl | rfl | rfl <;> simp at h <;> rw [← h]
      · rw [List.take_append_of_le_length (by simp; omega)]; rfl
    · rw [List.getElem?_append_right (by simpa using hi)] at h
      obtain ⟨p, t', r, j, h1, h2, h3, h4, h5, h6⟩ := piecesH_at h
      simp only [List.length_cons, List.length_nil] at h3 h5
      refine ⟨t :: p, t', r, j, by rw [h1]; rfl, h2, by simp only [List.length_cons]; omega, h4, ?_, h6⟩
      rw [piecesH_cons, List.take_append, List.take_of_length_le (by simp; omega)]
      simp only [List.length_cons, List.length_nil]
      rw [h5, List.append_assoc]
/-- At each op all other deals ahead have ended. -/
theorem pieces_ended {a b : Int} {q : List Int} {i : Nat} {x : HOp} (hx : (piecesH a b q)[i]? = some x) : ∀ o ∈ (piecesH a b q).take i, o.tx ≠ x.tx → endIn o.tx ((piecesH a b q).take i) = true := by
  obtain ⟨p, t, r, j, h1, h2, h3, h4, h5, h6⟩ := piecesH_at hx
  intro o ho hne
  rw [h5] at ho ⊢
  rcases List.mem_append.1 ho with h7 | h7
  · have h8 := (piecesH_mem h7).1
    have h9 : endIn o.tx (piecesH a b p) = true := by rw [piecesH_end, decide_eq_true h8]
    unfold endIn at h9 ⊢
    rw [List.any_append, h9]; rfl
  · have h8 := List.mem_of_mem_take h7
    simp only [List.mem_cons, List.not_mem_nil, or_false] at h8
    exact absurd (by rcases h8 with rfl | rfl | rfl <;> exact h4.symm) hne
end Go.Proofs.YtaaahfbcpgdoiaaGreatDoor

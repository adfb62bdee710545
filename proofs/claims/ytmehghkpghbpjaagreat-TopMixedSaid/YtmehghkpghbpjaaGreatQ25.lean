
/-
  PLAIN: all orders in which ops of deals can come (mixL, mixesF): each has of each deal the same ops; no two are the same; none is left out.
  PLAIN: a runner's jobs come to an end: the rules.
  PLAIN: what is left to do for a runner, as a number.
  PLAIN: what a runner keeps (WInv), who waits no more (Pend).
-/
import Derived.Test.YtmehghkpghbpjaaGreatQ6
import Derived.Test.YtmehghkpghbpjaaGreatQ9
import Derived.Test.YtmehghkpghbpjaaGreatQ14

namespace Go.Proofs.YtmehghkpghbpjaaGreat
open Go.RowKit

def updM (f : Int → List HOp) (k : Int) (v : List HOp) : Int → List HOp := fun x => if x = k then v else f x
theorem updM_same (f : Int → List HOp) (k : Int) (v : List HOp) : updM f k v k = v := by unfold updM; rw [if_pos rfl]
theorem updM_ne {f : Int → List HOp} {k x : Int} {v : List HOp} (h : x ≠ k) : updM f k v x = f x := by unfold updM; rw [if_neg h]
def sixI : List Int := [1, 2, 3, 4, 5, 6]
/-- All orders of what is left of each deal, the least deal first, behind a beginning. -/
def mixL : Nat → (Int → List HOp) → List HOp → List (List HOp)
  | 0, _, b => [b]
  | n + 1, R, b => sixI.flatMap fun t => match R t with
    | [] => []
    | o :: r => mixL n (updM R t r) (b ++ [o])
def mixesF (h : List HOp) : List (List HOp) := mixL h.length (fun t => ownL h t) []
def totR (R : Int → List HOp) : Nat := (R 1).length + (R 2).length + (R 3).length + (R 4).length + (R 5).length + (R 6).length
theorem mem_six {t : Int} : t ∈ sixI ↔ 1 ≤ t ∧ t ≤ 6 := by simp [sixI]; omega
theorem totR_upd {R : Int → List HOp} {t : Int} (ht : t ∈ sixI) {o : HOp} {r : List HOp} (h : R t = o :: r) : totR (updM R t r) + 1 = totR R := by
  simp only [sixI, List.mem_cons, List.not_mem_nil, or_false] at ht
  rcases ht with rfl | rfl | rfl | rfl | rfl | rfl <;> simp [totR, updM, h] <;> omega
theorem totR_zero {R : Int → List HOp} (h : totR R = 0) {t : Int} (ht : t ∈ sixI) : R t = [] := by
  simp only [sixI, List.mem_cons, List.not_mem_nil, or_false] at ht
  unfold totR at h
  rcases ht with rfl | rfl | rfl | rfl | rfl | rfl <;> exact List.eq_nil_of_length_eq_zero (by omega)
theorem ownM_snoc (l : List HOp) (o : HOp) (t : Int) : ownL (l ++ [o]) t = ownL l t ++ (if o.tx = t then [o] else []) := by
  unfold ownL
  rw [List.filter_append]
  congr 1
  by_cases h : o.tx = t <;> simp [h]
/-- Each has of each deal the same ops. -/
theorem mix_own : ∀ (n : Nat) (R : Int → List HOp) (b : List HOp), (∀ t, ∀ o ∈ R t, o.tx = t) → totR R = n → ∀ m ∈ mixL n R b, (∀ t ∈ sixI, ownL m t = ownL b t ++ R t) ∧ m.length = b.length + n ∧ b <+: m ∧ (∀ o ∈ m, o ∈ b ∨ ∃ t ∈ sixI, o ∈ R t)
  | 0, R, b, _, h0, m, hm => by
    obtain rfl : m = b := by simpa [mixL] using hm
    exact ⟨fun t ht => by rw [totR_zero h0 ht, List.append_nil], rfl, List.prefix_refl _, fun o ho => .inl ho⟩
  | n + 1, R, b, hR, h0, m, hm => by
    unfold mixL at hm
    obtain ⟨t, ht, hm⟩ := List.mem_flatMap.1 hm
    cases hr : R t with
    | nil => rw [hr] at hm; cases hm
    | cons o r =>
      rw [hr] at hm
      simp only at hm
      have ho : o.tx = t := hR t o (by rw [hr]; exact List.mem_cons_self ..)
      have hR' : ∀ x, ∀ y ∈ updM R t r x, y.tx = x := fun x y hy => by
        unfold updM at hy
        split at hy
        · rename_i e; rw [e]; exact hR t y (by rw [hr]; exact List.mem_cons_of_mem _ hy)
        · exact hR x y hy
      have hn := totR_upd ht hr
      obtain ⟨h1, h2, h3, h4⟩ := mix_own n (updM R t r) (b ++ [o]) hR' (by omega) m hm
      refine ⟨fun x hx => ?_, by rw [h2]; simp; omega, (List.prefix_append b [o]).trans h3, fun y hy => ?_⟩
      · rw [h1 x hx, ownM_snoc]
        by_cases hxt : x = t
        · subst hxt
          rw [updM_same, if_pos ho, hr]; simp
        · rw [updM_ne hxt, if_neg (fun e => hxt (e.symm.trans ho))]; simp
      · rcases h4 y hy with h | ⟨x, hx, h⟩
        · rcases List.mem_append.1 h with h | h
          · exact .inl h
          · exact .inr ⟨t, ht, by rw [hr, List.mem_singleton.1 h]; exact List.mem_cons_self ..⟩
        · refine .inr ⟨x, hx, ?_⟩
          unfold updM at h
          split at h
          · rename_i e; rw [e, hr]; exact List.mem_cons_of_mem _ h
          · exact h
theorem prefix_at {b m : List HOp} {o : HOp} (h : b ++ [o] <+: m) : m[b.length]? = some o := by
  obtain ⟨z, rfl⟩ := h
  rw [List.append_assoc, List.getElem?_append_right (Nat.le_refl _)]
  simp
/-- Two unlike numbers are two unlike histories. -/
theorem mix_nodup : ∀ (n : Nat) (R : Int → List HOp) (b : List HOp), (∀ t, ∀ o ∈ R t, o.tx = t) → totR R = n → (mixL n R b).Nodup
  | 0, _, _, _, _ => by simp [mixL]
  | n + 1, R, b, hR, h0 => by
    unfold mixL
    rw [List.Nodup, List.pairwise_flatMap]
    have hp : ∀ t ∈ sixI, ∀ o r, R t = o :: r → (∀ x, ∀ y ∈ updM R t r x, y.tx = x) ∧ totR (updM R t r) = n := fun t ht o r hr => ⟨fun x y hy => by
        unfold updM at hy
        split at hy
        · rename_i e; rw [e]; exact hR t y (by rw [hr]; exact List.mem_cons_of_mem _ hy)
        · exact hR x y hy, by have := totR_upd ht hr; omega⟩
    refine ⟨fun t ht => ?_, ?_⟩
    · cases hr : R t with
      | nil => exact List.nodup_nil
      | cons o r =>
        obtain ⟨h1, h2⟩ := hp t ht o r hr
        exact mix_nodup n _ _ h1 h2
    · have hs : sixI.Pairwise (fun a b => a ≠ b) := by decide
      refine hs.imp_of_mem ?_
      intro t u ht hu hne m hm m2 hm2 hmm
      subst hmm
      cases hr : R t with
      | nil => rw [hr] at hm; cases hm
      | cons o r =>
        cases hr2 : R u with
        | nil => rw [hr2] at hm2; cases hm2
        | cons o2 r2 =>
          rw [hr] at hm
          rw [hr2] at hm2
          obtain ⟨h1, h2⟩ := hp t ht o r hr
          obtain ⟨h3, h4⟩ := hp u hu o2 r2 hr2
          have a := prefix_at (mix_own n _ _ h1 h2 m hm).2.2.1
          have c := prefix_at (mix_own n _ _ h3 h4 m hm2).2.2.1
          have e : o = o2 := Option.some.inj (a.symm.trans c)
          have e1 := hR t o (by rw [hr]; exact List.mem_cons_self ..)
          have e2 := hR u o2 (by rw [hr2]; exact List.mem_cons_self ..)
          exact hne (by rw [← e1, ← e2, e])
/-- Whatever has the same ops of each deal is there. -/
theorem mix_all : ∀ (m : List HOp) (R : Int → List HOp) (b : List HOp), (∀ o ∈ m, o.tx ∈ sixI) → (∀ t ∈ sixI, R t = ownL m t) → b ++ m ∈ mixL m.length R b
  | [], R, b, _, _ => by simp [mixL]
  | o :: m, R, b, hx, hR => by
    have ho := hx o (List.mem_cons_self ..)
    have hr : R o.tx = o :: ownL m o.tx := by rw [hR _ ho]; simp [ownL]
    rw [List.length_cons]
    unfold mixL
    refine List.mem_flatMap.2 ⟨o.tx, ho, ?_⟩
    rw [hr]
    have h := mix_all m (updM R o.tx (ownL m o.tx)) (b ++ [o]) (fun y hy => hx y (List.mem_cons_of_mem _ hy)) fun t ht => by
      unfold updM
      split
      · rename_i e; rw [e]
      · rename_i e
        rw [hR t ht]
        unfold ownL
        rw [List.filter_cons_of_neg]
        simpa using fun e2 => e e2.symm
    simpa using h
theorem own_tx (h : List HOp) (t : Int) : ∀ o ∈ ownL h t, o.tx = t := fun o ho => by
  unfold ownL at ho
  simpa using (List.mem_filter.1 ho).2
theorem tot_own : ∀ (h : List HOp), (∀ o ∈ h, o.tx ∈ sixI) → totR (fun t => ownL h t) = h.length
  | [], _ => rfl
  | o :: t, hx => by
    have ih := tot_own t fun y hy => hx y (List.mem_cons_of_mem _ hy)
    have ho := hx o (List.mem_cons_self ..)
    have hc : ∀ k : Int, (ownL (o :: t) k).length = (ownL t k).length + (if o.tx = k then 1 else 0) := fun k => by
      unfold ownL
      by_cases h : o.tx = k <;> simp [h]
    unfold totR at ih ⊢
    dsimp only at ih ⊢
    simp only [hc, List.length_cons]
    have h6 := mem_six.1 ho
    have : (if o.tx = 1 then 1 else 0) + (if o.tx = 2 then 1 else 0) + (if o.tx = 3 then 1 else 0) + (if o.tx = 4 then 1 else 0) + (if o.tx = 5 then 1 else 0) + (if o.tx = 6 then 1 else 0) = 1 := by
      have : o.tx = 1 ∨ o.tx = 2 ∨ o.tx = 3 ∨ o.tx = 4 ∨ o.tx = 5 ∨ o.tx = 6 := by omega
      rcases this with e | e | e | e | e | e <;> rw [e] <;> decide
    omega
theorem okH_six {h : List HOp} (hk : okH h) : ∀ o ∈ h, o.tx ∈ sixI := by
  intro o ho
  have := okH_right hk o ho
  unfold rightB txB at this
  simp only [Bool.and_eq_true, decide_eq_true_eq] at this
  exact mem_six.2 this.1.1
/-- Each order of a right history. -/
theorem mixes_own {h : List HOp} (hk : okH h) {m : List HOp} (hm : m ∈ mixesF h) : (∀ t ∈ sixI, ownL m t = ownL h t) ∧ m.length = h.length ∧ okH m := by
  obtain ⟨h1, h2, _, h4⟩ := mix_own h.length _ [] (own_tx h) (tot_own h (okH_six hk)) m hm
  have hl : m.length = h.length := by simpa using h2
  refine ⟨fun t ht => by rw [h1 t ht]; simp [ownL], hl, okH_iff.2 ⟨by rw [hl]; exact okH_len hk, fun o ho => ?_, fun t t1 t2 => ?_⟩⟩
  · rcases h4 o ho with h | ⟨t, _, h⟩
    · cases h
    · exact okH_right hk o ((List.mem_filter.1 h).1)
  · have e := h1 t (mem_six.2 ⟨t1, t2⟩)
    rw [e]
    have : ownL ([] : List HOp) t = [] := rfl
    rw [this, List.nil_append]
    exact (okH_iff.1 hk).2.2 t t1 t2
theorem mixes_nodup {h : List HOp} (hk : okH h) : (mixesF h).Nodup := mix_nodup _ _ _ (own_tx h) (tot_own h (okH_six hk))
theorem mixes_all {h m : List HOp} (hl : m.length = h.length) (hx : ∀ o ∈ m, o.tx ∈ sixI) (ho : ∀ t ∈ sixI, ownL m t = ownL h t) : m ∈ mixesF h := by
  have := mix_all m (fun t => ownL h t) [] hx fun t ht => (ho t ht).symm
  unfold mixesF
  rw [← hl]
  simpa using this
theorem flatMap_le {α β : Type} {f : α → List β} {c : Nat} : ∀ (l : List α), (∀ x ∈ l, (f x).length ≤ c) → (l.flatMap f).length ≤ l.length * c
  | [], _ => by simp
  | x :: l, h => by
    have ih := flatMap_le l fun y hy => h y (List.mem_cons_of_mem _ hy)
    have h1 := h x (List.mem_cons_self ..)
    rw [List.flatMap_cons, List.length_append, List.length_cons, Nat.succ_mul]
    omega
theorem mix_len : ∀ (n : Nat) (R : Int → List HOp) (b : List HOp), (mixL n R b).length ≤ 6 ^ n
  | 0, _, _ => by simp [mixL]
  | n + 1, R, b => by
    unfold mixL
    have := flatMap_le (f := fun t => match R t with | [] => [] | o :: r => mixL n (updM R t r) (b ++ [o])) (c := 6 ^ n) sixI fun t _ => by
      show (match R t with | [] => [] | o :: r => mixL n (updM R t r) (b ++ [o])).length ≤ 6 ^ n
      split
      · exact Nat.zero_le _
      · exact mix_len n _ _
    rw [Nat.pow_succ, Nat.mul_comm]
    exact this
theorem mixes_len {h : List HOp} (hl : h.length ≤ 8) : (mixesF h).length ≤ 1679616 := Nat.le_trans (mix_len _ _ _) (Nat.le_trans (Nat.pow_le_pow_right (by omega) hl) (by decide))
end Go.Proofs.YtmehghkpghbpjaaGreat


namespace Go.Proofs.YtmehghkpghbpjaaGreat
open Go.RowKit

/-- With enough fuel a job comes to an end. -/
def EndsJ (way : Int) (j : Job) (s s' : RSt) : Prop := ∃ N, ∀ k, N ≤ k → runJ way k j s = some s'
theorem EndsJ.free {way tx : Int} {s s' : RSt} (ht : txB tx = true) (h : EndsJ way (.go (freeS s.T tx).out) { s with T := freeT s.T tx } s') : EndsJ way (.free tx) s s' := by
  obtain ⟨N, h⟩ := h
  refine ⟨N + 1, fun k hk => ?_⟩
  obtain ⟨k, rfl⟩ : ∃ m, k = m + 1 := ⟨k - 1, by omega⟩
  unfold runJ
  rw [if_neg (by rw [ht]; simp)]
  exact h k (by omega)
theorem EndsJ.nil (way : Int) (s : RSt) : EndsJ way (.go []) s s := ⟨1, fun k hk => by
  obtain ⟨k, rfl⟩ : ∃ m, k = m + 1 := ⟨k - 1, by omega⟩
  rfl⟩
theorem EndsJ.skip {way : Int} {x : HOp} {t : List HOp} {s s' : RSt} (hw : s.wt x.tx = none) (h : EndsJ way (.go t) s s') : EndsJ way (.go (x :: t)) s s' := by
  obtain ⟨N, h⟩ := h
  refine ⟨N + 1, fun k hk => ?_⟩
  obtain ⟨k, rfl⟩ : ∃ m, k = m + 1 := ⟨k - 1, by omega⟩
  unfold runJ
  rw [hw]
  exact h k (by omega)
theorem EndsJ.cons {way : Int} {x o : HOp} {t : List HOp} {s s1 s' : RSt} (hw : s.wt x.tx = some o) (h1 : EndsJ way (.drain x.tx) { s with wt := updR s.wt x.tx none, told := s.told ++ [o] } s1) (h : EndsJ way (.go t) s1 s') : EndsJ way (.go (x :: t)) s s' := by
  obtain ⟨N, h⟩ := h
  obtain ⟨M, h1⟩ := h1
  refine ⟨N + M + 1, fun k hk => ?_⟩
  obtain ⟨k, rfl⟩ : ∃ m, k = m + 1 := ⟨k - 1, by omega⟩
  unfold runJ
  rw [hw]
  simp only
  rw [h1 k (by omega)]
  exact h k (by omega)
theorem EndsJ.drain0 {way tx : Int} {s : RSt} (h : s.bh tx = [] ∨ (s.wt tx).isSome = true) : EndsJ way (.drain tx) s s := ⟨1, fun k hk => by
  obtain ⟨k, rfl⟩ : ∃ m, k = m + 1 := ⟨k - 1, by omega⟩
  unfold runJ
  cases hb : s.bh tx with
  | nil => rfl
  | cons o t =>
    rcases h with h | h
    · rw [hb] at h; cases h
    · simp only; rw [if_pos h]⟩
theorem EndsJ.drain1 {way tx : Int} {o : HOp} {t : List HOp} {s s1 s' : RSt} (hb : s.bh tx = o :: t) (hw : s.wt tx = none) (h1 : EndsJ way (.doo o) { s with bh := updR s.bh tx t } s1) (h : EndsJ way (.drain tx) s1 s') : EndsJ way (.drain tx) s s' := by
  obtain ⟨N, h⟩ := h
  obtain ⟨M, h1⟩ := h1
  refine ⟨N + M + 1, fun k hk => ?_⟩
  obtain ⟨k, rfl⟩ : ∃ m, k = m + 1 := ⟨k - 1, by omega⟩
  unfold runJ
  rw [hb]
  simp only
  rw [hw, if_neg (by simp), h1 k (by omega)]
  exact h k (by omega)
theorem EndsJ.abort {way tx : Int} {s s' : RSt} (h : EndsJ way (.free tx) (s.aborts tx) s') : EndsJ way (.abort tx) s s' := by
  obtain ⟨N, h⟩ := h
  refine ⟨N + 1, fun k hk => ?_⟩
  obtain ⟨k, rfl⟩ : ∃ m, k = m + 1 := ⟨k - 1, by omega⟩
  unfold runJ
  exact h k (by omega)
theorem EndsJ.doEnd {way : Int} {o : HOp} {s s' : RSt} (he : endB o = true) (h : EndsJ way (.free o.tx) (s.tells o) s') : EndsJ way (.doo o) s s' := by
  obtain ⟨N, h⟩ := h
  refine ⟨N + 1, fun k hk => ?_⟩
  obtain ⟨k, rfl⟩ : ∃ m, k = m + 1 := ⟨k - 1, by omega⟩
  unfold runJ
  rw [if_pos he]
  exact h k (by omega)
theorem EndsJ.doHas {way : Int} {o : HOp} {s : RSt} (he : endB o = false) {T' : LTab} (ha : askF s.T (lockOf o) = (true, 0, T')) : EndsJ way (.doo o) s { s.tells o with T := T' } := ⟨1, fun k hk => by
  obtain ⟨k, rfl⟩ : ∃ m, k = m + 1 := ⟨k - 1, by omega⟩
  unfold runJ
  rw [if_neg (by rw [he]; simp), ha]
  rfl⟩
theorem EndsJ.doWaits {way : Int} {o : HOp} {s s' : RSt} (he : endB o = false) {T' : LTab} (ha : askF s.T (lockOf o) = (false, 0, T')) (h : EndsJ way (.avoid o.tx) { s with T := T', wt := updR s.wt o.tx (some o) } s') : EndsJ way (.doo o) s s' := by
  obtain ⟨N, h⟩ := h
  refine ⟨N + 1, fun k hk => ?_⟩
  obtain ⟨k, rfl⟩ : ∃ m, k = m + 1 := ⟨k - 1, by omega⟩
  unfold runJ
  rw [if_neg (by rw [he]; simp), ha]
  simp only [ne_eq, not_true_eq_false, if_false, Bool.false_eq_true]
  exact h k (by omega)
/-- Whom an avoiding deal aborts next. -/
def nextA (way : Int) (T : LTab) (tx : Int) : Option Int :=
  if way = 0 then (if rngF T tx = true then some tx else none)
  else if way = 1 then match whomF T tx with
    | [] => none
    | d :: _ => if tx < d then none else some tx
  else (whomF T tx).find? (fun d => decide (tx < d))
def againA (way : Int) : Bool := !decide (way = 0) && !decide (way = 1)
theorem EndsJ.avoid0 {way tx : Int} {s : RSt} (h : nextA way s.T tx = none) : EndsJ way (.avoid tx) s s := ⟨1, fun k hk => by
  obtain ⟨k, rfl⟩ : ∃ m, k = m + 1 := ⟨k - 1, by omega⟩
  unfold nextA at h
  unfold runJ
  by_cases h0 : way = 0
  · rw [if_pos h0] at h ⊢
    split at h
    · cases h
    · rename_i h1; rw [if_neg h1]
  · rw [if_neg h0] at h ⊢
    by_cases h1 : way = 1
    · rw [if_pos h1] at h ⊢
      split at h
      · rename_i e; rw [e]
      · rename_i d r e
        rw [e]
        simp only
        split at h
        · rename_i h2; rw [if_pos h2]
        · cases h
    · rw [if_neg h1] at h ⊢
      rw [h]⟩
theorem EndsJ.avoid1 {way tx d : Int} {s s1 s' : RSt} (h : nextA way s.T tx = some d) (h1 : EndsJ way (.abort d) s s1) (h2 : if againA way = true then EndsJ way (.avoid tx) s1 s' else s' = s1) : EndsJ way (.avoid tx) s s' := by
  obtain ⟨M, h1⟩ := h1
  have key : ∃ N, ∀ k, N ≤ k → againA way = true → runJ way k (.avoid tx) s1 = some s' := by
    by_cases ha : againA way = true
    · rw [if_pos ha] at h2
      obtain ⟨N, h2⟩ := h2
      exact ⟨N, fun k hk _ => h2 k hk⟩
    · exact ⟨0, fun k _ h => absurd h ha⟩
  obtain ⟨N, key⟩ := key
  refine ⟨N + M + 1, fun k hk => ?_⟩
  obtain ⟨k, rfl⟩ : ∃ m, k = m + 1 := ⟨k - 1, by omega⟩
  unfold nextA at h
  unfold runJ
  by_cases h0 : way = 0
  · rw [if_neg (by unfold againA; rw [h0]; decide)] at h2
    rw [if_pos h0] at h ⊢
    split at h
    · rename_i h3
      injection h with h
      rw [if_pos h3, h2, h]
      exact h1 k (by omega)
    · cases h
  · rw [if_neg h0] at h ⊢
    by_cases h3 : way = 1
    · rw [if_neg (by unfold againA; rw [h3]; decide)] at h2
      rw [if_pos h3] at h ⊢
      split at h
      · cases h
      · rename_i d' r e
        rw [e]
        simp only
        split at h
        · cases h
        · rename_i h4
          injection h with h
          rw [if_neg h4, h2, h]
          exact h1 k (by omega)
    · rw [if_neg h3] at h ⊢
      rw [h]
      simp only
      rw [h1 k (by omega)]
      exact key k (by omega) (by unfold againA; simp [h0, h3])
end Go.Proofs.YtmehghkpghbpjaaGreat


namespace Go.Proofs.YtmehghkpghbpjaaGreat
open Go.RowKit

/-! ### What is left to do, as a number. -/
def hN (H : List HOp) : Nat := (sixI.filter fun t => H.any (ofTx t)).length
def bN (bh : Int → List HOp) : Nat := (bh 1).length + (bh 2).length + (bh 3).length + (bh 4).length + (bh 5).length + (bh 6).length
def tabN (T : LTab) : Nat := 2 * T.W.length + hN T.H
def phi (s : RSt) : Nat := 4 * bN s.bh + tabN s.T
def mu (s : RSt) : Nat := s.told.length + phi s
theorem filter_or_one {p q : Int → Bool} {x : Int} (h : ∀ t, p t = true → q t = true ∨ t = x) : ∀ (l : List Int), l.Nodup → (l.filter p).length ≤ (l.filter q).length + 1
  | [], _ => by simp
  | t :: l, hn => by
    obtain ⟨h1, h2⟩ := List.nodup_cons.1 hn
    have ih := filter_or_one h l h2
    by_cases hp : p t = true
    · rw [List.filter_cons_of_pos hp]
      by_cases hq : q t = true
      · rw [List.filter_cons_of_pos hq]; simp only [List.length_cons]; omega
      · rw [List.filter_cons_of_neg hq]
        have hx : t = x := (h t hp).resolve_left hq
        have : (l.filter p).length ≤ (l.filter q).length := by
          have he : ∀ y ∈ l, p y = true → q y = true := fun y hy hpy => (h y hpy).resolve_right (fun e => h1 (by rw [hx, ← e]; exact hy))
          clear ih h2 hn h1
          induction l with
          | nil => simp
          | cons y l ih2 =>
            have ih3 := ih2 fun z hz => he z (List.mem_cons_of_mem _ hz)
            by_cases hpy : p y = true
            · rw [List.filter_cons_of_pos hpy, List.filter_cons_of_pos (he y (List.mem_cons_self ..) hpy)]
              simp only [List.length_cons]; omega
            · rw [List.filter_cons_of_neg hpy]
              by_cases hqy : q y = true
              · rw [List.filter_cons_of_pos hqy]; simp only [List.length_cons]; omega
              · rw [List.filter_cons_of_neg hqy]; exact ih3
        simp only [List.length_cons]; omega
    · rw [List.filter_cons_of_neg hp]
      by_cases hq : q t = true
      · rw [List.filter_cons_of_pos hq]; simp only [List.length_cons]; omega
      · rw [List.filter_cons_of_neg hq]; exact ih
theorem hN_hold (H : List HOp) (l : HOp) : hN (holdL H l) ≤ hN H + 1 := by
  unfold hN
  refine filter_or_one (x := l.tx) (fun t ht => ?_) sixI (by decide)
  obtain ⟨y, hy, he⟩ := List.any_eq_true.1 ht
  rcases mem_holdL' hy with rfl | hy
  · exact .inr (by simp [ofTx] at he; exact he.symm)
  · exact .inl (List.any_eq_true.2 ⟨y, hy, he⟩)
theorem filter_le_of {p q : Int → Bool} (h : ∀ t, p t = true → q t = true) : ∀ (l : List Int), (l.filter p).length ≤ (l.filter q).length
  | [] => by simp
  | t :: l => by
    have ih := filter_le_of h l
    by_cases hp : p t = true
    · rw [List.filter_cons_of_pos hp, List.filter_cons_of_pos (h t hp)]; simp only [List.length_cons]; omega
    · rw [List.filter_cons_of_neg hp]
      by_cases hq : q t = true
      · rw [List.filter_cons_of_pos hq]; simp only [List.length_cons]; omega
      · rw [List.filter_cons_of_neg hq]; exact ih
theorem filter_lt_of {p q : Int → Bool} (h : ∀ t, p t = true → q t = true) {x : Int} (hp : p x = false) (hq : q x = true) : ∀ (l : List Int), x ∈ l → (l.filter p).length + 1 ≤ (l.filter q).length
  | t :: l, hm => by
    by_cases e : t = x
    · subst e
      rw [List.filter_cons_of_neg (by rw [hp]; simp), List.filter_cons_of_pos hq]
      have := filter_le_of h l
      simp only [List.length_cons]; omega
    · have ih := filter_lt_of h hp hq l ((List.mem_cons.1 hm).resolve_left fun e2 => e e2.symm)
      by_cases hpt : p t = true
      · rw [List.filter_cons_of_pos hpt, List.filter_cons_of_pos (h t hpt)]; simp only [List.length_cons]; omega
      · rw [List.filter_cons_of_neg hpt]
        by_cases hqt : q t = true
        · rw [List.filter_cons_of_pos hqt]; simp only [List.length_cons]; omega
        · rw [List.filter_cons_of_neg hqt]; exact ih
theorem hN_drop (H : List HOp) (tx : Int) : hN (H.filter (notTx tx)) ≤ hN H ∧ (tx ∈ sixI → H.any (ofTx tx) = true → hN (H.filter (notTx tx)) + 1 ≤ hN H) := by
  have hi : ∀ t, (H.filter (notTx tx)).any (ofTx t) = true → H.any (ofTx t) = true := fun t ht => by
    obtain ⟨y, hy, he⟩ := List.any_eq_true.1 ht
    exact List.any_eq_true.2 ⟨y, (List.mem_filter.1 hy).1, he⟩
  refine ⟨filter_le_of hi sixI, fun h6 ha => filter_lt_of hi ?_ ha sixI h6⟩
  rw [List.any_eq_false]
  intro y hy he
  have h1 := (List.mem_filter.1 hy).2
  simp [notTx] at h1
  simp [ofTx] at he
  exact h1 he
theorem free_fold : ∀ (r : List HOp) (s : FSt), 2 * (r.foldl freeStep s).left.length + hN (r.foldl freeStep s).H + (r.foldl freeStep s).out.length ≤ 2 * s.left.length + hN s.H + s.out.length + 2 * r.length
  | [], s => by simp
  | x :: r, s => by
    have ih := free_fold r (freeStep s x)
    rw [List.foldl_cons]
    have h1 : 2 * (freeStep s x).left.length + hN (freeStep s x).H + (freeStep s x).out.length ≤ 2 * s.left.length + hN s.H + s.out.length + 2 := by
      unfold freeStep
      split
      · have := hN_hold s.H x
        simp only [List.length_append, List.length_singleton]; omega
      · simp only [List.length_append, List.length_singleton]; omega
    simp only [List.length_cons]
    omega
/-- A deal stands in a table. -/
def inT (T : LTab) (tx : Int) : Bool := T.H.any (ofTx tx) || T.W.any (ofTx tx)
theorem filter_drop_len {W : List HOp} {tx : Int} : (W.filter (notTx tx)).length ≤ W.length ∧ (W.any (ofTx tx) = true → (W.filter (notTx tx)).length + 1 ≤ W.length) := by
  refine ⟨List.length_filter_le _ _, fun h => ?_⟩
  obtain ⟨y, hy, he⟩ := List.any_eq_true.1 h
  have h2 : notTx tx y = false := by simpa [notTx, ofTx] using he
  have := (List.length_filter_lt_length_iff_exists (p := notTx tx) (l := W)).2 ⟨y, hy, by rw [h2]; simp⟩
  omega
theorem tabN_free (T : LTab) (tx : Int) : tabN (freeT T tx) + (freeS T tx).out.length ≤ tabN T ∧ (tx ∈ sixI → inT T tx = true → tabN (freeT T tx) + (freeS T tx).out.length + 1 ≤ tabN T) := by
  have h1 := free_fold (T.W.filter (notTx tx)) ⟨T.H.filter (notTx tx), [], []⟩
  have h2 := hN_drop T.H tx
  have h3 := filter_drop_len (W := T.W) (tx := tx)
  have e : tabN (freeT T tx) + (freeS T tx).out.length ≤ hN (T.H.filter (notTx tx)) + 2 * (T.W.filter (notTx tx)).length := by
    unfold tabN freeT freeS
    simp only [List.length_nil] at h1 ⊢
    omega
  refine ⟨by unfold tabN at *; omega, fun h6 hin => ?_⟩
  unfold inT at hin
  rw [Bool.or_eq_true] at hin
  rcases hin with hin | hin
  · have := h2.2 h6 hin; unfold tabN at *; omega
  · have := h3.2 hin; unfold tabN at *; omega
theorem tabN_ask (T : LTab) (l : HOp) : tabN (askF T l).2.2 ≤ tabN T + 2 ∧ ((askF T l).1 = true → tabN (askF T l).2.2 ≤ tabN T + 1) := by
  unfold askF
  split
  · exact ⟨by simp only; omega, fun h => by cases h⟩
  · split
    · exact ⟨by simp only; omega, fun h => by cases h⟩
    · split
      · exact ⟨by simp only; omega, fun _ => by simp only; omega⟩
      · split
        · have := hN_hold T.H l
          exact ⟨by simp only [tabN]; omega, fun _ => by simp only [tabN]; omega⟩
        · exact ⟨by simp only [tabN, List.length_append, List.length_singleton]; omega, fun h => by cases h⟩
theorem bN_upd {bh : Int → List HOp} {t : Int} (ht : t ∈ sixI) (v : List HOp) : bN (updR bh t v) + (bh t).length = bN bh + v.length := by
  simp only [sixI, List.mem_cons, List.not_mem_nil, or_false] at ht
  rcases ht with rfl | rfl | rfl | rfl | rfl | rfl <;> simp [bN, updR] <;> omega
end Go.Proofs.YtmehghkpghbpjaaGreat


namespace Go.Proofs.YtmehghkpghbpjaaGreat
open Go.RowKit

/-! ### A runner comes to an end. -/
structure WInv (s : RSt) : Prop where
  inv : LInv s.T
  wt : ∀ tx o, s.wt tx = some o → o.tx = tx ∧ rightB o = true ∧ endB o = false
  tab : ∀ l ∈ s.T.W, (s.wt l.tx).isSome = true
  bh : ∀ tx, ∀ o ∈ s.bh tx, o.tx = tx ∧ rightB o = true
/-- The same, but for what a deal's own lock waits for. -/
structure WInvX (s : RSt) (tx : Int) : Prop where
  inv : LInv s.T
  wt : ∀ tx o, s.wt tx = some o → o.tx = tx ∧ rightB o = true ∧ endB o = false
  tab : ∀ l ∈ s.T.W, l.tx ≠ tx → (s.wt l.tx).isSome = true
  bh : ∀ tx, ∀ o ∈ s.bh tx, o.tx = tx ∧ rightB o = true
theorem WInv.x {s : RSt} (h : WInv s) (tx : Int) : WInvX s tx := ⟨h.inv, h.wt, fun l hl _ => h.tab l hl, h.bh⟩
/-- A deal that goes no further by itself: nothing stands behind it and it waits not, or it waits, but not in the table. -/
def Pend (s : RSt) (t : Int) : Prop := (s.wt t = none ∧ s.bh t = []) ∨ ((s.wt t).isSome = true ∧ s.T.W.any (ofTx t) = false)
theorem EndsJ.told {way : Int} {j : Job} {s s' : RSt} (h : EndsJ way j s s') : s.told.length ≤ s'.told.length := by
  obtain ⟨N, h⟩ := h
  exact (runJ_told _ _ _ _ (h N (Nat.le_refl _))).1
theorem right_six {o : HOp} (h : rightB o = true) : o.tx ∈ sixI := by
  unfold rightB txB at h
  simp only [Bool.and_eq_true, decide_eq_true_eq] at h
  exact mem_six.2 h.1.1
theorem right_txB {o : HOp} (h : rightB o = true) : txB o.tx = true := by
  unfold rightB at h
  simp only [Bool.and_eq_true] at h
  exact h.1.1
theorem endB_endsB (o : HOp) : endB o = endsB o := by
  unfold endB endsB
  by_cases h1 : o.what = 3 <;> by_cases h2 : o.what = 4 <;> simp [h1, h2]
theorem lock_right {o : HOp} (h : rightB o = true) (he : endB o = false) : lrightB (lockOf o) = true := by
  rw [endB_endsB] at he
  unfold rightB at h
  rw [he] at h
  simp only [Bool.and_eq_true, Bool.false_eq_true, if_false] at h
  unfold lrightB lockOf
  simp only [Bool.and_eq_true]
  refine ⟨h.1.1, h.2, ?_⟩
  by_cases hw : o.what = 2 <;> simp [hw]
theorem fold_perm : ∀ (r : List HOp) (s : FSt), ((r.foldl freeStep s).left ++ (r.foldl freeStep s).out).Perm (s.left ++ s.out ++ r)
  | [], s => by simp
  | x :: r, s => by
    rw [List.foldl_cons]
    refine (fold_perm r (freeStep s x)).trans ?_
    unfold freeStep
    split
    · have : (s.left ++ (s.out ++ [x]) ++ r) = s.left ++ s.out ++ (x :: r) := by simp
      rw [this]
    · have h1 : (s.left ++ [x] ++ s.out ++ r).Perm (s.left ++ s.out ++ ([x] ++ r)) := by
        rw [List.append_assoc, List.append_assoc, List.append_assoc]
        refine List.Perm.append_left _ ?_
        rw [← List.append_assoc, ← List.append_assoc]
        exact List.Perm.append_right _ List.perm_append_comm
      exact h1
theorem freeS_perm (T : LTab) (tx : Int) : ((freeT T tx).W ++ (freeS T tx).out).Perm (T.W.filter (notTx tx)) := by
  have := fold_perm (T.W.filter (notTx tx)) ⟨T.H.filter (notTx tx), [], []⟩
  simpa [freeT, freeS] using this
theorem freeS_out {T : LTab} (I : LInv T) (tx : Int) : ((freeS T tx).out.map (·.tx)).Nodup ∧ (∀ x ∈ (freeS T tx).out, x ∈ T.W ∧ x.tx ≠ tx ∧ (freeT T tx).W.any (ofTx x.tx) = false) ∧ (∀ y ∈ (freeT T tx).W, y ∈ T.W ∧ y.tx ≠ tx) := by
  have hp := freeS_perm T tx
  have hn : (((freeT T tx).W ++ (freeS T tx).out).map (·.tx)).Nodup := by
    refine (hp.map (·.tx)).nodup_iff.2 ?_
    exact I.wtx.sublist (List.filter_sublist.map _)
  rw [List.map_append] at hn
  obtain ⟨h1, h2, h3⟩ := List.nodup_append.1 hn
  have hm : ∀ z ∈ (freeT T tx).W ++ (freeS T tx).out, z ∈ T.W ∧ z.tx ≠ tx := fun z hz => by
    have h4 := List.mem_filter.1 (hp.mem_iff.1 hz)
    exact ⟨h4.1, by simpa [notTx] using h4.2⟩
  refine ⟨h2, fun x hx => ⟨(hm x (List.mem_append_right _ hx)).1, (hm x (List.mem_append_right _ hx)).2, ?_⟩, fun y hy => hm y (List.mem_append_left _ hy)⟩
  rw [List.any_eq_false]
  intro y hy he
  simp [ofTx] at he
  exact h3 y.tx (List.mem_map.2 ⟨y, hy, rfl⟩) x.tx (List.mem_map.2 ⟨x, hx, rfl⟩) he
theorem whom_inT {T : LTab} {tx d : Int} (h : d ∈ whomF T tx) : inT T d = true := by
  unfold whomF at h
  split at h
  · cases h
  · unfold forF at h
    rw [mem_sortS] at h
    obtain ⟨x, hx, rfl⟩ := List.mem_map.1 h
    unfold inT
    rw [Bool.or_eq_true]
    rcases List.mem_append.1 (List.mem_filter.1 hx).1 with hm | hm
    · exact .inl (List.any_eq_true.2 ⟨x, hm, by simp [ofTx]⟩)
    · exact .inr (List.any_eq_true.2 ⟨x, (List.takeWhile_prefix _).subset hm, by simp [ofTx]⟩)
theorem whom_waits {T : LTab} {tx : Int} (h : whomF T tx ≠ []) : inT T tx = true ∧ ∃ l ∈ T.W, l.tx = tx := by
  unfold whomF at h
  split at h
  · exact absurd rfl h
  · rename_i l hl
    obtain ⟨h1, h2⟩ := find_ofTx hl
    refine ⟨?_, l, h1, h2⟩
    unfold inT
    rw [Bool.or_eq_true]
    exact .inr (List.any_eq_true.2 ⟨l, h1, by simp [ofTx, h2]⟩)
theorem nextA_in {way : Int} {T : LTab} (I : LInv T) {tx d : Int} (h : nextA way T tx = some d) : inT T d = true ∧ d ∈ sixI := by
  have hw : whomF T tx ≠ [] → inT T tx = true ∧ tx ∈ sixI := fun hne => by
    obtain ⟨h1, l, h2, h3⟩ := whom_waits hne
    obtain ⟨a1, a2, _⟩ := lright_get (I.rightW l h2)
    exact ⟨h1, mem_six.2 ⟨by rw [← h3]; exact a1, by rw [← h3]; exact a2⟩⟩
  unfold nextA at h
  split at h
  · split at h
    · rename_i hr
      injection h with h
      subst h
      refine hw fun hne => ?_
      unfold rngF rngGo at hr
      rw [hne] at hr
      simp [rngIn, rngGo] at hr
    · cases h
  · split at h
    · split at h
      · cases h
      · rename_i d' r he
        split at h
        · cases h
        · injection h with h
          subst h
          exact hw (by rw [he]; simp)
    · have hm := List.mem_of_find?_eq_some h
      obtain ⟨a1, a2⟩ := whomF_rng I hm
      exact ⟨whom_inT hm, mem_six.2 ⟨a1, a2⟩⟩
end Go.Proofs.YtmehghkpghbpjaaGreat

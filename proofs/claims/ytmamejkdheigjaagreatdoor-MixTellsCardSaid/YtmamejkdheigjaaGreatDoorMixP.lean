
/-
  PLAIN: all orders in which ops of deals can come (mixL, mixesF): each has of each deal the same ops; no two are the same; none is left out.
-/
import Derived.Test.YtmamejkdheigjaaGreatDoorN1
import Derived.Test.YtmamejkdheigjaaGreatDoorM1

namespace Go.Proofs.YtmamejkdheigjaaGreatDoor
open Go.RowKit

def updM (f : Int → List HOp) (k : Int) (v : List HOp) : Int → List HOp := fun x => if x = k then v else f x
theorem updM_same (f : Int → List HOp) (k : Int) (v : List HOp) : updM f k v k = v := by unfold updM; rw [if_pos rfl]
theorem updM_ne {f : Int → List HOp} {k x : Int} {v : List HOp} (h : x ≠ k) : updM f k v x = f x := by unfold updM; rw [if_neg h]
def sixI : List Int := [1, 2, 3, 4, 5, 6]
/-- All orders of what is left of each deal, the least deal first, behind a beginning. -/
def mixL : Nat → (Int → List HOp) → List HOp → List (List HOp)
  | 0, _, b => [b]
  | n + 1, R, b => sixI.flatMap fun t => match R t with
    | [] => []
    | o :: r => mixL n (updM R t r) (b ++ [o])
def mixesF (h : List HOp) : List (List HOp) := mixL h.length (fun t => ownL h t) []
def totR (R : Int → List HOp) : Nat := (R 1).length + (R 2).length + (R 3).length + (R 4).length + (R 5).length + (R 6).length
theorem mem_six {t : Int} : t ∈ sixI ↔ 1 ≤ t ∧ t ≤ 6 := by simp [sixI]; omega
theorem totR_upd {R : Int → List HOp} {t : Int} (ht : t ∈ sixI) {o : HOp} {r : List HOp} (h : R t = o :: r) : totR (updM R t r) + 1 = totR R := by
  simp only [sixI, List.mem_cons, List.not_mem_nil, or_false] at ht
  rcases ht with rfl | rfl | rfl | rfl | rfl | rfl <;> simp [totR, updM, h] <;> omega
theorem totR_zero {R : Int → List HOp} (h : totR R = 0) {t : Int} (ht : t ∈ sixI) : R t = [] := by
  simp only [sixI, List.mem_cons, List.not_mem_nil, or_false] at ht
  unfold totR at h
  rcases ht with rfl | rfl | rfl | rfl | rfl | rfl <;> exact List.eq_nil_of_length_eq_zero (by omega)
theorem ownM_snoc (l : List HOp) (o : HOp) (t : Int) : ownL (l ++ [o]) t = ownL l t ++ (if o.tx = t then [o] else []) := by
  unfold ownL
  rw [List.filter_append]
  congr 1
  by_cases h : o.tx = t <;> simp [h]
/-- Each has of each deal the same ops. -/
theorem mix_own : ∀ (n : Nat) (R : Int → List HOp) (b : List HOp), (∀ t, ∀ o ∈ R t, o.tx = t) → totR R = n → ∀ m ∈ mixL n R b, (∀ t ∈ sixI, ownL m t = ownL b t ++ R t) ∧ m.length = b.length + n ∧ b <+: m ∧ (∀ o ∈ m, o ∈ b ∨ ∃ t ∈ sixI, o ∈ R t)
  | 0, R, b, _, h0, m, hm => by
    obtain rfl : m = b := by simpa [mixL] using hm
    exact ⟨fun t ht => by rw [totR_zero h0 ht, List.append_nil], rfl, List.prefix_refl _, fun o ho => .inl ho⟩
  | n + 1, R, b, hR, h0, m, hm => by
    unfold mixL at hm
    obtain ⟨t, ht, hm⟩ := List.mem_flatMap.1 hm
    cases hr : R t with
    | nil => rw [hr] at hm; cases hm
    | cons o r =>
      rw [hr] at hm
      simp only at hm
      have ho : o.tx = t := hR t o (by rw [hr]; exact List.mem_cons_self ..)
      have hR' : ∀ x, ∀ y ∈ updM R t r x, y.tx = x := fun x y hy => by
        unfold updM at hy
        split at hy
        · rename_i e; rw [e]; exact hR t y (by rw [hr]; exact List.mem_cons_of_mem _ hy)
        · exact hR x y hy
      have hn := totR_upd ht hr
      obtain ⟨h1, h2, h3, h4⟩ := mix_own n (updM R t r) (b ++ [o]) hR' (by omega) m hm
      refine ⟨fun x hx => ?_, by rw [h2]; simp; omega, (List.prefix_append b [o]).trans h3, fun y hy => ?_⟩
      · rw [h1 x hx, ownM_snoc]
        by_cases hxt : x = t
        · subst hxt
          rw [updM_same, if_pos ho, hr]; simp
        · rw [updM_ne hxt, if_neg (fun e => hxt (e.symm.trans ho))]; simp
      · rcases h4 y hy with h | ⟨x, hx, h⟩
        · rcases List.mem_append.1 h with h | h
          · exact .inl h
          · exact .inr ⟨t, ht, by rw [hr, List.mem_singleton.1 h]; exact List.mem_cons_self ..⟩
        · refine .inr ⟨x, hx, ?_⟩
          unfold updM at h
          split at h
          · rename_i e; rw [e, hr]; exact List.mem_cons_of_mem _ h
          · exact h
theorem prefix_at {b m : List HOp} {o : HOp} (h : b ++ [o] <+: m) : m[b.length]? = some o := by
  obtain ⟨z, rfl⟩ := h
  rw [List.append_assoc, List.getElem?_append_right (Nat.le_refl _)]
  simp
/-- Two unlike numbers are two unlike histories. -/
theorem mix_nodup : ∀ (n : Nat) (R : Int → List HOp) (b : List HOp), (∀ t, ∀ o ∈ R t, o.tx = t) → totR R = n → (mixL n R b).Nodup
  | 0, _, _, _, _ => by simp [mixL]
  | n + 1, R, b, hR, h0 => by
    unfold mixL
    rw [List.Nodup, List.pairwise_flatMap]
    have hp : ∀ t ∈ sixI, ∀ o r, R t = o :: r → (∀ x, ∀ y ∈ updM R t r x, y.tx = x) ∧ totR (updM R t r) = n := fun t ht o r hr => ⟨fun x y hy => by
        unfold updM at hy
        split at hy
        · rename_i e; rw [e]; exact hR t y (by rw [hr]; exact List.mem_cons_of_mem _ hy)
        · exact hR x y hy, by have := totR_upd ht hr; omega⟩
    refine ⟨fun t ht => ?_, ?_⟩
    · cases hr : R t with
      | nil => exact List.nodup_nil
      | cons o r =>
        obtain ⟨h1, h2⟩ := hp t ht o r hr
        exact mix_nodup n _ _ h1 h2
    · have hs : sixI.Pairwise (fun a b => a ≠ b) := by decide
      refine hs.imp_of_mem ?_
      intro t u ht hu hne m hm m2 hm2 hmm
      subst hmm
      cases hr : R t with
      | nil => rw [hr] at hm; cases hm
      | cons o r =>
        cases hr2 : R u with
        | nil => rw [hr2] at hm2; cases hm2
        | cons o2 r2 =>
          rw [hr] at hm
          rw [hr2] at hm2
          obtain ⟨h1, h2⟩ := hp t ht o r hr
          obtain ⟨h3, h4⟩ := hp u hu o2 r2 hr2
          have a := prefix_at (mix_own n _ _ h1 h2 m hm).2.2.1
          have c := prefix_at (mix_own n _ _ h3 h4 m hm2).2.2.1
          have e : o = o2 := Option.some.inj (a.symm.trans c)
          have e1 := hR t o (by rw [hr]; exact List.mem_cons_self ..)
          have e2 := hR u o2 (by rw [hr2]; exact List.mem_cons_self ..)
          exact hne (by rw [← e1, ← e2, e])
/-- Whatever has the same ops of each deal is there. -/
theorem mix_all : ∀ (m : List HOp) (R : Int → List HOp) (b : List HOp), (∀ o ∈ m, o.tx ∈ sixI) → (∀ t ∈ sixI, R t = ownL m t) → b ++ m ∈ mixL m.length R b
  | [], R, b, _, _ => by simp [mixL]
  | o :: m, R, b, hx, hR => by
    have ho := hx o (List.mem_cons_self ..)
    have hr : R o.tx = o :: ownL m o.tx := by rw [hR _ ho]; simp [ownL]
    rw [List.length_cons]
    unfold mixL
    refine List.mem_flatMap.2 ⟨o.tx, ho, ?_⟩
    rw [hr]
    have h := mix_all m (updM R o.tx (ownL m o.tx)) (b ++ [o]) (fun y hy => hx y (List.mem_cons_of_mem _ hy)) fun t ht => by
      unfold updM
      split
      · rename_i e; rw [e]
      · rename_i e
        rw [hR t ht]
        unfold ownL
        rw [List.filter_cons_of_neg]
        simpa using fun e2 => e e2.symm
    simpa using h
theorem own_tx (h : List HOp) (t : Int) : ∀ o ∈ ownL h t, o.tx = t := fun o ho => by
  unfold ownL at ho
  simpa using (List.mem_filter.1 ho).2
theorem tot_own : ∀ (h : List HOp), (∀ o ∈ h, o.tx ∈ sixI) → totR (fun t => ownL h t) = h.length
  | [], _ => rfl
  | o :: t, hx => by
    have ih := tot_own t fun y hy => hx y (List.mem_cons_of_mem _ hy)
    have ho := hx o (List.mem_cons_self ..)
    have hc : ∀ k : Int, (ownL (o :: t) k).length = (ownL t k).length + (if o.tx = k then 1 else 0) := fun k => by
      unfold ownL
      by_cases h : o.tx = k <;> simp [h]
    unfold totR at ih ⊢
    dsimp only at ih ⊢
    simp only [hc, List.length_cons]
    have h6 := mem_six.1 ho
    have : (if o.tx = 1 then 1 else 0) + (if o.tx = 2 then 1 else 0) + (if o.tx = 3 then 1 else 0) + (if o.tx = 4 then 1 else 0) + (if o.tx = 5 then 1 else 0) + (if o.tx = 6 then 1 else 0) = 1 := by
      have : o.tx = 1 ∨ o.tx = 2 ∨ o.tx = 3 ∨ o.tx = 4 ∨ o.tx = 5 ∨ o.tx = 6 := by omega
      rcases this with e | e | e | e | e | e <;> rw [e] <;> decide
    omega
theorem okH_six {h : List HOp} (hk : okH h) : ∀ o ∈ h, o.tx ∈ sixI := by
  intro o ho
  have := okH_right hk o ho
  unfold rightB txB at this
  simp only [Bool.and_eq_true, decide_eq_true_eq] at this
  exact mem_six.2 this.1.1
/-- Each order of a right history. -/
theorem mixes_own {h : List HOp} (hk : okH h) {m : List HOp} (hm : m ∈ mixesF h) : (∀ t ∈ sixI, ownL m t = ownL h t) ∧ m.length = h.length ∧ okH m := by
  obtain ⟨h1, h2, _, h4⟩ := mix_own h.length _ [] (own_tx h) (tot_own h (okH_six hk)) m hm
  have hl : m.length = h.length := by simpa using h2
  refine ⟨fun t ht => by rw [h1 t ht]; simp [ownL], hl, okH_iff.2 ⟨by rw [hl]; exact okH_len hk, fun o ho => ?_, fun t t1 t2 => ?_⟩⟩
  · rcases h4 o ho with h | ⟨t, _, h⟩
    · cases h
    · exact okH_right hk o ((List.mem_filter.1 h).1)
  · have e := h1 t (mem_six.2 ⟨t1, t2⟩)
    rw [e]
    have : ownL ([] : List HOp) t = [] := rfl
    rw [this, List.nil_append]
    exact (okH_iff.1 hk).2.2 t t1 t2
theorem mixes_nodup {h : List HOp} (hk : okH h) : (mixesF h).Nodup := mix_nodup _ _ _ (own_tx h) (tot_own h (okH_six hk))
theorem mixes_all {h m : List HOp} (hl : m.length = h.length) (hx : ∀ o ∈ m, o.tx ∈ sixI) (ho : ∀ t ∈ sixI, ownL m t = ownL h t) : m ∈ mixesF h := by
  have := mix_all m (fun t => ownL h t) [] hx fun t ht => (ho t ht).symm
  unfold mixesF
  rw [← hl]
  simpa using this
theorem flatMap_le {α β : Type} {f : α → List β} {c : Nat} : ∀ (l : List α), (∀ x ∈ l, (f x).length ≤ c) → (l.flatMap f).length ≤ l.length * c
  | [], _ => by simp
  | x :: l, h => by
    have ih := flatMap_le l fun y hy => h y (List.mem_cons_of_mem _ hy)
    have h1 := h x (List.mem_cons_self ..)
    rw [List.flatMap_cons, List.length_append, List.length_cons, Nat.succ_mul]
    omega
theorem mix_len : ∀ (n : Nat) (R : Int → List HOp) (b : List HOp), (mixL n R b).length ≤ 6 ^ n
  | 0, _, _ => by simp [mixL]
  | n + 1, R, b => by
    unfold mixL
    have := flatMap_le (f := fun t => match R t with | [] => [] | o :: r => mixL n (updM R t r) (b ++ [o])) (c := 6 ^ n) sixI fun t _ => by
      show (match R t with | [] => [] | o :: r => mixL n (updM R t r) (b ++ [o])).length ≤ 6 ^ n
      split
      · exact Nat.zero_le _
      · exact mix_len n _ _
    rw [Nat.pow_succ, Nat.mul_comm]
    exact this
theorem mixes_len {h : List HOp} (hl : h.length ≤ 8) : (mixesF h).length ≤ 1679616 := Nat.le_trans (mix_len _ _ _) (Nat.le_trans (Nat.pow_le_pow_right (by omega) hl) (by decide))
end Go.Proofs.YtmamejkdheigjaaGreatDoor

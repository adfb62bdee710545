
/-
  PLAIN LAWS for GraphTells: the ways that a table tells are those that a walk from one deal finds; the reference's names.
  PLAIN LAWS for GraphTells: the reference's order is that which takes the least deal that is ready, time and again.
-/
import Derived.Test.YtaaahfbcpgdoiaaGreatDoorQ14
import Derived.Test.YtaaahfbcpgdoiaaGreatDoorQ15
import Derived.Test.YtaaahfbcpgdoiaaGreatDoorQ13

namespace Go.Proofs.YtaaahfbcpgdoiaaGreatDoor
open Go.RowKit

/-! ### The table of ways. -/
def cl (T : List Bool) (i k : Nat) : Bool := T.getD (i * 7 + k) false
theorem cl_set (T : List Bool) (hT : T.length = 49) {i k i' k' : Nat} (hi : i ≤ 6) (hk : k ≤ 6) (hk' : k' ≤ 6) : cl (T.set (i * 7 + k) true) i' k' = if i' = i ∧ k' = k then true else cl T i' k' := by
  unfold cl
  rw [List.getD_eq_getElem?_getD, List.getD_eq_getElem?_getD, List.getElem?_set]
  by_cases h : i' = i ∧ k' = k
  · obtain ⟨rfl, rfl⟩ := h
    rw [if_pos rfl, if_pos (by omega), if_pos ⟨rfl, rfl⟩]; rfl
  · rw [if_neg (by omega), if_neg h]
theorem cl_step (T : List Bool) (hT : T.length = 49) {m i k i' k' : Nat} (hi : i ≤ 6) (hk : k ≤ 6) (hk' : k' ≤ 6) :
    cl (rwStep m i k T) i' k' = if i' = i ∧ k' = k then (cl T i k || (cl T i m && cl T m k)) else cl T i' k' := by
  rw [rwStep_eq]
  have e : (T.getD (i * 7 + m) false && T.getD (m * 7 + k) false) = (cl T i m && cl T m k) := rfl
  rw [e]
  cases h : (cl T i m && cl T m k)
  · rw [if_neg (by simp)]
    by_cases h2 : i' = i ∧ k' = k
    · obtain ⟨rfl, rfl⟩ := h2
      rw [if_pos ⟨rfl, rfl⟩, Bool.or_false]
    · rw [if_neg h2]
  · rw [if_pos rfl, cl_set T hT hi hk hk']
    simp
theorem rwK_len (m i : Nat) : ∀ (r k : Nat) (T : List Bool), (rwK m i r k T).length = T.length
  | 0, k, T => by rw [rwK_0]
  | r + 1, k, T => by rw [rwK_s, rwK_len m i r, rwStep_len]
theorem rwI_len (m : Nat) : ∀ (r i : Nat) (T : List Bool), (rwI m r i T).length = T.length
  | 0, i, T => by rw [rwI_0]
  | r + 1, i, T => by rw [rwI_s, rwI_len m r, rwK_len]
theorem rwM_len : ∀ (r m : Nat) (T : List Bool), (rwM r m T).length = T.length
  | 0, m, T => by rw [rwM_0]
  | r + 1, m, T => by rw [rwM_s, rwM_len r, rwI_len]
theorem cl_K (m i : Nat) (hm : m ≤ 6) (hi : i ≤ 6) : ∀ (r k : Nat) (T : List Bool), T.length = 49 → k + r = 7 → ∀ i' k' : Nat, k' ≤ 6 →
    cl (rwK m i r k T) i' k' = if i' = i ∧ k ≤ k' then (cl T i k' || (cl T i m && cl T m k')) else cl T i' k'
  | 0, k, T, hT, hr, i', k', hk' => by rw [rwK_0, if_neg (by omega)]
  | r + 1, k, T, hT, hr, i', k', hk' => by
    have hs := fun (a b : Nat) (hb : b ≤ 6) => cl_step T hT (m := m) (i := i) (k := k) (i' := a) (k' := b) hi (by omega) hb
    rw [rwK_s, cl_K m i hm hi r (k + 1) _ (by rw [rwStep_len]; exact hT) (by omega) i' k' hk', hs i k' hk', hs i m hm, hs m k' hk', hs i' k' hk']
    by_cases h1 : i' = i
    · subst h1
      by_cases h2 : k ≤ k'
      · by_cases h3 : k' = k
        · subst h3
          have g1 : ¬ (k' + 1 ≤ k') := by omega
          simp [g1]
        · have g1 : k + 1 ≤ k' := by omega
          by_cases h4 : m = k
          · subst h4
            simp only [g1, h3, h2, and_true, and_false, if_true, if_false]
            cases cl T i' k' <;> cases cl T i' m <;> cases cl T m m <;> cases cl T m k' <;> rfl
          · simp [g1, h3, h2, h4]
      · have g1 : ¬ (k + 1 ≤ k') := by omega
        have g2 : k' ≠ k := by omega
        simp [g1, g2, h2]
    · simp [h1]
theorem cl_I (m : Nat) (hm1 : 1 ≤ m) (hm : m ≤ 6) : ∀ (r i : Nat) (T : List Bool), T.length = 49 → i + r = 7 → ∀ i' k' : Nat, i' ≤ 6 → 1 ≤ k' → k' ≤ 6 →
    cl (rwI m r i T) i' k' = if i ≤ i' then (cl T i' k' || (cl T i' m && cl T m k')) else cl T i' k'
  | 0, i, T, hT, hr, i', k', hi', hk1, hk' => by rw [rwI_0, if_neg (by omega)]
  | r + 1, i, T, hT, hr, i', k', hi', hk1, hk' => by
    have hs := fun (a b : Nat) (hb : b ≤ 6) => cl_K m i hm (by omega) 6 1 T hT (by omega) a b hb
    rw [rwI_s, cl_I m hm1 hm r (i + 1) _ (by rw [rwK_len]; exact hT) (by omega) i' k' hi' hk1 hk', hs i' k' hk', hs i' m hm, hs m k' hk']
    by_cases h1 : i' = i
    · subst h1
      rw [if_neg (by omega), if_pos ⟨rfl, hk1⟩, if_pos (Nat.le_refl _)]
    · by_cases h2 : i ≤ i'
      · rw [if_pos (by omega), if_neg (by omega), if_neg (by omega), if_pos h2]
        by_cases h3 : m = i
        · subst h3
          rw [if_pos ⟨rfl, hk1⟩]
          cases cl T i' k' <;> cases cl T i' m <;> cases cl T m m <;> cases cl T m k' <;> rfl
        · rw [if_neg (by omega)]
      · rw [if_neg (by omega), if_neg (by omega), if_neg h2]
/-- The table is closed at the first deals. -/
def clos (T : List Bool) (m : Nat) : Prop := ∀ p i k : Nat, 1 ≤ p → p < m → 1 ≤ i → i ≤ 6 → 1 ≤ k → k ≤ 6 → cl T i p = true → cl T p k = true → cl T i k = true
theorem clos_M (Q : Nat → Nat → Prop) (htr : ∀ i p k, Q i p → Q p k → Q i k) : ∀ (r m : Nat) (T : List Bool), T.length = 49 → m + r = 7 → 1 ≤ m → clos T m →
    (∀ i k : Nat, 1 ≤ i → i ≤ 6 → 1 ≤ k → k ≤ 6 → cl T i k = true → Q i k) →
    clos (rwM r m T) 7 ∧ (∀ i k : Nat, 1 ≤ i → i ≤ 6 → 1 ≤ k → k ≤ 6 → cl T i k = true → cl (rwM r m T) i k = true) ∧ (∀ i k : Nat, 1 ≤ i → i ≤ 6 → 1 ≤ k → k ≤ 6 → cl (rwM r m T) i k = true → Q i k)
  | 0, m, T, hT, hr, hm1, hc, hQ => by
    obtain rfl : m = 7 := by omega
    rw [rwM_0]
    exact ⟨hc, fun _ _ _ _ _ _ h => h, hQ⟩
  | r + 1, m, T, hT, hr, hm1, hc, hQ => by
    have hs : ∀ i k : Nat, 1 ≤ i → i ≤ 6 → 1 ≤ k → k ≤ 6 → cl (rwI m 6 1 T) i k = (cl T i k || (cl T i m && cl T m k)) := fun a b ha1 ha hb1 hb => by
      rw [cl_I m hm1 (by omega) 6 1 T hT (by omega) a b ha hb1 hb, if_pos ha1]
    have hor : ∀ i k : Nat, 1 ≤ i → i ≤ 6 → 1 ≤ k → k ≤ 6 → (cl (rwI m 6 1 T) i k = true ↔ cl T i k = true ∨ (cl T i m = true ∧ cl T m k = true)) := fun a b ha1 ha hb1 hb => by
      rw [hs a b ha1 ha hb1 hb, Bool.or_eq_true, Bool.and_eq_true]
    have hm6 : m ≤ 6 := by omega
    obtain ⟨g1, g2, g3⟩ := clos_M Q htr r (m + 1) (rwI m 6 1 T) (by rw [rwI_len]; exact hT) (by omega) (by omega) (by
      intro p i k hp1 hp hi1 hi hk1 hk h1 h2
      rw [hor _ _ hi1 hi hk1 hk]
      rw [hor _ _ hi1 hi hp1 (by omega)] at h1
      rw [hor _ _ hp1 (by omega) hk1 hk] at h2
      by_cases hpm : p = m
      · subst hpm
        right
        refine ⟨?_, ?_⟩
        · rcases h1 with h | h
          · exact h
          · exact h.1
        · rcases h2 with h | h
          · exact h
          · exact h.2
      · have hC := fun (a b : Nat) (ha1 : 1 ≤ a) (ha : a ≤ 6) (hb1 : 1 ≤ b) (hb : b ≤ 6) => hc p a b hp1 (by omega) ha1 ha hb1 hb
        rcases h1 with h1 | h1 <;> rcases h2 with h2 | h2
        · exact .inl (hC i k hi1 hi hk1 hk h1 h2)
        · exact .inr ⟨hC i m hi1 hi hm1 hm6 h1 h2.1, h2.2⟩
        · exact .inr ⟨h1.1, hC m k hm1 hm6 hk1 hk h1.2 h2⟩
        · exact .inr ⟨h1.1, h2.2⟩) (by
      intro i k hi1 hi hk1 hk h
      rcases (hor _ _ hi1 hi hk1 hk).1 h with h | h
      · exact hQ _ _ hi1 hi hk1 hk h
      · exact htr _ _ _ (hQ _ _ hi1 hi hm1 hm6 h.1) (hQ _ _ hm1 hm6 hk1 hk h.2))
    rw [rwM_s]
    exact ⟨g1, fun i k hi1 hi hk1 hk h => g2 i k hi1 hi hk1 hk ((hor _ _ hi1 hi hk1 hk).2 (.inl h)), g3⟩
def eR (E : List (Int × Int)) (a b : Nat) : Prop := ((a : Int), (b : Int)) ∈ E
abbrev WayR (E : List (Int × Int)) : Nat → Nat → Prop := Relation.TransGen (eR E)
theorem okE_mem {E : List (Int × Int)} (h : okE E) {a b : Nat} (hm : eR E a b) : 1 ≤ a ∧ a ≤ 6 ∧ 1 ≤ b ∧ b ≤ 6 := by
  obtain ⟨h1, h2⟩ := h _ hm
  have h1' : 1 ≤ (a : Int) ∧ (a : Int) ≤ 6 := by simpa [txB] using h1
  have h2' : 1 ≤ (b : Int) ∧ (b : Int) ≤ 6 := by simpa [txB] using h2
  omega
theorem wayR_ok {E : List (Int × Int)} (h : okE E) {a b : Nat} (hm : WayR E a b) : 1 ≤ a ∧ a ≤ 6 ∧ 1 ≤ b ∧ b ≤ 6 := by
  induction hm with
  | single h1 => exact okE_mem h h1
  | tail _ h1 ih => have := okE_mem h h1; omega
theorem mat_cl (E : List (Int × Int)) {a b : Nat} (ha : a ≤ 6) (hb : b ≤ 6) : cl (matL E) a b = decide (((a : Int), (b : Int)) ∈ E) := by
  unfold cl
  rw [List.getD_eq_getElem?_getD, mat_at E ha hb]; rfl
theorem waysF_way {E : List (Int × Int)} (h : okE E) {a b : Nat} (ha1 : 1 ≤ a) (ha : a ≤ 6) (hb1 : 1 ≤ b) (hb : b ≤ 6) : cl (waysF E) a b = true ↔ WayR E a b := by
  obtain ⟨g1, g2, g3⟩ := clos_M (WayR E) (fun i p k h1 h2 => by
    induction h2 with
    | single h3 => exact .tail h1 h3
    | tail _ h3 ih => exact .tail ih h3) 6 1 (matL E) (mat_len E) (by omega) (by omega) (by intro p i k h1 h2; omega) (by
      intro i k hi1 hi hk1 hk hc
      rw [mat_cl E hi hk] at hc
      exact .single (show ((i : Int), (k : Int)) ∈ E from of_decide_eq_true hc))
  rw [waysF_eq]
  constructor
  · exact g3 a b ha1 ha hb1 hb
  · intro hw
    have hmem : ∀ x y : Nat, eR E x y → cl (rwM 6 1 (matL E)) x y = true := fun x y hxy => by
      obtain ⟨k1, k2, k3, k4⟩ := okE_mem h hxy
      exact g2 x y k1 k2 k3 k4 (by rw [mat_cl E k2 k4]; exact decide_eq_true (show ((x : Int), (y : Int)) ∈ E from hxy))
    clear hb1 hb
    induction hw with
    | single h1 => exact hmem _ _ h1
    | @tail p q hw1 h1 ih =>
      obtain ⟨k1, k2, k3, k4⟩ := okE_mem h h1
      exact g1 p a q k1 (by omega) ha1 ha k3 k4 ih (hmem _ _ h1)

/-! ### The walk from one deal. -/
theorem bfsIn_spec (d : Nat) : ∀ (l : List (Int × Int)) (seen : List Bool) (row : List Int), okE l → seen.length = 7 →
    ∃ N, bfsIn d seen row l = ((bfsIn d seen row l).1, row ++ N) ∧ (bfsIn d seen row l).1.length = 7 ∧ falses (bfsIn d seen row l).1 + N.length = falses seen ∧
      (∀ x : Nat, (bfsIn d seen row l).1.getD x false = true ↔ seen.getD x false = true ∨ ((d : Int), (x : Int)) ∈ l) ∧ (∀ z ∈ N, ((d : Int), z) ∈ l) ∧
      (∀ x : Nat, (bfsIn d seen row l).1.getD x false = true → seen.getD x false = true ∨ (x : Int) ∈ N)
  | [], seen, row, _, hs => ⟨[], by simp [bfsIn], by simp [bfsIn, hs], by simp [bfsIn], by simp [bfsIn], by simp, by intro x hx; exact .inl hx⟩
  | e :: t, seen, row, ho, hs => by
    have hot : okE t := fun x hx => ho x (List.mem_cons_of_mem _ hx)
    obtain ⟨a, b, he1, he2, ha1, ha6, hb1, hb6⟩ := okE_nat ho (k := 0) (x := e.1) (y := e.2) rfl
    obtain ⟨e1, e2⟩ := e
    simp only at he1 he2
    subst he1 he2
    rw [bfsIn_step rfl]
    simp only [Int.toNat_natCast]
    by_cases hc : (a : Int) ≠ d ∨ seen.getD b false = true
    · rw [if_pos hc]
      obtain ⟨N, h1, h2, h3, h4, h5, h6⟩ := bfsIn_spec d t seen row hot hs
      refine ⟨N, h1, h2, h3, fun x => ?_, fun z hz => List.mem_cons_of_mem _ (h5 z hz), h6⟩
      rw [h4 x, List.mem_cons]
      constructor
      · rintro (h | h)
        · exact .inl h
        · exact .inr (.inr h)
      · rintro (h | h | h)
        · exact .inl h
        · injection h with k1 k2
          rcases hc with hc | hc
          · omega
          · have : x = b := by omega
            subst this
            exact .inl hc
        · exact .inr h
    · rw [if_neg hc]
      have hd : (a : Int) = d := by
        apply Classical.byContradiction
        intro h; exact hc (.inl h)
      have hf : seen.getD b false = false := by
        cases h : seen.getD b false
        · rfl
        · exact absurd (.inr h) hc
      have hf2 : seen[b]? = some false := by
        rw [List.getD_eq_getElem?_getD] at hf
        rw [List.getElem?_eq_getElem (by omega)] at hf ⊢
        simpa using hf
      have hF := falses_set hf2
      obtain ⟨N, h1, h2, h3, h4, h5, h6⟩ := bfsIn_spec d t (seen.set b true) (row ++ [(b : Int)]) hot (by rw [List.length_set]; exact hs)
      have hset : ∀ x : Nat, (seen.set b true).getD x false = true ↔ seen.getD x false = true ∨ x = b := fun x => by
        rw [List.getD_eq_getElem?_getD, List.getElem?_set, List.getD_eq_getElem?_getD]
        by_cases hx : b = x
        · subst hx
          rw [if_pos rfl, if_pos (by omega)]; simp
        · rw [if_neg hx]
          constructor
          · exact .inl
          · rintro (h | h)
            · exact h
            · exact absurd h.symm hx
      refine ⟨(b : Int) :: N, ?_, h2, ?_, fun x => ?_, ?_, ?_⟩
      · rw [h1]; simp
      · rw [List.length_cons]; omega
      · rw [h4 x, hset x, List.mem_cons]
        constructor
        · rintro ((h | h) | h)
          · exact .inl h
          · subst h; exact .inr (.inl (by rw [hd]))
          · exact .inr (.inr h)
        · rintro (h | h | h)
          · exact .inl (.inl h)
          · injection h with k1 k2
            exact .inl (.inr (by omega))
          · exact .inr h
      · intro z hz
        rcases List.mem_cons.1 hz with h | h
        · rw [h, ← hd]; exact List.mem_cons_self
        · exact List.mem_cons_of_mem _ (h5 z h)
      · intro x hx
        rcases h6 x hx with h | h
        · rcases (hset x).1 h with h | h
          · exact .inl h
          · exact .inr (by rw [h]; exact List.mem_cons_self)
        · exact .inr (List.mem_cons_of_mem _ h)
theorem bfsGo_spec (E : List (Int × Int)) (hok : okE E) (a : Nat) (P : Nat → Prop) (hP : ∀ x y, P x → eR E x y → P y) : ∀ (f : Nat) (seen : List Bool) (row : List Int), seen.length = 7 → falses seen + row.length ≤ f →
    (∀ z ∈ row, ∃ x : Nat, z = x ∧ ∀ y, eR E x y → P y) → (∀ x, seen.getD x false = true → P x) →
    (∀ x : Nat, (x = a ∨ seen.getD x false = true) → (x : Int) ∈ row ∨ ∀ y, eR E x y → seen.getD y false = true) →
    (∀ x, (bfsGo E f seen row).getD x false = true → P x) ∧ (∀ x, (x = a ∨ (bfsGo E f seen row).getD x false = true) → ∀ y, eR E x y → (bfsGo E f seen row).getD y false = true)
  | 0, seen, row, hs, hf, hr, hp, hi => by
    obtain rfl : row = [] := List.eq_nil_of_length_eq_zero (by omega)
    refine ⟨hp, fun x hx => ?_⟩
    rcases hi x hx with h | h
    · cases h
    · exact h
  | f + 1, seen, [], hs, hf, hr, hp, hi => by
    refine ⟨hp, fun x hx => ?_⟩
    rcases hi x hx with h | h
    · cases h
    · exact h
  | f + 1, seen, d :: r, hs, hf, hr, hp, hi => by
    obtain ⟨dn, rfl, hd⟩ := hr d List.mem_cons_self
    obtain ⟨N, h1, h2, h3, h4, h5, h6⟩ := bfsIn_spec dn E seen (dn :: r) hok hs
    have hrow : (bfsIn dn seen (dn :: r) E).2.tail = r ++ N := by rw [h1]; rfl
    rw [bfsGo, hrow]
    refine bfsGo_spec E hok a P hP f _ _ h2 ?_ ?_ ?_ ?_
    · rw [List.length_append]; rw [List.length_cons] at hf; omega
    · intro z hz
      rcases List.mem_append.1 hz with h | h
      · exact hr z (List.mem_cons_of_mem _ h)
      · have hm := h5 z h
        have ht := (hok _ hm).2
        have ht' : 1 ≤ z ∧ z ≤ 6 := by simpa [txB] using ht
        refine ⟨z.toNat, by omega, fun y hy => hP z.toNat y (hd z.toNat ?_) hy⟩
        have : ((z.toNat : Nat) : Int) = z := by omega
        unfold eR; rw [this]; exact hm
    · intro x hx
      rcases (h4 x).1 hx with h | h
      · exact hp x h
      · exact hd x h
    · intro x hx
      by_cases hxd : x = dn
      · subst hxd
        exact .inr fun y hy => (h4 y).2 (.inr hy)
      · have hold : (x = a ∨ seen.getD x false = true) → (x : Int) ∈ r ++ N ∨ ∀ y, eR E x y → (bfsIn dn seen (dn :: r) E).1.getD y false = true := fun h => by
          rcases hi x h with h | h
          · rcases List.mem_cons.1 h with h | h
            · omega
            · exact .inl (List.mem_append_left _ h)
          · exact .inr fun y hy => (h4 y).2 (.inl (h y hy))
        rcases hx with h | h
        · exact hold (.inl h)
        · rcases h6 x h with h | h
          · exact hold (.inr h)
          · exact .inl (List.mem_append_right _ h)
theorem reachF_way {E : List (Int × Int)} (h : okE E) {a b : Nat} : reachF E a b = true ↔ WayR E a b := by
  obtain ⟨g1, g2⟩ := bfsGo_spec E h a (WayR E a) (fun x y hx hy => .tail hx hy) 8 (List.replicate 7 false) [(a : Int)] (by simp) (by rw [show falses (List.replicate 7 false) = 7 by decide]; simp) (by
    intro z hz
    rw [List.mem_singleton] at hz
    exact ⟨a, hz, fun y hy => .single hy⟩) (by intro x hx; rw [List.getD_eq_getElem?_getD, List.getElem?_replicate] at hx; split at hx <;> simp at hx) (by
    intro x hx
    rcases hx with rfl | hx
    · exact .inl (by simp)
    · rw [List.getD_eq_getElem?_getD, List.getElem?_replicate] at hx; split at hx <;> simp at hx)
  have hbn : ((b : Nat) : Int).toNat = b := by omega
  unfold reachF
  rw [hbn]
  constructor
  · exact g1 b
  · intro hw
    clear hbn
    induction hw with
    | single h1 => exact g2 a (.inl rfl) _ h1
    | tail _ h1 ih => exact g2 _ (.inr ih) _ h1
theorem ways_reach {E : List (Int × Int)} (h : okE E) {a b : Nat} (ha1 : 1 ≤ a) (ha : a ≤ 6) (hb1 : 1 ≤ b) (hb : b ≤ 6) : (waysF E)[a * 7 + b]? = some (reachF E a b) := by
  have hlen : (waysF E).length = 49 := by rw [waysF_eq, rwM_len, mat_len]
  have e : cl (waysF E) a b = reachF E a b := by
    rw [Bool.eq_iff_iff, waysF_way h ha1 ha hb1 hb, reachF_way h]
  rw [← e]
  unfold cl
  rw [List.getD_eq_getElem?_getD, List.getElem?_eq_getElem (by omega)]; rfl
end Go.Proofs.YtaaahfbcpgdoiaaGreatDoor


namespace Go.Proofs.YtaaahfbcpgdoiaaGreatDoor
open Go.RowKit

theorem named_sort (E : List (Int × Int)) : namedF E = sortS ltI (ends2 E) := comp_sort sloI (fun _ => sortI_mem) (sortI_up _)
theorem sortI_of_up {l : List Int} (h : Up ltI l) : sortI l = l := by
  have h2 : (sortI l).Nodup := (List.mergeSort_perm l _).nodup_iff.2 (h.imp fun {a b} hab e => by rw [e] at hab; simp [ltI] at hab)
  have h3 : Up ltI (sortI l) := by
    refine (List.Pairwise.and h2 (sortI_up l)).imp fun {a b} ⟨g1, g2⟩ => ?_
    simp [ltI] at g2 ⊢; omega
  exact up_ext sloI h3 h fun _ => sortI_mem
theorem rbest_keep (ok : Int → Bool) (b : Int) (hb : b ≠ 0) : ∀ l : List Int, (∀ x ∈ l, b < x) → rbest ok b l = b
  | [], _ => rfl
  | d :: t, h => by
    rw [rbest, if_neg (by
      rintro ⟨_, h1 | h1⟩
      · exact hb h1
      · have := h d List.mem_cons_self; omega)]
    exact rbest_keep ok b hb t fun x hx => h x (List.mem_cons_of_mem _ hx)
theorem rbest_find (ok : Int → Bool) : ∀ l : List Int, Up ltI l → (∀ x ∈ l, 0 < x) → rbest ok 0 l = (l.find? ok).getD 0
  | [], _, _ => rfl
  | d :: t, hu, hp => by
    have g := List.pairwise_cons.1 hu
    rw [rbest, List.find?_cons]
    cases hd : ok d
    · rw [if_neg (by simp)]
      exact rbest_find ok t g.2 fun x hx => hp x (List.mem_cons_of_mem _ hx)
    · rw [if_pos ⟨rfl, .inl rfl⟩]
      exact rbest_keep ok d (by have := hp d List.mem_cons_self; omega) t fun x hx => by have := g.1 x hx; simpa [ltI] using this
theorem idx_first (p : Int → Bool) (l : List Int) : (l.find? p = none ∧ idxGo p 0 l = -1) ∨ ∃ (i : Nat) (x : Int), l[i]? = some x ∧ l.find? p = some x ∧ idxGo p 0 l = i := by
  rcases idxGo_spec p 0 l with ⟨h1, h2⟩ | ⟨i, o, h1, h2, h3, h4⟩
  · exact .inl ⟨List.find?_eq_none.2 fun x hx => by simp [h1 x hx], h2⟩
  · refine .inr ⟨i, o, h1, ?_, by rw [h4]; omega⟩
    have hi := (List.getElem?_eq_some_iff.1 h1).1
    have hx := (List.getElem?_eq_some_iff.1 h1).2
    rw [List.find?_eq_some_iff_append]
    refine ⟨h2, l.take i, l.drop (i + 1), ?_, fun a ha => by simp [h3 a ha]⟩
    rw [← hx, ← List.drop_eq_getElem_cons hi, List.take_append_drop]
theorem erase_at {l : List Int} (hu : Up ltI l) {i : Nat} {x : Int} (h : l[i]? = some x) : l.eraseIdx i = l.filter fun z => !decide (z = x) := by
  refine up_ext sloI (hu.sublist (List.eraseIdx_sublist ..)) (hu.sublist List.filter_sublist) fun z => ?_
  rw [List.mem_eraseIdx_iff_getElem?, List.mem_filter]
  constructor
  · rintro ⟨j, hj, hz⟩
    refine ⟨List.mem_of_getElem? hz, ?_⟩
    have hne : z ≠ x := by
      rintro rfl
      obtain ⟨hi', hx⟩ := List.getElem?_eq_some_iff.1 h
      obtain ⟨hj', hy⟩ := List.getElem?_eq_some_iff.1 hz
      have hP := List.pairwise_iff_getElem.1 hu
      rcases Nat.lt_or_gt_of_ne hj with hlt | hlt
      · have := hP j i hj' hi' hlt
        rw [hx, hy] at this; simp [ltI] at this
      · have := hP i j hi' hj' hlt
        rw [hx, hy] at this; simp [ltI] at this
    simp [hne]
  · rintro ⟨hz, hne⟩
    obtain ⟨j, hj⟩ := List.mem_iff_getElem?.1 hz
    refine ⟨j, ?_, hj⟩
    rintro rfl
    rw [h] at hj
    injection hj with hj
    simp [hj] at hne
theorem top_rsort (E : List (Int × Int)) (deals : List Int) (hu : Up ltI deals) (hp : ∀ x ∈ deals, 0 < x) : ∀ (f : Nat) (out : List Int),
    topGo E f (deals.filter fun d => !decide (d ∈ out)) out = rsortGo E deals f out
  | 0, out => by rw [topGo, rsortGo]
  | f + 1, out => by
    have hul : Up ltI (deals.filter fun d => !decide (d ∈ out)) := hu.sublist List.filter_sublist
    have hready : ∀ d, readyB E (deals.filter fun d => !decide (d ∈ out)) d = !E.any (stopE deals out d) := fun d => by
      unfold readyB
      congr 2
      funext e
      unfold holdsE stopE
      congr 1
      rw [Bool.eq_iff_iff]
      simp
    have hfind : (deals.filter fun d => !decide (d ∈ out)).find? (readyB E (deals.filter fun d => !decide (d ∈ out))) = deals.find? (rokB E deals out) := by
      rw [List.find?_filter]
      congr 1
      funext d
      rw [hready d]
      unfold rokB
      rw [Bool.eq_iff_iff]
      simp
    rw [topGo, rsortGo, rbest_find _ _ hu hp, ← hfind]
    rcases idx_first (readyB E (deals.filter fun d => !decide (d ∈ out))) (deals.filter fun d => !decide (d ∈ out)) with ⟨h1, h2⟩ | ⟨i, x, h1, h2, h3⟩
    · rw [h1, h2, if_pos (by decide), if_pos (by rfl)]
    · have hx0 : 0 < x := hp x ((List.mem_filter.1 (List.mem_of_getElem? h1)).1)
      rw [h2, h3, if_neg (by omega), if_neg (by show x ≠ 0; omega)]
      have e1 : ((i : Nat) : Int).toNat = i := by omega
      rw [e1, erase_at hul h1, List.getD_eq_getElem?_getD, h1, ← top_rsort E deals hu hp f]
      congr 1
      rw [List.filter_filter]
      congr 1
      funext d
      rw [Bool.eq_iff_iff]
      simp
      constructor <;> intro h <;> exact ⟨h.2, h.1⟩
theorem ends2_ok {E : List (Int × Int)} (h : okE E) : ∀ x ∈ ends2 E, 0 < x := by
  intro x hx
  unfold ends2 at hx
  obtain ⟨e, he, hm⟩ := List.mem_flatMap.1 hx
  obtain ⟨h1, h2⟩ := h e he
  have h1' : 1 ≤ e.1 ∧ e.1 ≤ 6 := by simpa [txB] using h1
  have h2' : 1 ≤ e.2 ∧ e.2 ≤ 6 := by simpa [txB] using h2
  rcases List.mem_cons.1 hm with h | h
  · omega
  · rw [List.mem_singleton.1 h]; omega
theorem rsort_top {E : List (Int × Int)} (h : okE E) : rsortF E (namedF E) = topF E (namedF E) := by
  have hu : Up ltI (namedF E) := by rw [named_sort]; exact up_sortS sloI _
  have hp : ∀ x ∈ namedF E, 0 < x := fun x hx => ends2_ok h x (by rw [named_sort] at hx; exact mem_sortS.1 hx)
  unfold rsortF topF
  rw [sortI_of_up hu, ← top_rsort E _ hu hp]
  congr 1
  simp
end Go.Proofs.YtaaahfbcpgdoiaaGreatDoor


/-
  PLAIN LAWS for GraphEither: an order respects all edges; around a ring edges lead; just one of both there is.
  PLAIN LAWS: histories one behind the other along an order; an order of deals along edges, or a ring.
-/
import Derived.Test.YtaaahfbcpgdoiaaGreatDoorQ16
import Derived.Test.YtaaahfbcpgdoiaaGreatDoorQ15
import Derived.Test.YtaaahfbcpgdoiaaGreatDoorQ10

namespace Go.Proofs.YtaaahfbcpgdoiaaGreatDoor
open Go.RowKit

def beforeL (o : List Int) (x y : Int) : Prop := ∃ i j : Nat, i < j ∧ o[i]? = some x ∧ o[j]? = some y
theorem idx_inj {o : List Int} (hn : o.Nodup) {i j : Nat} {x : Int} (hi : o[i]? = some x) (hj : o[j]? = some x) : i = j := by
  obtain ⟨h1, h2⟩ := List.getElem?_eq_some_iff.1 hi
  obtain ⟨h3, h4⟩ := List.getElem?_eq_some_iff.1 hj
  have hP := List.pairwise_iff_getElem.1 hn
  rcases Nat.lt_trichotomy i j with h | h | h
  · exact absurd (h2.trans h4.symm) (hP i j h1 h3 h)
  · exact h
  · exact absurd (h4.trans h2.symm) (hP j i h3 h1 h)
theorem nodup_one (x : Int) : [x].Nodup := by simp
theorem nodup_sub_len : ∀ (r S : List Int), r.Nodup → (∀ x ∈ r, x ∈ S) → r.length ≤ S.length
  | [], S, _, _ => Nat.zero_le _
  | x :: t, S, hn, hs => by
    obtain ⟨h1, h2⟩ := List.nodup_cons.1 hn
    have hx := hs x List.mem_cons_self
    have ih := nodup_sub_len t (S.erase x) h2 fun y hy => (List.mem_erase_of_ne (fun e => h1 (by rw [← e]; exact hy))).2 (hs y (List.mem_cons_of_mem _ hy))
    rw [List.length_erase_of_mem hx] at ih
    have := List.length_pos_of_mem hx
    rw [List.length_cons]; omega
theorem up_nodup {l : List Int} (h : Up ltI l) : l.Nodup := h.imp fun {a b} hab e => by rw [e] at hab; simp [ltI] at hab

/-! ### An order. -/
theorem topGo_spec (E : List (Int × Int)) : ∀ (f : Nat) (left acc o : List Int), left.length = f → left.Nodup → topGo E f left acc = some o →
    ∃ s, o = acc ++ s ∧ s.Nodup ∧ (∀ x, x ∈ s ↔ x ∈ left) ∧ ∀ e ∈ E, e.1 ∈ left → e.2 ∈ left → beforeL s e.1 e.2
  | 0, left, acc, o, hl, hn, h => by
    rw [topGo] at h
    cases h
    obtain rfl := List.eq_nil_of_length_eq_zero hl
    exact ⟨[], by simp, List.nodup_nil, fun x => Iff.rfl, fun e _ h1 => by cases h1⟩
  | f + 1, left, acc, o, hl, hn, h => by
    rw [topGo] at h
    rcases idx_first (readyB E left) left with ⟨_, h2⟩ | ⟨i, d, h1, h2, h3⟩
    · rw [h2, if_pos (by decide)] at h; cases h
    · rw [h3, if_neg (by omega), Int.toNat_natCast] at h
      have hil := (List.getElem?_eq_some_iff.1 h1).1
      have hgd : left.getD i 0 = d := by rw [List.getD_eq_getElem?_getD, h1]; rfl
      rw [hgd] at h
      obtain ⟨s, e1, e2, e3, e4⟩ := topGo_spec E f (left.eraseIdx i) (acc ++ [d]) o (by rw [List.length_eraseIdx, if_pos hil]; omega) (hn.sublist (List.eraseIdx_sublist ..)) h
      have hmem : ∀ x, x ∈ left.eraseIdx i ↔ x ∈ left ∧ x ≠ d := by
        intro x
        rw [List.mem_eraseIdx_iff_getElem?]
        constructor
        · rintro ⟨j, hj, hx⟩
          refine ⟨List.mem_of_getElem? hx, ?_⟩
          rintro rfl
          exact hj (idx_inj hn hx h1)
        · rintro ⟨hx, hne⟩
          obtain ⟨j, hj⟩ := List.mem_iff_getElem?.1 hx
          refine ⟨j, ?_, hj⟩
          rintro rfl
          rw [h1] at hj
          injection hj with hj
          exact hne hj.symm
      have hrd : readyB E left d = true := List.find?_some h2
      refine ⟨d :: s, by rw [e1]; simp, List.nodup_cons.2 ⟨fun hd => ((hmem d).1 ((e3 d).1 hd)).2 rfl, e2⟩, fun x => ?_, fun e he hx hy => ?_⟩
      · rw [List.mem_cons, e3, hmem]
        constructor
        · rintro (h | h)
          · rw [h]; exact List.mem_of_getElem? h1
          · exact h.1
        · intro h
          by_cases hx : x = d
          · exact .inl hx
          · exact .inr ⟨h, hx⟩
      · have hyd : e.2 ≠ d := by
          intro hyd
          unfold readyB at hrd
          rw [Bool.not_eq_true', List.any_eq_false] at hrd
          refine hrd e he ?_
          unfold holdsE
          simp [hyd, hx]
        by_cases hxd : e.1 = d
        · obtain ⟨j, hj⟩ := List.mem_iff_getElem?.1 ((e3 e.2).2 ((hmem e.2).2 ⟨hy, hyd⟩))
          exact ⟨0, j + 1, by omega, by rw [hxd]; rfl, by simpa using hj⟩
        · obtain ⟨a, b, hab, ha, hb⟩ := e4 e he ((hmem _).2 ⟨hx, hxd⟩) ((hmem _).2 ⟨hy, hyd⟩)
          exact ⟨a + 1, b + 1, by omega, by simpa using ha, by simpa using hb⟩

/-! ### Ways and rings. -/
def pathE (E : List (Int × Int)) (r : List Int) : Prop := ∀ (i : Nat) (x y : Int), r[i]? = some x → r[i + 1]? = some y → (x, y) ∈ E
def ringE (E : List (Int × Int)) (r : List Int) : Prop := pathE E r ∧ r.Nodup ∧ (∀ x ∈ r, 1 ≤ x ∧ x ≤ 6) ∧ r ≠ [] ∧ (r.getLastD 0, r.headD 0) ∈ E
theorem tryGo_some (g : Int → Option (List Int)) : ∀ (n : Nat) (k : Int) (L : List Int), tryGo g n k = some L → ∃ d, k ≤ d ∧ d < k + n ∧ g d = some L
  | 0, k, L, h => by cases h
  | n + 1, k, L, h => by
    rw [tryGo_step] at h
    cases hg : g k with
    | some M =>
      rw [hg] at h
      exact ⟨k, by omega, by omega, by rw [hg]; exact h⟩
    | none =>
      rw [hg] at h
      obtain ⟨d, h1, h2, h3⟩ := tryGo_some g n (k + 1) L h
      exact ⟨d, by omega, by omega, h3⟩
theorem tryGo_none (g : Int → Option (List Int)) : ∀ (n : Nat) (k : Int), tryGo g n k = none → ∀ d, k ≤ d → d < k + n → g d = none
  | 0, k, h, d, h1, h2 => by omega
  | n + 1, k, h, d, h1, h2 => by
    rw [tryGo_step] at h
    cases hg : g k with
    | some M => rw [hg] at h; cases h
    | none =>
      rw [hg] at h
      by_cases hd : d = k
      · rw [hd]; exact hg
      · exact tryGo_none g n (k + 1) h d (by omega) (by omega)
theorem roundGo_some (E : List (Int × Int)) : ∀ (f : Nat) (way r : List Int), way ≠ [] → pathE E way → way.Nodup → (∀ x ∈ way, 1 ≤ x ∧ x ≤ 6) → roundGo E f way = some r → ringE E r ∧ r.length = way.length + f
  | 0, way, r, hw, hp, hn, hb, h => by
    rw [roundGo] at h
    split at h
    · rename_i hc
      cases h
      exact ⟨⟨hp, hn, hb, hw, hc⟩, rfl⟩
    · cases h
  | f + 1, way, r, hw, hp, hn, hb, h => by
    rw [roundGo] at h
    obtain ⟨d, h1, h2, h3⟩ := tryGo_some _ _ _ _ h
    split at h3
    · rename_i hc
      unfold nextB at hc
      simp only [Bool.and_eq_true, decide_eq_true_eq, Bool.not_eq_true', decide_eq_false_iff_not] at hc
      obtain ⟨hc1, hc2⟩ := hc
      obtain ⟨g1, g2⟩ := roundGo_some E f (way ++ [d]) r (by simp) (fun i x y hx hy => by
          rcases Nat.lt_or_ge (i + 1) way.length with hi | hi
          · rw [List.getElem?_append_left (by omega)] at hx
            rw [List.getElem?_append_left hi] at hy
            exact hp i x y hx hy
          · have hlen := (List.getElem?_eq_some_iff.1 hy).1
            rw [List.length_append, List.length_singleton] at hlen
            have hi2 : i + 1 = way.length := by omega
            rw [List.getElem?_append_left (by omega)] at hx
            rw [List.getElem?_append_right hi, hi2, Nat.sub_self] at hy
            injection hy with hy
            rw [← hy, ← lastD_at hx hi2.symm]
            exact hc1)
        (List.nodup_append.2 ⟨hn, nodup_one d, fun a ha b hb2 e => by rw [List.mem_singleton.1 hb2] at e; exact hc2 (e ▸ ha)⟩)
        (fun x hx => by
          rcases List.mem_append.1 hx with h | h
          · exact hb x h
          · rw [List.mem_singleton.1 h]; omega) h3
      exact ⟨g1, by rw [g2, List.length_append, List.length_singleton]; omega⟩
    · cases h3
theorem roundGo_ne (E : List (Int × Int)) (r : List Int) (hr : ringE E r) : ∀ (f k : Nat), 1 ≤ k → k + f = r.length → roundGo E f (r.take k) ≠ none
  | 0, k, hk, hkf => by
    have e : r.take k = r := List.take_of_length_le (by omega)
    rw [roundGo, e, if_pos hr.2.2.2.2]
    simp
  | f + 1, k, hk, hkf => by
    rw [roundGo]
    intro hno
    have hkl : k < r.length := by omega
    have hd : r[k]? = some r[k] := List.getElem?_eq_getElem hkl
    have hb := hr.2.2.1 _ (List.mem_of_getElem? hd)
    have h0 := tryGo_none _ _ _ hno r[k] (by omega) (by omega)
    have hprev : r[k - 1]? = some (r[k - 1]'(by omega)) := List.getElem?_eq_getElem (by omega)
    have hlast : (r.take k).getLastD 0 = r[k - 1]'(by omega) := lastD_at (n := k - 1) (by rw [List.getElem?_take, if_pos (by omega)]; exact hprev) (by rw [List.length_take]; omega)
    have hnx : nextB E (r.take k) r[k] = true := by
      unfold nextB
      rw [hlast]
      have h1 : (r[k - 1]'(by omega), r[k]) ∈ E := hr.1 (k - 1) _ _ hprev (by rw [show k - 1 + 1 = k by omega]; exact hd)
      have h2 : ¬ r[k] ∈ r.take k := by
        intro hm
        obtain ⟨j, hj⟩ := List.mem_iff_getElem?.1 hm
        have hjk : j < k := by have := (List.getElem?_eq_some_iff.1 hj).1; rw [List.length_take] at this; omega
        rw [List.getElem?_take, if_pos hjk] at hj
        have := idx_inj hr.2.1 hj hd
        omega
      simp [h1, h2]
    rw [hnx, if_pos rfl, show r.take k ++ [r[k]] = r.take (k + 1) by rw [List.take_add_one, hd]; rfl] at h0
    exact roundGo_ne E r hr f (k + 1) (by omega) (by omega) h0
theorem ringE_len {E : List (Int × Int)} {r : List Int} (hr : ringE E r) : 1 ≤ r.length ∧ r.length ≤ 6 := by
  refine ⟨by have := List.length_pos_iff.2 hr.2.2.2.1; omega, ?_⟩
  have h1 : ∀ x ∈ r, x ∈ [(1 : Int), 2, 3, 4, 5, 6] := by
    intro x hx
    have := hr.2.2.1 x hx
    simp
    omega
  have := nodup_sub_len r _ hr.2.1 h1
  simpa using this
theorem ringF_of {E : List (Int × Int)} {r : List Int} (hr : ringE E r) : ringF E ≠ none := by
  intro hno
  obtain ⟨l1, l6⟩ := ringE_len hr
  have h1 := tryGo_none _ _ _ hno (r.length : Int) (by omega) (by omega)
  unfold ringOf at h1
  rw [Int.toNat_natCast] at h1
  obtain ⟨d, t, hdt⟩ : ∃ d t, r = d :: t := by
    cases r with
    | nil => simp at l1
    | cons d t => exact ⟨d, t, rfl⟩
  have hb := hr.2.2.1 d (by rw [hdt]; exact List.mem_cons_self)
  have h2 := tryGo_none _ _ _ h1 d (by omega) (by omega)
  refine roundGo_ne E r hr (r.length - 1) 1 (by omega) (by omega) ?_
  rw [show r.take 1 = [d] by rw [hdt]; rfl]
  exact h2
theorem ringF_some {E : List (Int × Int)} {r : List Int} (h : ringF E = some r) : ringE E r := by
  obtain ⟨m, h1, h2, h3⟩ := tryGo_some _ _ _ _ h
  obtain ⟨d, h4, h5, h6⟩ := tryGo_some _ _ _ _ h3
  refine (roundGo_some E _ [d] r (by simp) (fun i x y hx hy => ?_) (nodup_one d) (fun x hx => ?_) h6).1
  · have := (List.getElem?_eq_some_iff.1 hy).1
    simp at this
  · rw [List.mem_singleton.1 hx]; omega

/-! ### None is ready: there is a ring. -/
theorem path_or_ring (E : List (Int × Int)) (S : List Int) (hS : ∀ x ∈ S, 1 ≤ x ∧ x ≤ 6) (hne : S ≠ []) (hp : ∀ d ∈ S, ∃ x ∈ S, (x, d) ∈ E) : ∀ k : Nat,
    (∃ r, ringE E r) ∨ ∃ p : List Int, p.length = k + 1 ∧ p.Nodup ∧ pathE E p ∧ ∀ x ∈ p, x ∈ S
  | 0 => by
    obtain ⟨d, t, rfl⟩ : ∃ d t, S = d :: t := by
      cases S with
      | nil => exact absurd rfl hne
      | cons d t => exact ⟨d, t, rfl⟩
    refine .inr ⟨[d], rfl, nodup_one d, fun i x y hx hy => ?_, fun x hx => by rw [List.mem_singleton.1 hx]; exact List.mem_cons_self⟩
    have := (List.getElem?_eq_some_iff.1 hy).1
    simp at this
  | k + 1 => by
    rcases path_or_ring E S hS hne hp k with h | ⟨p, h1, h2, h3, h4⟩
    · exact .inl h
    obtain ⟨d, t, rfl⟩ : ∃ d t, p = d :: t := by
      cases p with
      | nil => simp at h1
      | cons d t => exact ⟨d, t, rfl⟩
    obtain ⟨x, hx, hxd⟩ := hp d (h4 d List.mem_cons_self)
    by_cases hxp : x ∈ d :: t
    · left
      obtain ⟨i, hi⟩ := List.mem_iff_getElem?.1 hxp
      have hil := (List.getElem?_eq_some_iff.1 hi).1
      refine ⟨(d :: t).take (i + 1), fun j a b ha hb => ?_, h2.sublist (List.take_sublist _ _), fun y hy => hS y (h4 y (List.mem_of_mem_take hy)), by simp, ?_⟩
      · have hj1 : j + 1 < i + 1 := by have := (List.getElem?_eq_some_iff.1 hb).1; rw [List.length_take] at this; omega
        rw [List.getElem?_take, if_pos (by omega)] at ha
        rw [List.getElem?_take, if_pos hj1] at hb
        exact h3 j a b ha hb
      · rw [lastD_at (l := (d :: t).take (i + 1)) (n := i) (x := x) (by rw [List.getElem?_take, if_pos (by omega)]; exact hi) (by rw [List.length_take]; omega)]
        exact hxd
    · right
      refine ⟨x :: d :: t, by rw [List.length_cons, h1], List.nodup_cons.2 ⟨hxp, h2⟩, fun i a b ha hb => ?_, fun y hy => ?_⟩
      · cases i with
        | zero =>
          simp at ha hb
          rw [← ha, ← hb]; exact hxd
        | succ i =>
          rw [List.getElem?_cons_succ] at ha hb
          exact h3 i a b ha hb
      · rcases List.mem_cons.1 hy with h | h
        · rw [h]; exact hx
        · exact h4 y h
theorem ring_of_stuck (E : List (Int × Int)) (S : List Int) (hS : ∀ x ∈ S, 1 ≤ x ∧ x ≤ 6) (hne : S ≠ []) (hp : ∀ d ∈ S, ∃ x ∈ S, (x, d) ∈ E) : ∃ r, ringE E r := by
  rcases path_or_ring E S hS hne hp 6 with h | ⟨p, h1, h2, _, h4⟩
  · exact h
  · exfalso
    have h5 : ∀ x ∈ p, x ∈ [(1 : Int), 2, 3, 4, 5, 6] := by
      intro x hx
      have := hS x (h4 x hx)
      simp
      omega
    have := nodup_sub_len p _ h2 h5
    rw [h1] at this
    simp at this
theorem topGo_none (E : List (Int × Int)) : ∀ (f : Nat) (left acc : List Int), left.length = f → (∀ x ∈ left, 1 ≤ x ∧ x ≤ 6) → topGo E f left acc = none → ∃ r, ringE E r
  | 0, left, acc, hl, hb, h => by rw [topGo] at h; cases h
  | f + 1, left, acc, hl, hb, h => by
    rw [topGo] at h
    rcases idx_first (readyB E left) left with ⟨h1, h2⟩ | ⟨i, d, h1, h2, h3⟩
    · refine ring_of_stuck E left hb (by intro e; rw [e] at hl; simp at hl) fun d hd => ?_
      have hnr := List.find?_eq_none.1 h1 d hd
      unfold readyB at hnr
      have hany : E.any (holdsE left d) = true := by
        cases hq : E.any (holdsE left d)
        · rw [hq] at hnr; simp at hnr
        · rfl
      obtain ⟨e, he, hh⟩ := List.any_eq_true.1 hany
      unfold holdsE at hh
      simp only [Bool.and_eq_true, decide_eq_true_eq] at hh
      exact ⟨e.1, hh.2, by rw [← hh.1]; exact he⟩
    · rw [h3, if_neg (by omega), Int.toNat_natCast] at h
      have hil := (List.getElem?_eq_some_iff.1 h1).1
      exact topGo_none E f _ _ (by rw [List.length_eraseIdx, if_pos hil]; omega) (fun x hx => hb x (List.mem_of_mem_eraseIdx hx)) h

/-! ### Just one of both. -/
theorem ends2_bound {E : List (Int × Int)} (h : okE E) : ∀ x ∈ ends2 E, 1 ≤ x ∧ x ≤ 6 := by
  intro x hx
  unfold ends2 at hx
  obtain ⟨e, he, hm⟩ := List.mem_flatMap.1 hx
  obtain ⟨h1, h2⟩ := h e he
  have h1' : 1 ≤ e.1 ∧ e.1 ≤ 6 := by simpa [txB] using h1
  have h2' : 1 ≤ e.2 ∧ e.2 ≤ 6 := by simpa [txB] using h2
  rcases List.mem_cons.1 hm with h | h
  · omega
  · rw [List.mem_singleton.1 h]; omega
theorem mem_ends2 {E : List (Int × Int)} {e : Int × Int} (he : e ∈ E) : e.1 ∈ ends2 E ∧ e.2 ∈ ends2 E := by
  unfold ends2
  exact ⟨List.mem_flatMap.2 ⟨e, he, by simp⟩, List.mem_flatMap.2 ⟨e, he, by simp⟩⟩
theorem okE_of {E : List (Int × Int)} (h : checkG E = 0) : okE E := by
  intro e he
  unfold checkG at h
  split at h
  · cases h
  · split at h
    · cases h
    · rename_i hn
      have h1 : E.any badE = false := by simpa using hn
      have h2 := List.any_eq_false.1 h1 e he
      unfold badE at h2
      simpa using h2
theorem order_some {E : List (Int × Int)} (h : okE E) {o : List Int} (ho : topF E (namedF E) = some o) :
    o.Nodup ∧ (∀ x ∈ o, 1 ≤ x ∧ x ≤ 6) ∧ ∀ e ∈ E, beforeL o e.1 e.2 := by
  have hu : Up ltI (namedF E) := by rw [named_sort]; exact up_sortS sloI _
  unfold topF at ho
  rw [sortI_of_up hu] at ho
  obtain ⟨s, h1, h2, h3, h4⟩ := topGo_spec E _ _ _ _ rfl (up_nodup hu) ho
  rw [List.nil_append] at h1
  subst h1
  refine ⟨h2, fun x hx => ?_, fun e he => ?_⟩
  · have := (h3 x).1 hx
    rw [named_sort, mem_sortS] at this
    exact ends2_bound h x this
  · obtain ⟨g1, g2⟩ := mem_ends2 he
    exact h4 e he (by rw [named_sort, mem_sortS]; exact g1) (by rw [named_sort, mem_sortS]; exact g2)
theorem order_no_ring {E : List (Int × Int)} (h : okE E) {o r : List Int} (ho : topF E (namedF E) = some o) (hr : ringE E r) : False := by
  obtain ⟨h1, h2, h3⟩ := order_some h ho
  obtain ⟨l1, _⟩ := ringE_len hr
  have hstep : ∀ k : Nat, ∀ x y : Int, r[0]? = some x → r[k]? = some y → ∀ i : Nat, o[i]? = some x → ∃ j : Nat, o[j]? = some y ∧ i ≤ j := by
    intro k
    induction k with
    | zero =>
      intro x y hx hy i hi
      rw [hx] at hy
      injection hy with hy
      exact ⟨i, by rw [← hy]; exact hi, Nat.le_refl _⟩
    | succ k ih =>
      intro x y hx hy i hi
      have hkl := (List.getElem?_eq_some_iff.1 hy).1
      have hz : r[k]? = some (r[k]'(by omega)) := List.getElem?_eq_getElem (by omega)
      obtain ⟨j, hj, hij⟩ := ih x _ hx hz i hi
      obtain ⟨a, b, hab, ha, hb⟩ := h3 _ (hr.1 k _ _ hz hy)
      have := idx_inj h1 ha hj
      exact ⟨b, hb, by omega⟩
  have hx : r[0]? = some (r[0]'(by omega)) := List.getElem?_eq_getElem (by omega)
  have hy : r[r.length - 1]? = some (r[r.length - 1]'(by omega)) := List.getElem?_eq_getElem (by omega)
  have hc := hr.2.2.2.2
  rw [lastD_at hy (by omega), headD_at hx] at hc
  obtain ⟨a, b, hab, ha, hb⟩ := h3 _ hc
  obtain ⟨j, hj, hbj⟩ := hstep _ _ _ hx hy b hb
  have := idx_inj h1 ha hj
  omega
theorem either {E : List (Int × Int)} (h : okE E) : (∃ o, topF E (namedF E) = some o ∧ ringF E = none) ∨ (topF E (namedF E) = none ∧ ∃ r, ringF E = some r) := by
  cases ht : topF E (namedF E) with
  | some o =>
    refine .inl ⟨o, rfl, ?_⟩
    cases hr : ringF E with
    | none => rfl
    | some r => exact (order_no_ring h ht (ringF_some hr)).elim
  | none =>
    refine .inr ⟨rfl, ?_⟩
    have hu : Up ltI (namedF E) := by rw [named_sort]; exact up_sortS sloI _
    unfold topF at ht
    rw [sortI_of_up hu] at ht
    obtain ⟨r, hr⟩ := topGo_none E _ _ _ rfl (fun x hx => by rw [named_sort, mem_sortS] at hx; exact ends2_bound h x hx) ht
    cases hq : ringF E with
    | none => exact absurd hq (ringF_of hr)
    | some r => exact ⟨r, rfl⟩

/-! ### Around a ring there is a way from each to itself. -/
theorem ring_at {E : List (Int × Int)} {r : List Int} (hr : ringE E r) {i : Nat} (hi : i < r.length) : ∃ a b : Nat, r[i]? = some (a : Int) ∧ r[(i + 1) % r.length]? = some (b : Int) ∧ 1 ≤ a ∧ a ≤ 6 ∧ 1 ≤ b ∧ b ≤ 6 ∧ eR E a b := by
  have hx : r[i]? = some r[i] := List.getElem?_eq_getElem hi
  have hl : (i + 1) % r.length < r.length := Nat.mod_lt _ (by omega)
  have hy : r[(i + 1) % r.length]? = some r[(i + 1) % r.length] := List.getElem?_eq_getElem hl
  have hxb := hr.2.2.1 _ (List.mem_of_getElem? hx)
  have hyb := hr.2.2.1 _ (List.mem_of_getElem? hy)
  have hm : (r[i], r[(i + 1) % r.length]) ∈ E := by
    rcases Nat.lt_or_ge (i + 1) r.length with h | h
    · exact hr.1 i _ _ hx (by simpa only [Nat.mod_eq_of_lt h] using hy)
    · have e : i + 1 = r.length := by omega
      have hy2 : r[0]? = some r[(i + 1) % r.length] := by rw [← hy]; congr 1; rw [e, Nat.mod_self]
      have hc := hr.2.2.2.2
      rw [lastD_at hx e.symm, headD_at hy2] at hc
      exact hc
  refine ⟨r[i].toNat, r[(i + 1) % r.length].toNat, by rw [hx]; congr 1; omega, by rw [hy]; congr 1; omega, by omega, by omega, by omega, by omega, ?_⟩
  unfold eR
  rw [show ((r[i].toNat : Nat) : Int) = r[i] by omega, show ((r[(i + 1) % r.length].toNat : Nat) : Int) = r[(i + 1) % r.length] by omega]
  exact hm
theorem ring_way {E : List (Int × Int)} {r : List Int} (hr : ringE E r) : ∀ (k i a b : Nat), i < r.length → r[i]? = some (a : Int) → r[(i + k + 1) % r.length]? = some (b : Int) → WayR E a b
  | 0, i, a, b, hi, ha, hb => by
    obtain ⟨a', b', h1, h2, _, _, _, _, h3⟩ := ring_at hr hi
    rw [ha] at h1
    rw [Nat.add_zero, h2] at hb
    injection h1 with h1
    injection hb with hb
    have e1 : a = a' := by omega
    have e2 : b' = b := by omega
    rw [e1, ← e2]
    exact .single h3
  | k + 1, i, a, b, hi, ha, hb => by
    have hl : (i + k + 1) % r.length < r.length := Nat.mod_lt _ (by omega)
    obtain ⟨a', b', h1, h2, _, _, _, _, h3⟩ := ring_at hr hl
    have ih := ring_way hr k i a a' hi ha h1
    rw [Nat.mod_add_mod, show i + k + 1 + 1 = i + (k + 1) + 1 by omega] at h2
    rw [h2] at hb
    injection hb with hb
    have e2 : b' = b := by omega
    rw [← e2]
    exact .tail ih h3
theorem ring_reach {E : List (Int × Int)} (h : okE E) {r : List Int} (hr : ringE E r) {i a : Nat} (hi : i < r.length) (ha : r[i]? = some (a : Int)) : reachF E a a = true := by
  refine (reachF_way h).2 (ring_way hr (r.length - 1) i a a hi ha ?_)
  rw [show i + (r.length - 1) + 1 = i + r.length by omega, Nat.add_mod_right, Nat.mod_eq_of_lt hi]
  exact ha
end Go.Proofs.YtaaahfbcpgdoiaaGreatDoor


namespace Go.Proofs.YtaaahfbcpgdoiaaGreatDoor
open Go.RowKit

/-! ### One behind the other. -/
def alongL (D : List HOp) (o : List Int) : List HOp := o.flatMap (ownL D)
theorem alongL_append (D : List HOp) (a b : List Int) : alongL D (a ++ b) = alongL D a ++ alongL D b := by simp [alongL]
theorem alongL_cons (D : List HOp) (t : Int) (b : List Int) : alongL D (t :: b) = ownL D t ++ alongL D b := by simp [alongL]
theorem ownL_tx {D : List HOp} {t : Int} {o : HOp} (h : o ∈ ownL D t) : o ∈ D ∧ o.tx = t := by
  unfold ownL at h
  rw [List.mem_filter] at h
  exact ⟨h.1, by simpa using h.2⟩
theorem mem_along {D : List HOp} {o : List Int} {x : HOp} : x ∈ alongL D o ↔ x ∈ D ∧ x.tx ∈ o := by
  unfold alongL
  rw [List.mem_flatMap]
  constructor
  · rintro ⟨t, h1, h2⟩
    obtain ⟨h3, h4⟩ := ownL_tx h2
    exact ⟨h3, by rw [h4]; exact h1⟩
  · rintro ⟨h1, h2⟩
    exact ⟨x.tx, h2, by unfold ownL; rw [List.mem_filter]; exact ⟨h1, by simp⟩⟩
theorem ownL_own (D : List HOp) (s t : Int) : ownL (ownL D s) t = if s = t then ownL D t else [] := by
  by_cases e : s = t
  · subst e
    rw [if_pos rfl]
    unfold ownL
    rw [List.filter_filter]
    simp
  · rw [if_neg e]
    unfold ownL
    rw [List.filter_filter, List.filter_eq_nil_iff]
    intro x _
    simp
    rintro h1 h2
    exact absurd (h2.symm.trans h1) e
theorem ownL_along (D : List HOp) (t : Int) : ∀ {o : List Int}, o.Nodup → ownL (alongL D o) t = if t ∈ o then ownL D t else []
  | [], _ => rfl
  | s :: o, hn => by
    obtain ⟨h1, h2⟩ := List.nodup_cons.1 hn
    rw [alongL_cons, ownL_append, ownL_own, ownL_along D t h2]
    by_cases e : s = t
    · subst e
      rw [if_pos rfl, if_neg h1, if_pos (by simp), List.append_nil]
    · rw [if_neg e, List.nil_append]
      by_cases hm : t ∈ o
      · rw [if_pos hm, if_pos (by simp [hm])]
      · rw [if_neg hm, if_neg (by simp [hm]; exact fun e' => e e'.symm)]
theorem before_cut {o : List Int} {x y : Int} (h : beforeL o x y) : ∃ u v, o = u ++ v ∧ x ∈ u ∧ y ∈ v := by
  obtain ⟨i, j, hij, hi, hj⟩ := h
  refine ⟨o.take j, o.drop j, (List.take_append_drop _ _).symm, ?_, ?_⟩
  · exact List.mem_iff_getElem?.2 ⟨i, by rw [List.getElem?_take, if_pos hij]; exact hi⟩
  · exact List.mem_iff_getElem?.2 ⟨0, by rw [List.getElem?_drop]; exact hj⟩
theorem cut_before {u v : List Int} {x y : Int} (hx : x ∈ u) (hy : y ∈ v) : beforeL (u ++ v) x y := by
  obtain ⟨i, hi⟩ := List.mem_iff_getElem?.1 hx
  obtain ⟨j, hj⟩ := List.mem_iff_getElem?.1 hy
  have hl := (List.getElem?_eq_some_iff.1 hi).1
  exact ⟨i, u.length + j, by omega, by rw [List.getElem?_append_left hl]; exact hi, by rw [List.getElem?_append_right (by omega), Nat.add_sub_cancel_left]; exact hj⟩
/-- In a history along an order the ops of an earlier deal stand ahead. -/
theorem along_lt {D : List HOp} {o : List Int} (hn : o.Nodup) {x y : HOp} (hb : beforeL o x.tx y.tx) {i k : Nat} (hi : (alongL D o)[i]? = some x) (hk : (alongL D o)[k]? = some y) : i < k := by
  obtain ⟨u, v, rfl, hu, hv⟩ := before_cut hb
  rw [alongL_append] at hi hk
  have hd := List.nodup_append.1 hn
  have h1 : i < (alongL D u).length := by
    rcases Nat.lt_or_ge i (alongL D u).length with h | h
    · exact h
    · rw [List.getElem?_append_right h] at hi
      have := (mem_along.1 (List.mem_of_getElem? hi)).2
      exact absurd rfl (hd.2.2 x.tx hu x.tx this)
  have h2 : (alongL D u).length ≤ k := by
    rcases Nat.lt_or_ge k (alongL D u).length with h | h
    · rw [List.getElem?_append_left h] at hk
      have := (mem_along.1 (List.mem_of_getElem? hk)).2
      exact absurd rfl (hd.2.2 y.tx this y.tx hv)
    · exact h
  omega
theorem along_sw {D : List HOp} {o : List Int} (hn : o.Nodup) (hall : ∀ x ∈ D, x.tx ∈ o) (he : ∀ e ∈ edgeP D, beforeL o e.1 e.2) : Sw D (alongL D o) := by
  refine alike_sw D _ (fun t => ?_) ?_
  · rw [ownL_along D t hn]
    by_cases hm : t ∈ o
    · rw [if_pos hm]
    · rw [if_neg hm]
      unfold ownL
      rw [List.filter_eq_nil_iff]
      intro x hx
      simp
      intro e
      exact hm (by rw [← e]; exact hall x hx)
  · intro i k a b hik ha hb hab i' k' ha' hb' _ _
    exact along_lt hn (he (a.tx, b.tx) (mem_edgeP.2 ⟨i, k, a, b, hik, ha, hb, hab, rfl, rfl⟩)) ha' hb'
/-- Along an order all edges go forward. -/
theorem along_edges {D : List HOp} {o : List Int} (hn : o.Nodup) {e : Int × Int} (he : e ∈ edgeP (alongL D o)) : beforeL o e.1 e.2 := by
  obtain ⟨x, y⟩ := e
  obtain ⟨i, k, a, b, hik, ha, hb, hab, rfl, rfl⟩ := mem_edgeP.1 he
  have hao := (mem_along.1 (List.mem_of_getElem? ha)).2
  have hbo := (mem_along.1 (List.mem_of_getElem? hb)).2
  have hne : a.tx ≠ b.tx := by
    unfold oddB at hab
    exact (of_decide_eq_true hab).1
  obtain ⟨p, hp⟩ := List.mem_iff_getElem?.1 hao
  obtain ⟨q, hq⟩ := List.mem_iff_getElem?.1 hbo
  rcases Nat.lt_trichotomy p q with h | h | h
  · exact ⟨p, q, h, hp, hq⟩
  · subst h
    rw [hp] at hq
    injection hq with hq
    exact absurd hq hne
  · have := along_lt hn (x := b) (y := a) ⟨q, p, h, hq, hp⟩ hb ha
    omega
theorem edgeP_mem {D : List HOp} {e : Int × Int} (he : e ∈ edgeP D) : (∃ a ∈ D, a.tx = e.1) ∧ ∃ b ∈ D, b.tx = e.2 := by
  obtain ⟨x, y⟩ := e
  obtain ⟨i, k, a, b, _, ha, hb, _, rfl, rfl⟩ := mem_edgeP.1 he
  exact ⟨⟨a, List.mem_of_getElem? ha, rfl⟩, b, List.mem_of_getElem? hb, rfl⟩

/-! ### Deals of a history. -/
def dealsL (h : List HOp) : List Int := sortS ltI (h.map (·.tx))
theorem mem_dealsL {h : List HOp} {t : Int} : t ∈ dealsL h ↔ ∃ o ∈ h, o.tx = t := by
  unfold dealsL
  rw [mem_sortS, List.mem_map]
theorem dealsL_up (h : List HOp) : Up ltI (dealsL h) := up_sortS sloI _
theorem dealsL_nodup (h : List HOp) : (dealsL h).Nodup := up_nodup (dealsL_up h)

/-! ### An order of deals along edges, in general. -/
theorem topF_up {E : List (Int × Int)} {d : List Int} (hd : Up ltI d) : topF E d = topGo E d.length d [] := by
  unfold topF
  rw [sortI_of_up hd]
theorem top_some {E : List (Int × Int)} {d o : List Int} (hd : Up ltI d) (ho : topF E d = some o) : o.Nodup ∧ (∀ x, x ∈ o ↔ x ∈ d) ∧ ∀ e ∈ E, e.1 ∈ d → e.2 ∈ d → beforeL o e.1 e.2 := by
  rw [topF_up hd] at ho
  obtain ⟨s, h1, h2, h3, h4⟩ := topGo_spec E _ _ _ _ rfl (up_nodup hd) ho
  rw [List.nil_append] at h1
  subst h1
  exact ⟨h2, h3, h4⟩
theorem top_none {E : List (Int × Int)} {d : List Int} (hd : Up ltI d) (hb : ∀ x ∈ d, 1 ≤ x ∧ x ≤ 6) (ho : topF E d = none) : ∃ r, ringE E r := by
  rw [topF_up hd] at ho
  exact topGo_none E _ _ _ rfl hb ho
/-- Where all edges go forward along an order there is no ring. -/
theorem order_ring {E : List (Int × Int)} {o r : List Int} (hn : o.Nodup) (h3 : ∀ e ∈ E, beforeL o e.1 e.2) (hr : ringE E r) : False := by
  obtain ⟨l1, _⟩ := ringE_len hr
  have hstep : ∀ k : Nat, ∀ x y : Int, r[0]? = some x → r[k]? = some y → ∀ i : Nat, o[i]? = some x → ∃ j : Nat, o[j]? = some y ∧ i ≤ j := by
    intro k
    induction k with
    | zero =>
      intro x y hx hy i hi
      rw [hx] at hy
      injection hy with hy
      exact ⟨i, by rw [← hy]; exact hi, Nat.le_refl _⟩
    | succ k ih =>
      intro x y hx hy i hi
      have hkl := (List.getElem?_eq_some_iff.1 hy).1
      have hz : r[k]? = some (r[k]'(by omega)) := List.getElem?_eq_getElem (by omega)
      obtain ⟨j, hj, hij⟩ := ih x _ hx hz i hi
      obtain ⟨a, b, hab, ha, hb⟩ := h3 _ (hr.1 k _ _ hz hy)
      have := idx_inj hn ha hj
      exact ⟨b, hb, by omega⟩
  have hx : r[0]? = some (r[0]'(by omega)) := List.getElem?_eq_getElem (by omega)
  have hy : r[r.length - 1]? = some (r[r.length - 1]'(by omega)) := List.getElem?_eq_getElem (by omega)
  have hc := hr.2.2.2.2
  rw [lastD_at hy (by omega), headD_at hx] at hc
  obtain ⟨a, b, hab, ha, hb⟩ := h3 _ hc
  obtain ⟨j, hj, hbj⟩ := hstep _ _ _ hx hy b hb
  have := idx_inj hn ha hj
  omega

/-! ### The order of a history. -/
def orderOf (h : List HOp) : Option (List Int) := topF (edgesF h) (dealsL (doneL h))
theorem mem_edgesF {h : List HOp} {e : Int × Int} : e ∈ edgesF h ↔ e ∈ edgeP (doneL h) := by unfold edgesF; rw [mem_sortS]
theorem orderOf_some {h : List HOp} {o : List Int} (ho : orderOf h = some o) : o.Nodup ∧ (∀ x, x ∈ o ↔ x ∈ dealsL (doneL h)) ∧ ∀ e ∈ edgeP (doneL h), beforeL o e.1 e.2 := by
  obtain ⟨h1, h2, h3⟩ := top_some (dealsL_up _) ho
  refine ⟨h1, h2, fun e he => ?_⟩
  obtain ⟨g1, g2⟩ := edgeP_mem he
  exact h3 e (mem_edgesF.2 he) (mem_dealsL.2 g1) (mem_dealsL.2 g2)
theorem orderOf_sw {h : List HOp} {o : List Int} (ho : orderOf h = some o) : Sw (doneL h) (alongL (doneL h) o) := by
  obtain ⟨h1, h2, h3⟩ := orderOf_some ho
  exact along_sw h1 (fun x hx => (h2 _).2 (mem_dealsL.2 ⟨x, hx, rfl⟩)) h3
theorem done_tx {h : List HOp} (ht : ∀ o ∈ h, 1 ≤ o.tx ∧ o.tx ≤ 6) : ∀ o ∈ doneL h, 1 ≤ o.tx ∧ o.tx ≤ 6 := fun o ho => ht o ((mem_doneL ht).1 ho).1
theorem orderOf_none {h : List HOp} (ht : ∀ o ∈ h, 1 ≤ o.tx ∧ o.tx ≤ 6) (ho : orderOf h = none) : ∃ r, ringE (edgesF h) r :=
  top_none (dealsL_up _) (fun x hx => by
    obtain ⟨o, h1, rfl⟩ := mem_dealsL.1 hx
    exact done_tx ht o h1) ho
theorem edgeP_done {h : List HOp} (ht : ∀ o ∈ h, 1 ≤ o.tx ∧ o.tx ≤ 6) : edgesF (doneL h) = edgesF h := by
  unfold edgesF
  rw [doneL_doneL ht]
/-- Where a serial history is alike there is an order. -/
theorem serial_order {h : List HOp} (ht : ∀ o ∈ h, 1 ≤ o.tx ∧ o.tx ≤ 6) {p : List Int} (hn : p.Nodup) (hs : Sw (alongL (doneL h) p) (doneL h)) : ∃ o, orderOf h = some o := by
  cases ho : orderOf h with
  | some o => exact ⟨o, rfl⟩
  | none =>
    exfalso
    obtain ⟨r, hr⟩ := orderOf_none ht ho
    refine order_ring hn (fun e he => ?_) hr
    refine along_edges (D := doneL h) hn ?_
    have h1 : e ∈ edgeP (doneL h) := mem_edgesF.1 he
    exact (Sw.inv (P := fun _ => True) (fun l => (e ∈ edgeP l)) (fun p q a b _ ho _ => propext (edgeP_swap ho p e)) hs (fun _ _ => trivial)).mpr h1
end Go.Proofs.YtaaahfbcpgdoiaaGreatDoor


/-
  CONTRACTS of history.Done, view.Last; plain facts on what is done.
  PLAIN LAWS of odds.Alike: the names of ops (a deal, and which op of that it is), the pairs of a history, and when two histories are alike.
-/
import Derived.Test.YtaaahfbcpgdoiaaGreatDoorQ7

namespace Go.Proofs.YtaaahfbcpgdoiaaGreatDoor
open Go.RowKit

/-! ### What is done, plainly. -/
theorem flagsGo_get (h : List HOp) (ht : ∀ o ∈ h, 1 ≤ o.tx ∧ o.tx ≤ 6) : ∀ (es : List Bool), es.length = 7 → ∀ t : Nat, (flagsGo es h).getD t false = true ↔ (es.getD t false = true ∨ ∃ o ∈ h, o.tx.toNat = t ∧ o.what = 3) := by
  induction h with
  | nil => intro es _ t; simp [flagsGo]
  | cons o r ih =>
    intro es hes t
    have hto := ht o (by simp)
    rw [flagsGo, ih (fun x hx => ht x (by simp [hx])) _ (by simpa using hes)]
    simp only [List.getD_eq_getElem?_getD, List.mem_cons, exists_eq_or_imp]
    by_cases hx : o.tx.toNat = t
    · subst hx
      rw [List.getElem?_set_self (by omega)]
      simp [or_assoc]
    · rw [List.getElem?_set_ne hx]
      simp [hx]
theorem flagsF_get {h : List HOp} (ht : ∀ o ∈ h, 1 ≤ o.tx ∧ o.tx ≤ 6) (t : Nat) : (flagsF h).getD t false = true ↔ ∃ o ∈ h, o.tx.toNat = t ∧ o.what = 3 := by
  rw [flagsF, flagsGo_get h ht _ (by simp)]
  constructor
  · rintro (h1 | h1)
    · simp only [List.getD_eq_getElem?_getD, List.getElem?_replicate] at h1
      split at h1 <;> simp at h1
    · exact h1
  · exact .inr
theorem mem_doneL {h : List HOp} (ht : ∀ o ∈ h, 1 ≤ o.tx ∧ o.tx ≤ 6) {o : HOp} : o ∈ doneL h ↔ o ∈ h ∧ ∃ c ∈ h, c.tx = o.tx ∧ c.what = 3 := by
  rw [doneL, List.mem_filter, flagsF_get ht]
  constructor
  · rintro ⟨h1, c, hc, h2, h3⟩
    have := ht c hc; have := ht o h1
    exact ⟨h1, c, hc, by omega, h3⟩
  · rintro ⟨h1, c, hc, h2, h3⟩
    exact ⟨h1, c, hc, by rw [h2], h3⟩
theorem doneL_doneL {h : List HOp} (ht : ∀ o ∈ h, 1 ≤ o.tx ∧ o.tx ≤ 6) : doneL (doneL h) = doneL h := by
  have ht2 : ∀ o ∈ doneL h, 1 ≤ o.tx ∧ o.tx ≤ 6 := fun o ho => ht o ((mem_doneL ht).1 ho).1
  show (doneL h).filter _ = doneL h
  rw [List.filter_eq_self]
  intro o ho
  rw [flagsF_get ht2]
  obtain ⟨h1, c, hc, h2, h3⟩ := (mem_doneL ht).1 ho
  exact ⟨c, (mem_doneL ht).2 ⟨hc, c, hc, rfl, h3⟩, by rw [h2], h3⟩
theorem checkGo_filter (p : Nat → Bool) (h : List HOp) (ht : ∀ o ∈ h, 1 ≤ o.tx ∧ o.tx ≤ 6) : ∀ (es es' : List Bool) (i j : Nat), es.length = 7 → es'.length = 7 → (∀ t, p t = true → es'.getD t false = es.getD t false) →
    checkGo es i h = (0, 0) → checkGo es' j (h.filter fun o => p o.tx.toNat) = (0, 0) := by
  induction h with
  | nil => intros; rfl
  | cons o r ih =>
    intro es es' i j hl hl' hp hc
    have hto := ht o (by simp)
    have htr : ∀ o ∈ r, 1 ≤ o.tx ∧ o.tx ≤ 6 := fun x hx => ht x (by simp [hx])
    unfold checkGo at hc
    split at hc
    · simp at hc
    rename_i h1
    split at hc
    · simp at hc
    rename_i h2
    cases hpo : p o.tx.toNat
    · rw [List.filter_cons_of_neg (by simp [hpo])]
      refine ih htr _ es' _ j (by simpa using hl) hl' (fun t ht' => ?_) hc
      rw [hp t ht', List.getD_eq_getElem?_getD, List.getD_eq_getElem?_getD, List.getElem?_set_ne (by rintro rfl; rw [hpo] at ht'; cases ht')]
    · rw [List.filter_cons_of_pos (by simp [hpo])]
      unfold checkGo
      rw [if_neg h1, if_neg (by rw [hp _ hpo]; exact h2)]
      refine ih htr _ _ _ _ (by simpa using hl) (by simpa using hl') (fun t ht' => ?_) hc
      by_cases hx : o.tx.toNat = t
      · subst hx
        simp only [List.getD_eq_getElem?_getD]
        rw [List.getElem?_set_self (by omega), List.getElem?_set_self (by omega)]
      · simp only [List.getD_eq_getElem?_getD]
        rw [List.getElem?_set_ne hx, List.getElem?_set_ne hx]
        simpa only [List.getD_eq_getElem?_getD] using hp t ht'
theorem okH_filter {h : List HOp} (hk : okH h) (p : Nat → Bool) : okH (h.filter fun o => p o.tx.toNat) := by
  have := checkGo_filter p h (okH_tx hk) (List.replicate 7 false) (List.replicate 7 false) 0 0 (by simp) (by simp) (fun _ _ => rfl) (okH_go hk)
  unfold okH checkF
  rw [if_neg (by have := okH_len hk; have := List.length_filter_le (fun o : HOp => p o.tx.toNat) h; omega), this]
theorem okH_done {h : List HOp} (hk : okH h) : okH (doneL h) := okH_filter hk fun t => (flagsF h).getD t false
end Go.Proofs.YtaaahfbcpgdoiaaGreatDoor


namespace Go.Proofs.YtaaahfbcpgdoiaaGreatDoor
open Go.RowKit

def cntT (h : List HOp) (t : Int) : Nat := h.countP fun o => decide (o.tx = t)
def ownL (h : List HOp) (t : Int) : List HOp := h.filter fun o => decide (o.tx = t)
theorem cntT_own (h : List HOp) (t : Int) : (ownL h t).length = cntT h t := by unfold ownL cntT; rw [List.countP_eq_length_filter]
theorem cntT_append (a b : List HOp) (t : Int) : cntT (a ++ b) t = cntT a t + cntT b t := List.countP_append
theorem ownL_append (a b : List HOp) (t : Int) : ownL (a ++ b) t = ownL a t ++ ownL b t := List.filter_append ..
theorem cntT_snoc (h : List HOp) (o : HOp) (t : Int) : cntT (h ++ [o]) t = cntT h t + if o.tx = t then 1 else 0 := by
  rw [cntT_append]
  congr 1
  unfold cntT
  rw [List.countP_singleton]
  by_cases h : o.tx = t <;> simp [h]
theorem split_at {α : Type} {h : List α} {i : Nat} {o : α} (hi : h[i]? = some o) : h = h.take i ++ o :: h.drop (i + 1) := by
  obtain ⟨hl, rfl⟩ := List.getElem?_eq_some_iff.1 hi
  rw [← List.drop_eq_getElem_cons hl, List.take_append_drop]
theorem takeSnoc {α : Type} {l : List α} {k : Nat} {x : α} (h : l[k]? = some x) : l.take (k + 1) = l.take k ++ [x] := by rw [List.take_add_one, h]; rfl
theorem cntT_mono (h : List HOp) {i j : Nat} (hij : i ≤ j) (t : Int) : cntT (h.take i) t ≤ cntT (h.take j) t := by
  have e : h.take j = h.take i ++ (h.take j).drop i := by
    rw [show h.take i = (h.take j).take i by rw [List.take_take, Nat.min_eq_left hij], List.take_append_drop]
  rw [e, cntT_append]; omega
theorem own_app (a b : List HOp) (o : HOp) : (ownL (a ++ o :: b) o.tx)[cntT a o.tx]? = some o := by
  rw [ownL_append, List.getElem?_append_right (by rw [cntT_own]; exact Nat.le_refl _), cntT_own, Nat.sub_self]
  unfold ownL
  rw [List.filter_cons_of_pos (by simp)]
  rfl
theorem own_at {h : List HOp} {i : Nat} {o : HOp} (hi : h[i]? = some o) : (ownL h o.tx)[cntT (h.take i) o.tx]? = some o := by
  have := own_app (h.take i) (h.drop (i + 1)) o
  rwa [← split_at hi] at this
theorem at_own {t : Int} {o : HOp} : ∀ {h : List HOp} {n : Nat}, (ownL h t)[n]? = some o → ∃ i, h[i]? = some o ∧ o.tx = t ∧ cntT (h.take i) t = n
  | [], n, hn => by simp [ownL] at hn
  | p :: r, n, hn => by
    unfold ownL at hn
    by_cases hp : p.tx = t
    · rw [List.filter_cons_of_pos (by simpa using hp)] at hn
      cases n with
      | zero =>
        simp only [List.getElem?_cons_zero, Option.some.injEq] at hn
        subst hn
        exact ⟨0, rfl, hp, rfl⟩
      | succ n =>
        rw [List.getElem?_cons_succ] at hn
        obtain ⟨i, h1, h2, h3⟩ := at_own (h := r) hn
        refine ⟨i + 1, by simpa using h1, h2, ?_⟩
        rw [List.take_succ_cons]
        unfold cntT at h3 ⊢
        rw [List.countP_cons_of_pos (by simpa using hp), h3]
    · rw [List.filter_cons_of_neg (by simpa using hp)] at hn
      obtain ⟨i, h1, h2, h3⟩ := at_own (h := r) hn
      refine ⟨i + 1, by simpa using h1, h2, ?_⟩
      rw [List.take_succ_cons]
      unfold cntT at h3 ⊢
      rw [List.countP_cons_of_neg (by simpa using hp), h3]
theorem cntT_next {h : List HOp} {i : Nat} {o : HOp} (hi : h[i]? = some o) : cntT (h.take (i + 1)) o.tx = cntT (h.take i) o.tx + 1 := by
  rw [takeSnoc hi, cntT_snoc, if_pos rfl]
theorem cntT_lt {h : List HOp} {i j : Nat} {a : HOp} (ha : h[i]? = some a) (hij : i < j) : cntT (h.take i) a.tx < cntT (h.take j) a.tx := by
  have h1 := cntT_mono h (show i + 1 ≤ j by omega) a.tx
  rw [cntT_next ha] at h1
  omega
theorem name_inj {h : List HOp} {i j : Nat} {a b : HOp} (ha : h[i]? = some a) (hb : h[j]? = some b) (ht : a.tx = b.tx) (hc : cntT (h.take i) a.tx = cntT (h.take j) b.tx) : i = j := by
  rcases Nat.lt_trichotomy i j with hij | hij | hij
  · have := cntT_lt ha hij
    rw [ht] at this hc; omega
  · exact hij
  · have := cntT_lt hb hij
    rw [ht] at hc; omega
/-- The op of a name in another history that has the same ops of each deal. -/
theorem name_in {h g : List HOp} {i : Nat} {a : HOp} (ha : h[i]? = some a) (hs : ownL h a.tx = ownL g a.tx) : ∃ j, g[j]? = some a ∧ cntT (g.take j) a.tx = cntT (h.take i) a.tx := by
  have h1 := own_at ha
  rw [hs] at h1
  obtain ⟨j, h2, _, h3⟩ := at_own h1
  exact ⟨j, h2, h3⟩

/-! ### Names. -/
def nameAt (h : List HOp) (i : Nat) : Int × Int := match h[i]? with
  | some o => (o.tx, (cntT (h.take i) o.tx : Int) + 1)
  | none => (0, 0)
def namesF (h : List HOp) : List (Int × Int) := (List.range h.length).map (nameAt h)
theorem namesF_len (h : List HOp) : (namesF h).length = h.length := by simp [namesF]
theorem namesF_at {h : List HOp} {i : Nat} (hi : i < h.length) : (namesF h)[i]? = some (nameAt h i) := by
  unfold namesF
  rw [List.getElem?_map, List.getElem?_range hi, Option.map_some]
theorem nameAt_some {h : List HOp} {i : Nat} {o : HOp} (hi : h[i]? = some o) : nameAt h i = (o.tx, (cntT (h.take i) o.tx : Int) + 1) := by unfold nameAt; rw [hi]
theorem namesF_take (h : List HOp) {k : Nat} (hk : k ≤ h.length) : namesF (h.take k) = (List.range k).map (nameAt h) := by
  unfold namesF
  rw [List.length_take, Nat.min_eq_left hk]
  apply List.map_congr_left
  intro i hi
  rw [List.mem_range] at hi
  unfold nameAt
  rw [List.getElem?_take, if_pos hi, List.take_take, Nat.min_eq_left (by omega)]
theorem namesF_snoc {h : List HOp} {k : Nat} {o : HOp} (hk : h[k]? = some o) : namesF (h.take (k + 1)) = namesF (h.take k) ++ [(o.tx, (cntT (h.take (k + 1)) o.tx : Int))] := by
  have hl := (List.getElem?_eq_some_iff.1 hk).1
  rw [namesF_take h (by omega), namesF_take h (by omega), List.range_succ, List.map_append, List.map_singleton, nameAt_some hk, cntT_next hk]
  simp

/-! ### Pairs. -/
theorem mem_pairsAt {a : HOp} {i : Nat} : ∀ {l : List HOp} {k : Nat} {x y : Int}, (x, y) ∈ pairsAt a i k l ↔ x = i ∧ ∃ j b, l[j]? = some b ∧ y = ((k + j : Nat) : Int) ∧ oddB a b = true
  | [], k, x, y => by simp [pairsAt]
  | b :: t, k, x, y => by
    rw [pairsAt, List.mem_append, mem_pairsAt]
    constructor
    · rintro (h | ⟨h1, j, c, h2, h3, h4⟩)
      · split at h
        · rename_i ho
          simp only [List.mem_singleton, Prod.mk.injEq] at h
          exact ⟨h.1, 0, b, rfl, by simpa using h.2, ho⟩
        · cases h
      · exact ⟨h1, j + 1, c, by simpa using h2, by rw [h3]; congr 1; omega, h4⟩
    · rintro ⟨h1, j, c, h2, h3, h4⟩
      cases j with
      | zero =>
        simp only [List.getElem?_cons_zero, Option.some.injEq] at h2
        subst h2
        left
        rw [if_pos h4, h1, h3]
        simp
      | succ j =>
        rw [List.getElem?_cons_succ] at h2
        exact .inr ⟨h1, j, c, h2, by rw [h3]; congr 1; omega, h4⟩
theorem mem_pairsGo : ∀ {l : List HOp} {i : Nat} {x y : Int}, (x, y) ∈ pairsGo i l ↔ ∃ j k a b, j < k ∧ l[j]? = some a ∧ l[k]? = some b ∧ x = ((i + j : Nat) : Int) ∧ y = ((i + k : Nat) : Int) ∧ oddB a b = true
  | [], i, x, y => by simp [pairsGo]
  | p :: t, i, x, y => by
    rw [pairsGo, List.mem_append, mem_pairsAt, mem_pairsGo]
    constructor
    · rintro (⟨h1, j, b, h2, h3, h4⟩ | ⟨j, k, a, b, h1, h2, h3, h4, h5, h6⟩)
      · exact ⟨0, j + 1, p, b, by omega, rfl, by simpa using h2, by simpa using h1, by rw [h3]; congr 1; omega, h4⟩
      · exact ⟨j + 1, k + 1, a, b, by omega, by simpa using h2, by simpa using h3, by rw [h4]; congr 1; omega, by rw [h5]; congr 1; omega, h6⟩
    · rintro ⟨j, k, a, b, h1, h2, h3, h4, h5, h6⟩
      obtain ⟨k, rfl⟩ : ∃ k', k = k' + 1 := ⟨k - 1, by omega⟩
      rw [List.getElem?_cons_succ] at h3
      cases j with
      | zero =>
        simp only [List.getElem?_cons_zero, Option.some.injEq] at h2
        subst h2
        exact .inl ⟨by simpa using h4, k, b, h3, by rw [h5]; congr 1; omega, h6⟩
      | succ j =>
        rw [List.getElem?_cons_succ] at h2
        exact .inr ⟨j, k, a, b, by omega, h2, h3, by rw [h4]; congr 1; omega, by rw [h5]; congr 1; omega, h6⟩
theorem mem_pairsL {h : List HOp} {x y : Int} : (x, y) ∈ pairsL h ↔ ∃ (j k : Nat) (a b : HOp), j < k ∧ h[j]? = some a ∧ h[k]? = some b ∧ x = (j : Int) ∧ y = (k : Int) ∧ oddB a b = true := by
  unfold pairsL
  rw [mem_pairsGo]
  simp only [Nat.zero_add]

/-! ### Alike. -/
def pairN (h : List HOp) (p : Int × Int) : (Int × Int) × (Int × Int) := (nameAt h p.1.toNat, nameAt h p.2.toNat)
def sameOwnB (h g : List HOp) : Bool := [(1 : Int), 2, 3, 4, 5, 6].all fun t => decide (ownL h t = ownL g t)
def alikeB (h g : List HOp) : Bool := sameOwnB h g && (pairsL h).all fun p => decide (pairN h p ∈ (pairsL g).map (pairN g))
theorem sameOwnB_iff {h g : List HOp} : sameOwnB h g = true ↔ ∀ t : Int, 1 ≤ t → t ≤ 6 → ownL h t = ownL g t := by
  unfold sameOwnB
  rw [List.all_eq_true]
  constructor
  · intro hs t h1 h2
    have : t ∈ [(1 : Int), 2, 3, 4, 5, 6] := by simp; omega
    simpa using hs t this
  · intro hs t ht
    have : 1 ≤ t ∧ t ≤ 6 := by simp at ht; omega
    simpa using hs t this.1 this.2
/-- What is at odds stands in the same order in both. -/
def keepsOdds (h g : List HOp) : Prop := ∀ i k a b, i < k → h[i]? = some a → h[k]? = some b → oddB a b = true → ∀ i' k', g[i']? = some a → g[k']? = some b →
  cntT (g.take i') a.tx = cntT (h.take i) a.tx → cntT (g.take k') b.tx = cntT (h.take k) b.tx → i' < k'
theorem alikeB_iff {h g : List HOp} (ht : ∀ o ∈ h, 1 ≤ o.tx ∧ o.tx ≤ 6) : alikeB h g = true ↔ sameOwnB h g = true ∧ keepsOdds h g := by
  unfold alikeB
  rw [Bool.and_eq_true]
  constructor
  · rintro ⟨hs, hp⟩
    refine ⟨hs, fun i k a b hik ha hb ho i' k' ha' hb' hca hcb => ?_⟩
    have hm : ((i : Int), (k : Int)) ∈ pairsL h := mem_pairsL.2 ⟨i, k, a, b, hik, ha, hb, rfl, rfl, ho⟩
    have h1 := List.all_eq_true.1 hp _ hm
    rw [decide_eq_true_eq] at h1
    obtain ⟨⟨x, y⟩, hq, he⟩ := List.mem_map.1 h1
    obtain ⟨j, l, c, d, hjl, hc, hd, rfl, rfl, _⟩ := mem_pairsL.1 hq
    unfold pairN at he
    simp only [Int.toNat_natCast, nameAt_some ha, nameAt_some hb, nameAt_some hc, nameAt_some hd, Prod.mk.injEq] at he
    obtain ⟨⟨e1, e2⟩, e3, e4⟩ := he
    have f1 : j = i' := name_inj hc ha' e1 (by omega)
    have f2 : l = k' := name_inj hd hb' e3 (by omega)
    omega
  · rintro ⟨hs, hk⟩
    refine ⟨hs, List.all_eq_true.2 fun ⟨x, y⟩ hm => ?_⟩
    rw [decide_eq_true_eq]
    obtain ⟨i, k, a, b, hik, ha, hb, rfl, rfl, ho⟩ := mem_pairsL.1 hm
    have hta := ht a (List.mem_of_getElem? ha)
    have htb := ht b (List.mem_of_getElem? hb)
    obtain ⟨i', ha', hca⟩ := name_in ha (sameOwnB_iff.1 hs _ hta.1 hta.2)
    obtain ⟨k', hb', hcb⟩ := name_in hb (sameOwnB_iff.1 hs _ htb.1 htb.2)
    have hlt := hk i k a b hik ha hb ho i' k' ha' hb' hca hcb
    refine List.mem_map.2 ⟨((i' : Int), (k' : Int)), mem_pairsL.2 ⟨i', k', a, b, hlt, ha', hb', rfl, rfl, ho⟩, ?_⟩
    unfold pairN
    simp only [Int.toNat_natCast, nameAt_some ha, nameAt_some hb, nameAt_some ha', nameAt_some hb', hca, hcb]
end Go.Proofs.YtaaahfbcpgdoiaaGreatDoor


/-
  PLAIN LAWS for StampOrders: of what is told by numbers each that is at odds with one ahead is of a greater number; an order along rising edges.
-/
import Derived.Test.YtmamejkdheigjaaGreatDoorM2
import Derived.Test.YtmamejkdheigjaaGreatDoorSP1
import Derived.Test.YtmamejkdheigjaaGreatDoorN1

namespace Go.Proofs.YtmamejkdheigjaaGreatDoor
open Go.RowKit

/-! ### What is told by numbers: each that is at odds with one ahead is of a greater number. -/
structure TInv (pre : List HOp) (ms : List (Int × Int)) (told : List HOp) (vic : List Int) : Prop where
  ml : ms.length = 7
  ok : okH told
  len : told.length ≤ pre.length
  rd : ∀ x ∈ told, x.what = 1 → x.tx ≤ (ms.getD x.item.toNat (0, 0)).1
  wr : ∀ x ∈ told, x.what = 2 → x.tx ≤ (ms.getD x.item.toNat (0, 0)).2
  up : told.Pairwise fun a b => oddB a b = true → a.tx < b.tx
  en : ∀ t, endIn t told = true → t ∈ vic ∨ endIn t pre = true
  vi : ∀ v ∈ vic, ∃ l, ownL told v = l ++ [⟨v, 4, 0⟩]
  vr : ∀ v ∈ vic, 1 ≤ v ∧ v ≤ 6
def MsLe (ms ms' : List (Int × Int)) : Prop := ∀ i, (ms.getD i (0, 0)).1 ≤ (ms'.getD i (0, 0)).1 ∧ (ms.getD i (0, 0)).2 ≤ (ms'.getD i (0, 0)).2
theorem MsLe.refl (ms : List (Int × Int)) : MsLe ms ms := fun _ => ⟨Int.le_refl _, Int.le_refl _⟩
theorem MsLe.set {ms : List (Int × Int)} {i : Nat} {p : Int × Int} (h1 : (ms.getD i (0, 0)).1 ≤ p.1) (h2 : (ms.getD i (0, 0)).2 ≤ p.2) : MsLe ms (ms.set i p) := fun j => by
  simp only [List.getD_eq_getElem?_getD] at h1 h2 ⊢
  rw [List.getElem?_set]
  by_cases e : i = j
  · subst e
    rw [if_pos rfl]
    by_cases hl : i < ms.length
    · rw [if_pos hl]; exact ⟨h1, h2⟩
    · rw [if_neg hl, List.getElem?_eq_none (by omega)]; exact ⟨Int.le_refl _, Int.le_refl _⟩
  · rw [if_neg e]; exact ⟨Int.le_refl _, Int.le_refl _⟩
theorem getD_set {ms : List (Int × Int)} {i : Nat} {p : Int × Int} (h : i < ms.length) : (ms.set i p).getD i (0, 0) = p := by
  rw [List.getD_eq_getElem?_getD, List.getElem?_set, if_pos rfl, if_pos h]; rfl
theorem TInv.not_in {pre : List HOp} {ms : List (Int × Int)} {told : List HOp} {vic : List Int} (h : TInv pre ms told vic) {o : HOp} {r : List HOp} (hk : okH (pre ++ o :: r)) (hv : o.tx ∉ vic) : endIn o.tx told = false := by
  cases he : endIn o.tx told with
  | false => rfl
  | true =>
    rcases h.en o.tx he with h1 | h1
    · exact absurd h1 hv
    · rw [(okH_after hk).2] at h1
      cases h1
theorem pre_len {pre : List HOp} {o : HOp} {r : List HOp} (hk : okH (pre ++ o :: r)) : pre.length ≤ 39 := by
  have := okH_len hk
  simp at this
  omega
theorem TInv.tell {pre : List HOp} {ms ms' : List (Int × Int)} {told : List HOp} {vic : List Int} (h : TInv pre ms told vic) {o x : HOp} {r : List HOp} (hk : okH (pre ++ o :: r)) (hv : o.tx ∉ vic) (hl : ms'.length = 7) (hms : MsLe ms ms')
    (hx : x.tx = o.tx) (hxr : rightB x = true) (h1 : x.what = 1 → x.tx ≤ (ms'.getD x.item.toNat (0, 0)).1 ∧ (ms.getD x.item.toNat (0, 0)).2 ≤ x.tx)
    (h2 : x.what = 2 → x.tx ≤ (ms'.getD x.item.toNat (0, 0)).2 ∧ (ms.getD x.item.toNat (0, 0)).1 ≤ x.tx ∧ (ms.getD x.item.toNat (0, 0)).2 ≤ x.tx)
    (vic' : List Int) (hvic : vic' = vic ∧ x = o ∨ vic' = vic ++ [o.tx] ∧ x = ⟨o.tx, 4, 0⟩) : TInv (pre ++ [o]) ms' (told ++ [x]) vic' := by
  have hn := h.not_in hk hv
  have hp := pre_len hk
  have hlen := h.len
  have hor := (okH_after hk).1
  have hg := rightB_get hor
  refine ⟨hl, okH_snoc h.ok (by omega) hxr (by rw [hx]; exact hn), by simp; omega, ?_, ?_, ?_, ?_, ?_, ?_⟩
  · intro y hy hw
    rcases List.mem_append.1 hy with hy | hy
    · exact Int.le_trans (h.rd y hy hw) (hms _).1
    · rw [List.mem_singleton.1 hy] at hw ⊢; exact (h1 hw).1
  · intro y hy hw
    rcases List.mem_append.1 hy with hy | hy
    · exact Int.le_trans (h.wr y hy hw) (hms _).2
    · rw [List.mem_singleton.1 hy] at hw ⊢; exact (h2 hw).1
  · rw [List.pairwise_append]
    refine ⟨h.up, List.pairwise_singleton _ _, fun a ha b hb hab => ?_⟩
    rw [List.mem_singleton.1 hb] at hab ⊢
    unfold oddB at hab
    obtain ⟨g1, g2, g3, g4⟩ := of_decide_eq_true hab
    have hra := rightB_get (okH_right h.ok a ha)
    have hrx := rightB_get hxr
    have hle : a.tx ≤ x.tx := by
      by_cases ha2 : a.what = 2
      · have q := h.wr a ha ha2
        rw [g2] at q
        by_cases hx1 : x.what = 1
        · exact Int.le_trans q (h1 hx1).2
        · by_cases hx2 : x.what = 2
          · exact Int.le_trans q (h2 hx2).2.2
          · have := hrx.2.2.2.2.2 (by omega); omega
      · have hx2 : x.what = 2 := by exact g4.resolve_left ha2
        by_cases ha1 : a.what = 1
        · have q := h.rd a ha ha1
          rw [g2] at q
          exact Int.le_trans q (h2 hx2).2.1
        · have := hra.2.2.2.2.2 (by omega); omega
    omega
  · intro t ht
    rw [endIn_snoc, Bool.or_eq_true] at ht
    rcases ht with ht | ht
    · rcases h.en t ht with h5 | h5
      · rcases hvic with ⟨e, _⟩ | ⟨e, _⟩
        · left; rw [e]; exact h5
        · left; rw [e]; exact List.mem_append_left _ h5
      · right; rw [endIn_snoc, h5]; rfl
    · obtain ⟨h5, h6⟩ := of_decide_eq_true ht
      rcases hvic with ⟨_, e⟩ | ⟨e, _⟩
      · right
        rw [endIn_snoc, ← e, decide_eq_true (show x.tx = t ∧ 3 ≤ x.what from ⟨h5, h6⟩), Bool.or_true]
      · left; rw [e]; exact List.mem_append_right _ (by rw [← h5, hx]; exact List.mem_singleton.2 rfl)
  · intro v hvv
    rcases hvic with ⟨e, _⟩ | ⟨e, ex⟩
    · rw [e] at hvv
      obtain ⟨l, hl⟩ := h.vi v hvv
      refine ⟨l, ?_⟩
      rw [ownL_append, hl]
      have : ownL [x] v = [] := by
        unfold ownL
        rw [List.filter_eq_nil_iff]
        intro y hy
        rw [List.mem_singleton.1 hy]
        simp
        rintro rfl
        exact hv (by rw [← hx]; exact hvv)
      rw [this, List.append_nil]
    · rw [e] at hvv
      by_cases ev : v = o.tx
      · subst ev
        refine ⟨ownL told o.tx, ?_⟩
        rw [ownL_append, ex]
        simp [ownL]
      · have hvv2 : v ∈ vic := by
          rcases List.mem_append.1 hvv with h5 | h5
          · exact h5
          · exact absurd (List.mem_singleton.1 h5) ev
        obtain ⟨l, hl⟩ := h.vi v hvv2
        refine ⟨l, ?_⟩
        rw [ownL_append, hl]
        have : ownL [x] v = [] := by
          unfold ownL
          rw [List.filter_eq_nil_iff]
          intro y hy
          rw [List.mem_singleton.1 hy]
          simp
          rintro rfl
          exact ev hx
        rw [this, List.append_nil]
  · intro v hvv
    rcases hvic with ⟨e, _⟩ | ⟨e, _⟩
    · exact h.vr v (by rw [e] at hvv; exact hvv)
    · rw [e] at hvv
      rcases List.mem_append.1 hvv with h5 | h5
      · exact h.vr v h5
      · rw [List.mem_singleton.1 h5]; exact ⟨hg.1, hg.2.1⟩
theorem TInv.skip {pre : List HOp} {ms ms' : List (Int × Int)} {told : List HOp} {vic : List Int} (h : TInv pre ms told vic) (o : HOp) (hl : ms'.length = 7) (hms : MsLe ms ms') : TInv (pre ++ [o]) ms' told vic :=
  ⟨hl, h.ok, by have := h.len; simp; omega, fun x hx hw => Int.le_trans (h.rd x hx hw) (hms _).1, fun x hx hw => Int.le_trans (h.wr x hx hw) (hms _).2, h.up,
    fun t ht => (h.en t ht).imp id fun h5 => by rw [endIn_snoc, h5]; rfl, h.vi, h.vr⟩
theorem stampGo_inv (lv : Bool) : ∀ (rest pre : List HOp) (ms : List (Int × Int)) (told : List HOp) (vic : List Int), okH (pre ++ rest) → TInv pre ms told vic →
    ∃ ms', TInv (pre ++ rest) ms' (stampGo lv ms told vic rest).1 (stampGo lv ms told vic rest).2
  | [], pre, ms, told, vic, _, h => ⟨ms, by rw [List.append_nil]; exact h⟩
  | o :: t, pre, ms, told, vic, hk, h => by
    have hk2 : okH ((pre ++ [o]) ++ t) := by rw [List.append_assoc]; exact hk
    have goal : ∀ ms' told' vic', TInv (pre ++ [o]) ms' told' vic' → ∃ ms'', TInv (pre ++ o :: t) ms'' (stampGo lv ms' told' vic' t).1 (stampGo lv ms' told' vic' t).2 := fun ms' told' vic' hs => by
      obtain ⟨m, hm⟩ := stampGo_inv lv t (pre ++ [o]) ms' told' vic' hk2 hs
      exact ⟨m, by rw [List.append_assoc] at hm; exact hm⟩
    have hor := (okH_after hk).1
    have hg := rightB_get hor
    rw [stampGo]
    by_cases hv : o.tx ∈ vic
    · rw [if_pos hv]
      exact goal _ _ _ (h.skip o h.ml (MsLe.refl _))
    · rw [if_neg hv]
      by_cases he : endsB o = true
      · rw [if_pos he]
        unfold endsB at he
        have he := of_decide_eq_true he
        exact goal _ _ _ (h.tell hk hv h.ml (MsLe.refl _) rfl hor (fun h1 => by omega) (fun h1 => by omega) vic (.inl ⟨rfl, rfl⟩))
      · rw [if_neg he]
        have hit : 1 ≤ o.item ∧ o.item ≤ 6 := hg.2.2.2.2.1 (by unfold endsB at he; simp at he; omega)
        have hlt : o.item.toNat < ms.length := by rw [h.ml]; omega
        have hw12 : o.what = 1 ∨ o.what = 2 := by unfold endsB at he; simp at he; omega
        have hlen : ∀ p, (ms.set o.item.toNat p).length = 7 := fun p => by rw [List.length_set]; exact h.ml
        simp only
        have hr4 : rightB (⟨o.tx, 4, 0⟩ : HOp) = true := rightB_mk ⟨hg.1, hg.2.1, by simp, by simp, fun h => by simp at h, fun _ => rfl⟩
        unfold lookM
        generalize hm : ms.getD o.item.toNat (0, 0) = m
        obtain ⟨r, wv⟩ := m
        simp only
        have hset : ∀ p : Int × Int, r ≤ p.1 → wv ≤ p.2 → MsLe ms (ms.set o.item.toNat p) := fun p h1 h2 => MsLe.set (by rw [hm]; exact h1) (by rw [hm]; exact h2)
        have habort : ∀ ms', ms'.length = 7 → MsLe ms ms' → ∃ ms'', TInv (pre ++ o :: t) ms'' (stampGo lv ms' (told ++ [⟨o.tx, 4, 0⟩]) (vic ++ [o.tx]) t).1 (stampGo lv ms' (told ++ [⟨o.tx, 4, 0⟩]) (vic ++ [o.tx]) t).2 := fun ms' hl hms =>
          goal _ _ _ (h.tell hk hv hl hms (x := ⟨o.tx, 4, 0⟩) rfl hr4 (fun h1 => by simp at h1) (fun h1 => by simp at h1) (vic ++ [o.tx]) (.inr ⟨rfl, rfl⟩))
        by_cases h1 : o.what = 1
        · rw [if_pos h1]
          by_cases h2 : wv > o.tx
          · rw [if_pos h2, if_neg (by simp), if_pos (by rfl)]
            exact habort _ (hlen _) (hset _ (Int.le_refl _) (Int.le_refl _))
          · rw [if_neg h2, if_pos (by rfl)]
            refine goal _ _ _ (h.tell hk hv (hlen _) (hset _ (Int.le_max_left _ _) (Int.le_refl _)) rfl hor (fun _ => ?_) (fun h3 => by omega) vic (.inl ⟨rfl, rfl⟩))
            rw [getD_set hlt, hm]
            exact ⟨Int.le_max_right _ _, by simp only; omega⟩
        · rw [if_neg h1]
          have h12 : o.what = 2 := by omega
          by_cases h2 : r > o.tx ∨ (wv > o.tx ∧ lv = false)
          · rw [if_pos h2, if_neg (by simp), if_pos (by rfl)]
            exact habort _ (hlen _) (hset _ (Int.le_refl _) (Int.le_refl _))
          · rw [if_neg h2]
            by_cases h3 : wv > o.tx
            · rw [if_pos h3, if_neg (by simp), if_neg (by simp)]
              exact goal _ _ _ (h.skip o (hlen _) (hset _ (Int.le_refl _) (Int.le_refl _)))
            · rw [if_neg h3, if_pos (by rfl)]
              refine goal _ _ _ (h.tell hk hv (hlen _) (hset _ (Int.le_refl _) (by simp only; omega)) rfl hor (fun h4 => absurd h4 h1) (fun _ => ?_) vic (.inl ⟨rfl, rfl⟩))
              rw [getD_set hlt, hm]
              refine ⟨Int.le_refl _, ?_, ?_⟩
              · simp only; have := fun e => h2 (.inl e); omega
              · simp only; omega
theorem stamp_inv (lv : Bool) {h : List HOp} (hk : okH h) : ∃ ms, TInv h ms (stampF lv h).1 (stampF lv h).2 := by
  obtain ⟨ms, this⟩ := stampGo_inv lv h [] (List.replicate 7 (0, 0)) [] [] (by simpa using hk) ⟨by simp, by show (checkF _).2 = 0; decide, by simp, by simp, by simp, List.Pairwise.nil, by simp [endIn], by simp, by simp⟩
  exact ⟨ms, by rw [List.nil_append] at this; exact this⟩

/-! ### An order along rising edges is the deals, rising. -/
theorem topGo_rise {E : List (Int × Int)} (hE : ∀ e ∈ E, e.1 < e.2) : ∀ (f : Nat) (left acc : List Int), left.length = f → Up ltI left → topGo E f left acc = some (acc ++ left)
  | 0, left, acc, hl, _ => by rw [topGo, List.eq_nil_of_length_eq_zero hl, List.append_nil]
  | f + 1, [], _, hl, _ => by simp at hl
  | f + 1, d :: t, acc, hl, hu => by
    have hu' := List.pairwise_cons.1 hu
    have hrd : readyB E (d :: t) d = true := by
      unfold readyB
      rw [Bool.not_eq_true', List.any_eq_false]
      rintro ⟨x, y⟩ he hc
      unfold holdsE at hc
      simp only [Bool.and_eq_true, decide_eq_true_eq] at hc
      have h1 := hE _ he
      simp only at h1
      rcases List.mem_cons.1 hc.2 with h2 | h2
      · omega
      · have := hu'.1 x h2
        simp [ltI] at this
        omega
    have hidx : idxGo (readyB E (d :: t)) 0 (d :: t) = 0 := by
      rw [idxGo, if_pos hrd]
    rw [topGo, hidx, if_neg (by omega)]
    have e0 : (0 : Int).toNat = 0 := rfl
    rw [e0, List.eraseIdx_zero, List.tail_cons, topGo_rise hE f t _ (by simpa using hl) hu'.2]
    simp
theorem order_rise {h : List HOp} (hE : ∀ e ∈ edgesF h, e.1 < e.2) : orderOf h = some (dealsL (doneL h)) := by
  unfold orderOf
  rw [topF_up (dealsL_up _), topGo_rise hE _ _ _ rfl (dealsL_up _)]
  rfl
theorem stamp_edges (lv : Bool) {h : List HOp} (hk : okH h) : ∀ e ∈ edgesF (stampF lv h).1, e.1 < e.2 := by
  obtain ⟨ms, hs⟩ := stamp_inv lv hk
  intro ⟨x, y⟩ he
  obtain ⟨i, k, a, b, hik, ha, hb, hab, rfl, rfl⟩ := mem_edgeP.1 (mem_edgesF.1 he)
  have hP := hs.up.sublist (List.filter_sublist (l := (stampF lv h).1) (p := fun o => (flagsF (stampF lv h).1).getD o.tx.toNat false))
  obtain ⟨hi', ea⟩ := List.getElem?_eq_some_iff.1 ha
  obtain ⟨hk', eb⟩ := List.getElem?_eq_some_iff.1 hb
  have := List.pairwise_iff_getElem.1 hP i k hi' hk' hik
  have e1 : ((stampF lv h).1.filter fun o => (flagsF (stampF lv h).1).getD o.tx.toNat false)[i] = a := ea
  have e2 : ((stampF lv h).1.filter fun o => (flagsF (stampF lv h).1).getD o.tx.toNat false)[k] = b := eb
  rw [e1, e2] at this
  exact this hab
theorem stamp_orders (lv : Bool) {h : List HOp} (hk : okH h) : okH (stampF lv h).1 ∧ (∀ e ∈ edgesF (stampF lv h).1, e.1 < e.2) ∧ (∃ o, orderOf (stampF lv h).1 = some o ∧ Up ltI o) ∧ ∀ v ∈ (stampF lv h).2, 1 ≤ v ∧ v ≤ 6 ∧ ∃ l, ownL (stampF lv h).1 v = l ++ [⟨v, 4, 0⟩] := by
  obtain ⟨ms, hs⟩ := stamp_inv lv hk
  exact ⟨hs.ok, stamp_edges lv hk, ⟨_, order_rise (stamp_edges lv hk), dealsL_up _⟩, fun v hv => ⟨(hs.vr v hv).1, (hs.vr v hv).2, hs.vi v hv⟩⟩
end Go.Proofs.YtmamejkdheigjaaGreatDoor

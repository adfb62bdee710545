
/-
  PLAIN FACTS: how deals ended, by the program's array and by the reference's look; from whom is read; who is open; when a deal commits.
  PLAIN LAWS for FacesNest: each in the next; who is rigorous has an order: that in which its deals commit.
-/
import Derived.Test.YtaaahfbcpgdoiaaGreatDoorQ23
import Derived.Test.YtaaahfbcpgdoiaaGreatDoorQ32
import Derived.Test.YtaaahfbcpgdoiaaGreatDoorQ17
import Derived.Test.YtaaahfbcpgdoiaaGreatDoorQ35

namespace Go.Proofs.YtaaahfbcpgdoiaaGreatDoor
open Go.RowKit

theorem endedGo_app (es : List Int) (a b : List HOp) : endedGo es (a ++ b) = endedGo (endedGo es a) b := by
  induction a generalizing es with
  | nil => rfl
  | cons o t ih => rw [List.cons_append, endedGo, endedGo, ih]
theorem endedF_snoc (a : List HOp) (o : HOp) : endedF (a ++ [o]) = if endsB o then (endedF a).set o.tx.toNat o.what else endedF a := by
  rw [endedF, endedGo_app]; rfl
theorem endsB_iff {o : HOp} (hr : rightB o = true) : endsB o = decide (3 ≤ o.what) := by
  obtain ⟨_, _, w1, w2, _, _⟩ := rightB_get hr
  unfold endsB
  by_cases h : 3 ≤ o.what
  · rw [decide_eq_true h, decide_eq_true (by omega)]
  · rw [decide_eq_false h, decide_eq_false (by omega)]
theorem endedF_get {h : List HOp} (hk : okH h) : ∀ (k : Nat) (t : Int), 1 ≤ t → t ≤ 6 → (endedF (h.take k)).getD t.toNat 0 = endGo t (h.take k) := by
  intro k
  induction k with
  | zero =>
    intro t h1 h2
    simp only [List.take_zero, endedF, endedGo, endGo, List.getD_eq_getElem?_getD, List.getElem?_replicate]
    split <;> rfl
  | succ k ih =>
    intro t h1 h2
    rcases Nat.lt_or_ge k h.length with hlt | hge
    · have ho : h[k]? = some h[k] := List.getElem?_eq_getElem hlt
      have hs := take_snocF ho
      have hd : h = h.take k ++ h[k] :: h.drop (k + 1) := by rw [← List.drop_eq_getElem_cons hlt, List.take_append_drop]
      obtain ⟨hr, hn⟩ := okH_after (a := h.take k) (r := h.drop (k + 1)) (o := h[k]) (by rw [← hd]; exact hk)
      have h7 : (endedF (h.take k)).length = 7 := endedF_length _
      obtain ⟨t1, t2, _⟩ := rightB_get hr
      rw [hs, endedF_snoc, endsB_iff hr, endGo_app]
      by_cases hw : 3 ≤ (h[k]).what
      · rw [decide_eq_true hw, if_pos rfl]
        by_cases ht : (h[k]).tx = t
        · subst ht
          rw [List.getD_eq_getElem?_getD, List.getElem?_set_self (by omega), hn, if_neg (by simp)]
          simp [endGo, hw]
        · rw [List.getD_eq_getElem?_getD, List.getElem?_set_ne (by omega), ← List.getD_eq_getElem?_getD, ih t h1 h2]
          split
          · rfl
          · rename_i he; rw [endGo_zero.2 (by simpa using he)]; simp [endGo, ht]
      · rw [decide_eq_false hw, if_neg (by simp), ih t h1 h2]
        split
        · rfl
        · rename_i he; rw [endGo_zero.2 (by simpa using he)]; simp [endGo, hw]
    · rw [List.take_of_length_le (by omega), ← List.take_of_length_le (l := h) (i := k) hge]; exact ih t h1 h2

/-- The deal of the last op that a test takes; else acc. -/
def lastTx (p : HOp → Bool) (acc : Int) : List HOp → Int
  | [] => acc
  | o :: t => lastTx p (if p o then o.tx else acc) t
theorem lastTx_find (p : HOp → Bool) (l : List HOp) : ∀ acc, lastTx p acc l = match l.reverse.find? p with | some o => o.tx | none => acc := by
  induction l with
  | nil => intro acc; rfl
  | cons o t ih =>
    intro acc
    rw [lastTx, ih, List.reverse_cons, List.find?_append]
    cases hf : t.reverse.find? p with
    | some x => simp
    | none =>
      cases hp : p o <;> simp [hp]
theorem lastTx_congr {p q : HOp → Bool} {l : List HOp} (h : ∀ o ∈ l, p o = q o) : ∀ acc, lastTx p acc l = lastTx q acc l := by
  induction l with
  | nil => intro acc; rfl
  | cons o t ih =>
    intro acc
    rw [lastTx, lastTx, h o (by simp), ih (fun x hx => h x (by simp [hx]))]
theorem lastTx_snoc (p : HOp → Bool) (acc : Int) (l : List HOp) (o : HOp) : lastTx p acc (l ++ [o]) = if p o then o.tx else lastTx p acc l := by
  induction l generalizing acc with
  | nil => rfl
  | cons x t ih => rw [List.cons_append, lastTx, lastTx, ih]
theorem fromB_last (pre : List HOp) (x : HOp) : fromB pre x = lastTx (fromT (endedF pre) x) 0 pre := by rw [fromB, lastTx_find]; cases pre.reverse.find? (fromT (endedF pre) x) <;> rfl
/-- The reference's tests. -/
def rfromT (pre : List HOp) (x o : HOp) : Bool := decide (o.what = 2 ∧ o.item = x.item ∧ endGo o.tx pre ≠ 4)
def ropenT (pre : List HOp) (x : HOp) (what : Int) (o : HOp) : Bool := decide (o.what = what ∧ o.item = x.item ∧ o.tx ≠ x.tx ∧ endGo o.tx pre = 0)
theorem rfrom_eq {h : List HOp} (hk : okH h) (k : Nat) (x : HOp) : lastTx (rfromT (h.take k) x) 0 (h.take k) = fromB (h.take k) x := by
  rw [fromB_last]
  refine lastTx_congr (fun o ho => ?_) 0
  have := okH_tx hk o (List.mem_of_mem_take ho)
  unfold rfromT fromT
  rw [endedF_get hk k o.tx this.1 this.2]
theorem ropen_eq {h : List HOp} (hk : okH h) (k : Nat) (x : HOp) (what : Int) : (h.take k).any (ropenT (h.take k) x what) = openB (h.take k) x what := by
  unfold openB
  rw [Bool.eq_iff_iff, List.any_eq_true, List.any_eq_true]
  have e : ∀ o ∈ h.take k, ropenT (h.take k) x what o = openT (endedF (h.take k)) x what o := fun o ho => by
    have := okH_tx hk o (List.mem_of_mem_take ho)
    unfold ropenT openT
    rw [endedF_get hk k o.tx this.1 this.2]
  constructor
  · rintro ⟨o, ho, h1⟩; exact ⟨o, ho, by rw [← e o ho]; exact h1⟩
  · rintro ⟨o, ho, h1⟩; exact ⟨o, ho, by rw [e o ho]; exact h1⟩
theorem idxGo_congr {α : Type} {p q : α → Bool} {l : List α} (h : ∀ o ∈ l, p o = q o) : ∀ k, idxGo p k l = idxGo q k l := by
  induction l with
  | nil => intro k; rfl
  | cons o t ih =>
    intro k
    rw [idxGo, idxGo, h o (by simp), ih (fun x hx => h x (by simp [hx]))]
def whenT (tx : Int) (o : HOp) : Bool := decide (o.tx = tx ∧ o.what = 3)
theorem when_eq {h : List HOp} (hk : okH h) (tx : Int) : idxGo (whenT tx) 0 h = idxGo (fun o => decide (o = HOp.mk tx 3 0)) 0 h := by
  refine idxGo_congr (fun o ho => ?_) 0
  obtain ⟨_, _, _, _, _, h6⟩ := rightB_get (okH_right hk o ho)
  rw [whenT, Bool.eq_iff_iff, decide_eq_true_iff, decide_eq_true_iff]
  constructor
  · rintro ⟨h1, h2⟩
    have h3 := h6 (by omega)
    obtain ⟨a, b, c⟩ := o
    simp only at h1 h2 h3
    subst h1 h2 h3; rfl
  · rintro rfl; exact ⟨rfl, rfl⟩
theorem idxGo_none {α : Type} (p : α → Bool) (h : List α) : idxGo p 0 h = -1 ∨ 0 ≤ idxGo p 0 h := by
  rcases idxGo_spec p 0 h with ⟨_, h2⟩ | ⟨i, o, _, _, _, h4⟩
  · exact .inl h2
  · right; omega
end Go.Proofs.YtaaahfbcpgdoiaaGreatDoor


namespace Go.Proofs.YtaaahfbcpgdoiaaGreatDoor
open Go.RowKit

/-! ### Who is rigorous is strict, who is strict is cautious, who is cautious is recoverable. -/
theorem scanB_at {p : List HOp → HOp → Bool} {h : List HOp} : scanB p [] h = true ↔ ∀ (k : Nat) (o : HOp), h[k]? = some o → p (h.take k) o = true := by
  suffices H : ∀ (l pre : List HOp), scanB p pre l = true ↔ ∀ (k : Nat) (o : HOp), l[k]? = some o → p (pre ++ l.take k) o = true by
    simpa using H h []
  intro l
  induction l with
  | nil => intro pre; simp [scanB]
  | cons x t ih =>
    intro pre
    rw [scanB, Bool.and_eq_true, ih]
    constructor
    · rintro ⟨h1, h2⟩ k o hk
      cases k with
      | zero =>
        simp only [List.getElem?_cons_zero, Option.some.injEq] at hk
        subst hk
        simpa using h1
      | succ k =>
        have := h2 k o (by simpa using hk)
        simpa using this
    · intro hall
      refine ⟨by simpa using hall 0 x rfl, fun k o hk => ?_⟩
      have := hall (k + 1) o (by simpa using hk)
      simpa using this
theorem fromB_or {pre : List HOp} {x : HOp} : fromB pre x = 0 ∨ ∃ o ∈ pre, o.tx = fromB pre x ∧ fromT (endedF pre) x o = true := by
  cases hf : pre.reverse.find? (fromT (endedF pre) x) with
  | none => left; unfold fromB; rw [hf]
  | some o =>
    right
    refine ⟨o, by simpa using List.mem_of_find?_eq_some hf, ?_, List.find?_some hf⟩
    unfold fromB; rw [hf]
theorem endGo_range (tx : Int) {h : List HOp} (hr : ∀ o ∈ h, rightB o = true) : endGo tx h = 0 ∨ endGo tx h = 3 ∨ endGo tx h = 4 := by
  cases he : endIn tx h
  · exact .inl (endGo_zero.2 he)
  · obtain ⟨o, h1, _, h3, h4⟩ := endGo_mem he
    obtain ⟨_, _, _, h5, _⟩ := rightB_get (hr o h1)
    rw [h4]; omega
theorem strict_caut {h : List HOp} (hk : okH h) (hs : scanB strictT [] h = true) : scanB cautT [] h = true := by
  rw [scanB_at] at hs ⊢
  intro k o ho
  have h1 := hs k o ho
  unfold strictT at h1
  unfold cautT
  by_cases he : endsB o = true
  · simp [he]
  · have he : endsB o = false := by simpa using he
    rw [he, Bool.false_or] at h1
    by_cases hw : o.what = 1
    · rcases fromB_or (pre := h.take k) (x := o) with h0 | ⟨x, hx, hxt, hxf⟩
      · simp [h0]
      · by_cases hown : fromB (h.take k) o = o.tx
        · simp [hown]
        · have hnot : openB (h.take k) o 2 = false := by simpa using h1
          unfold openB at hnot
          have h2 := List.any_eq_false.1 hnot x hx
          unfold fromT at hxf
          have h3 := of_decide_eq_true hxf
          have h4 : ¬ ((endedF (h.take k)).getD x.tx.toNat 0 = 0) := by
            intro h5
            apply h2
            unfold openT
            rw [decide_eq_true_iff]
            exact ⟨h3.1, h3.2.1, fun e => hown (by rw [← hxt]; exact e), h5⟩
          have ht := okH_tx hk x (List.mem_of_mem_take hx)
          have h5 := endedF_get hk k x.tx ht.1 ht.2
          have h6 := endGo_range x.tx (h := h.take k) (fun o ho => okH_right hk o (List.mem_of_mem_take ho))
          have h7 : (endedF (h.take k)).getD (fromB (h.take k) o).toNat 0 = 3 := by
            rw [← hxt]
            rw [h5] at h4 h3 ⊢
            rcases h6 with h6 | h6 | h6
            · exact absurd h6 h4
            · exact h6
            · exact absurd h6 h3.2.2
          rw [h7]
          simp
    · simp [hw]
theorem idx_when {h : List HOp} (hk : okH h) (t : Int) : (idxGo (fun x => decide (x = HOp.mk t 3 0)) 0 h = -1 ∧ ∀ o ∈ h, ¬ (o.tx = t ∧ o.what = 3)) ∨ ∃ i : Nat, idxGo (fun x => decide (x = HOp.mk t 3 0)) 0 h = i ∧ h[i]? = some ⟨t, 3, 0⟩ := by
  rcases idxGo_spec (fun x => decide (x = HOp.mk t 3 0)) 0 h with ⟨h1, h2⟩ | ⟨i, o, h1, h2, _, h4⟩
  · refine .inl ⟨h2, fun o ho hc => ?_⟩
    obtain ⟨_, _, _, _, _, h6⟩ := rightB_get (okH_right hk o ho)
    have := h1 o ho
    rw [decide_eq_false_iff_not] at this
    apply this
    obtain ⟨a, b, c⟩ := o
    simp only at hc h6
    rw [hc.1, hc.2, h6 (by omega)]
  · refine .inr ⟨i, by rw [h4]; omega, ?_⟩
    rw [h1]
    rw [decide_eq_true_iff] at h2
    rw [h2]
theorem caut_rec {h : List HOp} (hk : okH h) (hs : scanB cautT [] h = true) : recF h = true := by
  unfold recF
  rw [scanB_at] at hs ⊢
  intro k o ho
  have h1 := hs k o ho
  unfold cautT at h1
  unfold recT
  by_cases hw : o.what = 1
  · have he : endsB o = false := by unfold endsB; rw [decide_eq_false_iff_not]; omega
    by_cases h0 : fromB (h.take k) o = 0
    · simp [h0]
    · by_cases hown : fromB (h.take k) o = o.tx
      · simp [hown]
      · simp only [he, hw, h0, hown, decide_true, decide_false, Bool.not_true, Bool.false_or, Bool.or_false, decide_eq_true_eq] at h1
        have hrg := fromB_range (pre := h.take k) (x := o) (fun x hx => okH_tx hk x (List.mem_of_mem_take hx))
        have hr2 : 1 ≤ fromB (h.take k) o ∧ fromB (h.take k) o ≤ 6 := by omega
        rw [endedF_get hk k _ hr2.1 hr2.2] at h1
        generalize fromB (h.take k) o = f at *
        have he2 : endIn f (h.take k) = true := by
          rw [← endGo_in, h1]; omega
        obtain ⟨c, hc, hct, hc3, hcw⟩ := endGo_mem he2
        rw [h1] at hcw
        obtain ⟨j, hj⟩ := List.mem_iff_getElem?.1 hc
        have hjk : j < k := by have := (List.getElem?_eq_some_iff.1 hj).1; rw [List.length_take] at this; omega
        rw [List.getElem?_take, if_pos hjk] at hj
        have hfi : ∃ i : Nat, idxGo (fun x => decide (x = HOp.mk f 3 0)) 0 h = i ∧ i ≤ j := by
          rcases idx_when hk f with ⟨_, h3⟩ | ⟨i, h3, h4⟩
          · exact absurd ⟨hct, hcw.symm⟩ (h3 c (List.mem_of_getElem? hj))
          · exact ⟨i, h3, end_at hk h4 j c hj hct hc3⟩
        obtain ⟨i, hi, hij⟩ := hfi
        rw [hi]
        rcases idx_when hk o.tx with ⟨h3, _⟩ | ⟨m, h3, h4⟩
        · rw [h3]; simp
        · have := end_at hk ho m _ h4 rfl (by simp)
          rw [h3]
          have e1 : ¬ ((i : Int) < 0) := by omega
          have e2 : ¬ ((m : Int) < (i : Int)) := by omega
          simp [e1, e2]
  · simp [hw]

/-! ### Who is rigorous has an order: that in which deals commit. -/
def commitsL (h : List HOp) : List Int := (h.filter fun o => decide (o.what = 3)).map (·.tx)
theorem mem_commits {h : List HOp} {t : Int} : t ∈ commitsL h ↔ ∃ o ∈ h, o.tx = t ∧ o.what = 3 := by
  unfold commitsL
  rw [List.mem_map]
  constructor
  · rintro ⟨o, h1, h2⟩
    rw [List.mem_filter] at h1
    exact ⟨o, h1.1, h2, by simpa using h1.2⟩
  · rintro ⟨o, h1, h2, h3⟩
    exact ⟨o, List.mem_filter.2 ⟨h1, by simpa using h3⟩, h2⟩
theorem commitsL_append (a b : List HOp) : commitsL (a ++ b) = commitsL a ++ commitsL b := by simp [commitsL]
theorem commits_nodup {h : List HOp} (hk : okH h) : (commitsL h).Nodup := by
  have key : ∀ k : Nat, (commitsL (h.take k)).Nodup := by
    intro k
    induction k with
    | zero => simp [commitsL]
    | succ k ih =>
      rcases Nat.lt_or_ge k h.length with hlt | hge
      · have ho : h[k]? = some h[k] := List.getElem?_eq_getElem hlt
        obtain ⟨_, h2⟩ := okH_after (a := h.take k) (r := h.drop (k + 1)) (o := h[k]) (by rw [← split_at ho]; exact hk)
        rw [take_snocF ho, commitsL_append]
        by_cases hw : (h[k]).what = 3
        · have e : commitsL [h[k]] = [(h[k]).tx] := by simp [commitsL, hw]
          rw [e]
          refine List.nodup_append.2 ⟨ih, by simp, fun x hx y hy hxy => ?_⟩
          rw [List.mem_singleton] at hy
          subst hy
          obtain ⟨c, h3, h4, h5⟩ := mem_commits.1 hx
          unfold endIn at h2
          have := List.any_eq_false.1 h2 c h3
          simp at this
          have := this (h4.trans hxy)
          omega
        · have e : commitsL [h[k]] = [] := by simp [commitsL, hw]
          rw [e, List.append_nil]
          exact ih
      · rw [List.take_of_length_le (by omega), ← List.take_of_length_le (l := h) (i := k) hge]; exact ih
  have := key h.length
  rwa [List.take_length] at this
theorem commits_before {h : List HOp} {i j : Nat} {a b : HOp} (hij : i < j) (ha : h[i]? = some a) (hb : h[j]? = some b) (ha3 : a.what = 3) (hb3 : b.what = 3) : beforeL (commitsL h) a.tx b.tx := by
  have e : h = h.take j ++ h.drop j := (List.take_append_drop _ _).symm
  rw [e, commitsL_append]
  refine cut_before (mem_commits.2 ⟨a, List.mem_iff_getElem?.2 ⟨i, by rw [List.getElem?_take, if_pos hij]; exact ha⟩, rfl, ha3⟩) (mem_commits.2 ⟨b, List.mem_iff_getElem?.2 ⟨0, by rw [List.getElem?_drop]; exact hb⟩, rfl, hb3⟩)
theorem done_sub {h : List HOp} (p : HOp → Bool) : ∀ {i k : Nat} {a b : HOp}, i < k → (h.filter p)[i]? = some a → (h.filter p)[k]? = some b → ∃ i' k' : Nat, i' < k' ∧ h[i']? = some a ∧ h[k']? = some b := by
  induction h with
  | nil => intro i k a b _ ha; simp at ha
  | cons x t ih =>
    intro i k a b hik ha hb
    by_cases hx : p x = true
    · rw [List.filter_cons_of_pos hx] at ha hb
      obtain ⟨k, rfl⟩ : ∃ k', k = k' + 1 := ⟨k - 1, by omega⟩
      rw [List.getElem?_cons_succ] at hb
      cases i with
      | zero =>
        simp only [List.getElem?_cons_zero] at ha
        have hm := (List.mem_filter.1 (List.mem_of_getElem? hb)).1
        obtain ⟨k', hk'⟩ := List.mem_iff_getElem?.1 hm
        exact ⟨0, k' + 1, by omega, by simpa using ha, by simpa using hk'⟩
      | succ i =>
        rw [List.getElem?_cons_succ] at ha
        obtain ⟨i', k', h1, h2, h3⟩ := ih (by omega) ha hb
        exact ⟨i' + 1, k' + 1, by omega, by simpa using h2, by simpa using h3⟩
    · rw [List.filter_cons_of_neg hx] at ha hb
      obtain ⟨i', k', h1, h2, h3⟩ := ih hik ha hb
      exact ⟨i' + 1, k' + 1, by omega, by simpa using h2, by simpa using h3⟩
theorem rig_edges {h : List HOp} (hk : okH h) (hr : (facesF h).rig = true) : ∀ e ∈ edgeP (doneL h), beforeL (commitsL h) e.1 e.2 := by
  rintro ⟨x, y⟩ he
  obtain ⟨i, k, a, b, hik, ha, hb, hab, rfl, rfl⟩ := mem_edgeP.1 he
  have hta := (mem_doneL (okH_tx hk)).1 (List.mem_of_getElem? ha)
  have htb := (mem_doneL (okH_tx hk)).1 (List.mem_of_getElem? hb)
  obtain ⟨i', k', hik', ha', hb'⟩ := done_sub _ hik ha hb
  obtain ⟨_, ca, hca, hcat, hca3⟩ := hta
  obtain ⟨_, cb, hcb, hcbt, hcb3⟩ := htb
  obtain ⟨p, hp⟩ := List.mem_iff_getElem?.1 hca
  obtain ⟨q, hq⟩ := List.mem_iff_getElem?.1 hcb
  have hqk := end_at hk hb' q cb hq hcbt (by omega)
  unfold oddB at hab
  obtain ⟨o1, o2, o3, o4⟩ := of_decide_eq_true hab
  have hra := rightB_get (okH_right hk a (List.mem_of_getElem? ha'))
  have hrb := rightB_get (okH_right hk b (List.mem_of_getElem? hb'))
  -- b finds a open, unless a's deal has ended
  have hfin : endGo a.tx (h.take k') ≠ 0 := by
    intro h0
    have hae : endsB b = false := by
      unfold endsB
      rw [decide_eq_false_iff_not]
      intro hc
      have := hrb.2.2.2.2.2 (by omega)
      omega
    have haw : a.what < 3 := by
      by_cases h : a.what < 3
      · exact h
      · exact absurd (hra.2.2.2.2.2 (by omega)) o3
    have hopen : openB (h.take k') b a.what = true := by
      unfold openB
      refine List.any_eq_true.2 ⟨a, List.mem_iff_getElem?.2 ⟨i', by rw [List.getElem?_take, if_pos hik']; exact ha'⟩, ?_⟩
      unfold openT
      rw [decide_eq_true_iff, endedF_get hk k' a.tx hra.1 hra.2.1]
      exact ⟨rfl, o2, o1, h0⟩
    unfold facesF at hr
    simp only [Bool.and_eq_true] at hr
    have g1 := scanB_at.1 hr.1 k' b hb'
    have g2 := scanB_at.1 hr.2 k' b hb'
    unfold rigT at g1
    unfold strictT at g2
    rw [hae, Bool.false_or] at g1 g2
    have haw1 := hra.2.2.1
    obtain ha1 | ha2 : a.what = 1 ∨ a.what = 2 := by omega
    · rw [ha1] at hopen
      have hb2 : b.what = 2 := by omega
      rw [hopen, hb2] at g1
      simp at g1
    · rw [ha2] at hopen
      rw [hopen] at g2
      simp at g2
  have he2 : endIn a.tx (h.take k') = true := endGo_in.1 hfin
  obtain ⟨c, hc, hct, hc3, _⟩ := endGo_mem he2
  obtain ⟨j, hj⟩ := List.mem_iff_getElem?.1 hc
  have hjk : j < k' := by have := (List.getElem?_eq_some_iff.1 hj).1; rw [List.length_take] at this; omega
  rw [List.getElem?_take, if_pos hjk] at hj
  have hpj := end_at hk hp j c hj (by rw [hct, hcat]) hc3
  have := commits_before (h := h) (i := p) (j := q) (by omega) hp hq hca3 hcb3
  rw [hcat, hcbt] at this
  exact this
theorem commits_deals {h : List HOp} (hk : okH h) {t : Int} : t ∈ commitsL h ↔ t ∈ dealsL (doneL h) := by
  rw [mem_commits, mem_dealsL]
  constructor
  · rintro ⟨o, h1, h2, h3⟩
    exact ⟨o, (mem_doneL (okH_tx hk)).2 ⟨h1, o, h1, rfl, h3⟩, h2⟩
  · rintro ⟨o, h1, h2⟩
    obtain ⟨_, c, h3, h4, h5⟩ := (mem_doneL (okH_tx hk)).1 h1
    exact ⟨c, h3, by rw [h4, h2], h5⟩
theorem rig_serial {h : List HOp} (hk : okH h) (hr : (facesF h).rig = true) : Sw (doneL h) (alongL (doneL h) (commitsL h)) :=
  along_sw (commits_nodup hk) (fun x hx => (commits_deals hk).2 (mem_dealsL.2 ⟨x, hx, rfl⟩)) (rig_edges hk hr)
end Go.Proofs.YtaaahfbcpgdoiaaGreatDoor

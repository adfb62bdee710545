
/-
  PLAIN: what is left to do for a runner, as a number.
  PLAIN: what a runner keeps (WInv), who waits no more (Pend).
  CONTRACT of the reference's laneref2.Runner.free, from that of do.
-/
import Derived.Test.YtbccnafdfeempaaGreatDoorQ14
import Derived.Test.YtbccnafdfeempaaGreatDoorQ32
import Derived.Test.YtbccnafdfeempaaGreatDoorQ36
import Derived.Test.YtbccnafdfeempaaGreatDoorSWhom
import Derived.Deep.DeepCutAuto

namespace Go.Proofs.YtbccnafdfeempaaGreatDoor
open Go.RowKit

/-! ### What is left to do, as a number. -/
def hN (H : List HOp) : Nat := (sixI.filter fun t => H.any (ofTx t)).length
def bN (bh : Int → List HOp) : Nat := (bh 1).length + (bh 2).length + (bh 3).length + (bh 4).length + (bh 5).length + (bh 6).length
def tabN (T : LTab) : Nat := 2 * T.W.length + hN T.H
def phi (s : RSt) : Nat := 4 * bN s.bh + tabN s.T
def mu (s : RSt) : Nat := s.told.length + phi s
theorem filter_or_one {p q : Int → Bool} {x : Int} (h : ∀ t, p t = true → q t = true ∨ t = x) : ∀ (l : List Int), l.Nodup → (l.filter p).length ≤ (l.filter q).length + 1
  | [], _ => by simp
  | t :: l, hn => by
    obtain ⟨h1, h2⟩ := List.nodup_cons.1 hn
    have ih := filter_or_one h l h2
    by_cases hp : p t = true
    · rw [List.filter_cons_of_pos hp]
      by_cases hq : q t = true
      · rw [List.filter_cons_of_pos hq]; simp only [List.length_cons]; omega
      · rw [List.filter_cons_of_neg hq]
        have hx : t = x := (h t hp).resolve_left hq
        have : (l.filter p).length ≤ (l.filter q).length := by
          have he : ∀ y ∈ l, p y = true → q y = true := fun y hy hpy => (h y hpy).resolve_right (fun e => h1 (by rw [hx, ← e]; exact hy))
          clear ih h2 hn h1
          induction l with
          | nil => simp
          | cons y l ih2 =>
            have ih3 := ih2 fun z hz => he z (List.mem_cons_of_mem _ hz)
            by_cases hpy : p y = true
            · rw [List.filter_cons_of_pos hpy, List.filter_cons_of_pos (he y (List.mem_cons_self ..) hpy)]
              simp only [List.length_cons]; omega
            · rw [List.filter_cons_of_neg hpy]
              by_cases hqy : q y = true
              · rw [List.filter_cons_of_pos hqy]; simp only [List.length_cons]; omega
              · rw [List.filter_cons_of_neg hqy]; exact ih3
        simp only [List.length_cons]; omega
    · rw [List.filter_cons_of_neg hp]
      by_cases hq : q t = true
      · rw [List.filter_cons_of_pos hq]; simp only [List.length_cons]; omega
      · rw [List.filter_cons_of_neg hq]; exact ih
theorem hN_hold (H : List HOp) (l : HOp) : hN (holdL H l) ≤ hN H + 1 := by
  unfold hN
  refine filter_or_one (x := l.tx) (fun t ht => ?_) sixI (by decide)
  obtain ⟨y, hy, he⟩ := List.any_eq_true.1 ht
  rcases mem_holdL' hy with rfl | hy
  · exact .inr (by simp [ofTx] at he; exact he.symm)
  · exact .inl (List.any_eq_true.2 ⟨y, hy, he⟩)
theorem filter_le_of {p q : Int → Bool} (h : ∀ t, p t = true → q t = true) : ∀ (l : List Int), (l.filter p).length ≤ (l.filter q).length
  | [] => by simp
  | t :: l => by
    have ih := filter_le_of h l
    by_cases hp : p t = true
    · rw [List.filter_cons_of_pos hp, List.filter_cons_of_pos (h t hp)]; simp only [List.length_cons]; omega
    · rw [List.filter_cons_of_neg hp]
      by_cases hq : q t = true
      · rw [List.filter_cons_of_pos hq]; simp only [List.length_cons]; omega
      · rw [List.filter_cons_of_neg hq]; exact ih
theorem filter_lt_of {p q : Int → Bool} (h : ∀ t, p t = true → q t = true) {x : Int} (hp : p x = false) (hq : q x = true) : ∀ (l : List Int), x ∈ l → (l.filter p).length + 1 ≤ (l.filter q).length
  | t :: l, hm => by
    by_cases e : t = x
    · subst e
      rw [List.filter_cons_of_neg (by rw [hp]; simp), List.filter_cons_of_pos hq]
      have := filter_le_of h l
      simp only [List.length_cons]; omega
    · have ih := filter_lt_of h hp hq l ((List.mem_cons.1 hm).resolve_left fun e2 => e e2.symm)
      by_cases hpt : p t = true
      · rw [List.filter_cons_of_pos hpt, List.filter_cons_of_pos (h t hpt)]; simp only [List.length_cons]; omega
      · rw [List.filter_cons_of_neg hpt]
        by_cases hqt : q t = true
        · rw [List.filter_cons_of_pos hqt]; simp only [List.length_cons]; omega
        · rw [List.filter_cons_of_neg hqt]; exact ih
theorem hN_drop (H : List HOp) (tx : Int) : hN (H.filter (notTx tx)) ≤ hN H ∧ (tx ∈ sixI → H.any (ofTx tx) = true → hN (H.filter (notTx tx)) + 1 ≤ hN H) := by
  have hi : ∀ t, (H.filter (notTx tx)).any (ofTx t) = true → H.any (ofTx t) = true := fun t ht => by
    obtain ⟨y, hy, he⟩ := List.any_eq_true.1 ht
    exact List.any_eq_true.2 ⟨y, (List.mem_filter.1 hy).1, he⟩
  refine ⟨filter_le_of hi sixI, fun h6 ha => filter_lt_of hi ?_ ha sixI h6⟩
  rw [List.any_eq_false]
  intro y hy he
  have h1 := (List.mem_filter.1 hy).2
  simp [notTx] at h1
  simp [ofTx] at he
  exact h1 he
theorem free_fold : ∀ (r : List HOp) (s : FSt), 2 * (r.foldl freeStep s).left.length + hN (r.foldl freeStep s).H + (r.foldl freeStep s).out.length ≤ 2 * s.left.length + hN s.H + s.out.length + 2 * r.length
  | [], s => by simp
  | x :: r, s => by
    have ih := free_fold r (freeStep s x)
    rw [List.foldl_cons]
    have h1 : 2 * (freeStep s x).left.length + hN (freeStep s x).H + (freeStep s x).out.length ≤ 2 * s.left.length + hN s.H + s.out.length + 2 := by
      unfold freeStep
      split
      · have := hN_hold s.H x
        simp only [List.length_append, List.length_singleton]; omega
      · simp only [List.length_append, List.length_singleton]; omega
    simp only [List.length_cons]
    omega
/-- A deal stands in a table. -/
def inT (T : LTab) (tx : Int) : Bool := T.H.any (ofTx tx) || T.W.any (ofTx tx)
theorem filter_drop_len {W : List HOp} {tx : Int} : (W.filter (notTx tx)).length ≤ W.length ∧ (W.any (ofTx tx) = true → (W.filter (notTx tx)).length + 1 ≤ W.length) := by
  refine ⟨List.length_filter_le _ _, fun h => ?_⟩
  obtain ⟨y, hy, he⟩ := List.any_eq_true.1 h
  have h2 : notTx tx y = false := by simpa [notTx, ofTx] using he
  have := (List.length_filter_lt_length_iff_exists (p := notTx tx) (l := W)).2 ⟨y, hy, by rw [h2]; simp⟩
  omega
theorem tabN_free (T : LTab) (tx : Int) : tabN (freeT T tx) + (freeS T tx).out.length ≤ tabN T ∧ (tx ∈ sixI → inT T tx = true → tabN (freeT T tx) + (freeS T tx).out.length + 1 ≤ tabN T) := by
  have h1 := free_fold (T.W.filter (notTx tx)) ⟨T.H.filter (notTx tx), [], []⟩
  have h2 := hN_drop T.H tx
  have h3 := filter_drop_len (W := T.W) (tx := tx)
  have e : tabN (freeT T tx) + (freeS T tx).out.length ≤ hN (T.H.filter (notTx tx)) + 2 * (T.W.filter (notTx tx)).length := by
    unfold tabN freeT freeS
    simp only [List.length_nil] at h1 ⊢
    omega
  refine ⟨by unfold tabN at *; omega, fun h6 hin => ?_⟩
  unfold inT at hin
  rw [Bool.or_eq_true] at hin
  rcases hin with hin | hin
  · have := h2.2 h6 hin; unfold tabN at *; omega
  · have := h3.2 hin; unfold tabN at *; omega
theorem tabN_ask (T : LTab) (l : HOp) : tabN (askF T l).2.2 ≤ tabN T + 2 ∧ ((askF T l).1 = true → tabN (askF T l).2.2 ≤ tabN T + 1) := by
  unfold askF
  split
  · exact ⟨by simp only; omega, fun h => by cases h⟩
  · split
    · exact ⟨by simp only; omega, fun h => by cases h⟩
    · split
      · exact ⟨by simp only; omega, fun _ => by simp only; omega⟩
      · split
        · have := hN_hold T.H l
          exact ⟨by simp only [tabN]; omega, fun _ => by simp only [tabN]; omega⟩
        · exact ⟨by simp only [tabN, List.length_append, List.length_singleton]; omega, fun h => by cases h⟩
theorem bN_upd {bh : Int → List HOp} {t : Int} (ht : t ∈ sixI) (v : List HOp) : bN (updR bh t v) + (bh t).length = bN bh + v.length := by
  simp only [sixI, List.mem_cons, List.not_mem_nil, or_false] at ht
  rcases ht with rfl | rfl | rfl | rfl | rfl | rfl <;> simp [bN, updR] <;> omega
end Go.Proofs.YtbccnafdfeempaaGreatDoor


namespace Go.Proofs.YtbccnafdfeempaaGreatDoor
open Go.RowKit

/-! ### A runner comes to an end. -/
structure WInv (s : RSt) : Prop where
  inv : LInv s.T
  wt : ∀ tx o, s.wt tx = some o → o.tx = tx ∧ rightB o = true ∧ endB o = false
  tab : ∀ l ∈ s.T.W, (s.wt l.tx).isSome = true
  bh : ∀ tx, ∀ o ∈ s.bh tx, o.tx = tx ∧ rightB o = true
/-- The same, but for what a deal's own lock waits for. -/
structure WInvX (s : RSt) (tx : Int) : Prop where
  inv : LInv s.T
  wt : ∀ tx o, s.wt tx = some o → o.tx = tx ∧ rightB o = true ∧ endB o = false
  tab : ∀ l ∈ s.T.W, l.tx ≠ tx → (s.wt l.tx).isSome = true
  bh : ∀ tx, ∀ o ∈ s.bh tx, o.tx = tx ∧ rightB o = true
theorem WInv.x {s : RSt} (h : WInv s) (tx : Int) : WInvX s tx := ⟨h.inv, h.wt, fun l hl _ => h.tab l hl, h.bh⟩
/-- A deal that goes no further by itself: nothing stands behind it and it waits not, or it waits, but not in the table. -/
def Pend (s : RSt) (t : Int) : Prop := (s.wt t = none ∧ s.bh t = []) ∨ ((s.wt t).isSome = true ∧ s.T.W.any (ofTx t) = false)
theorem EndsJ.told {way : Int} {j : Job} {s s' : RSt} (h : EndsJ way j s s') : s.told.length ≤ s'.told.length := by
  obtain ⟨N, h⟩ := h
  exact (runJ_told _ _ _ _ (h N (Nat.le_refl _))).1
theorem right_six {o : HOp} (h : rightB o = true) : o.tx ∈ sixI := by
  unfold rightB txB at h
  simp only [Bool.and_eq_true, decide_eq_true_eq] at h
  exact mem_six.2 h.1.1
theorem right_txB {o : HOp} (h : rightB o = true) : txB o.tx = true := by
  unfold rightB at h
  simp only [Bool.and_eq_true] at h
  exact h.1.1
theorem endB_endsB (o : HOp) : endB o = endsB o := by
  unfold endB endsB
  by_cases h1 : o.what = 3 <;> by_cases h2 : o.what = 4 <;> simp [h1, h2]
theorem lock_right {o : HOp} (h : rightB o = true) (he : endB o = false) : lrightB (lockOf o) = true := by
  rw [endB_endsB] at he
  unfold rightB at h
  rw [he] at h
  simp only [Bool.and_eq_true, Bool.false_eq_true, if_false] at h
  unfold lrightB lockOf
  simp only [Bool.and_eq_true]
  refine ⟨h.1.1, h.2, ?_⟩
  by_cases hw : o.what = 2 <;> simp [hw]
theorem fold_perm : ∀ (r : List HOp) (s : FSt), ((r.foldl freeStep s).left ++ (r.foldl freeStep s).out).Perm (s.left ++ s.out ++ r)
  | [], s => by simp
  | x :: r, s => by
    rw [List.foldl_cons]
    refine (fold_perm r (freeStep s x)).trans ?_
    unfold freeStep
    split
    · have : (s.left ++ (s.out ++ [x]) ++ r) = s.left ++ s.out ++ (x :: r) := by simp
      rw [this]
    · have h1 : (s.left ++ [x] ++ s.out ++ r).Perm (s.left ++ s.out ++ ([x] ++ r)) := by
        rw [List.append_assoc, List.append_assoc, List.append_assoc]
        refine List.Perm.append_left _ ?_
        rw [← List.append_assoc, ← List.append_assoc]
        exact List.Perm.append_right _ List.perm_append_comm
      exact h1
theorem freeS_perm (T : LTab) (tx : Int) : ((freeT T tx).W ++ (freeS T tx).out).Perm (T.W.filter (notTx tx)) := by
  have := fold_perm (T.W.filter (notTx tx)) ⟨T.H.filter (notTx tx), [], []⟩
  simpa [freeT, freeS] using this
theorem freeS_out {T : LTab} (I : LInv T) (tx : Int) : ((freeS T tx).out.map (·.tx)).Nodup ∧ (∀ x ∈ (freeS T tx).out, x ∈ T.W ∧ x.tx ≠ tx ∧ (freeT T tx).W.any (ofTx x.tx) = false) ∧ (∀ y ∈ (freeT T tx).W, y ∈ T.W ∧ y.tx ≠ tx) := by
  have hp := freeS_perm T tx
  have hn : (((freeT T tx).W ++ (freeS T tx).out).map (·.tx)).Nodup := by
    refine (hp.map (·.tx)).nodup_iff.2 ?_
    exact I.wtx.sublist (List.filter_sublist.map _)
  rw [List.map_append] at hn
  obtain ⟨h1, h2, h3⟩ := List.nodup_append.1 hn
  have hm : ∀ z ∈ (freeT T tx).W ++ (freeS T tx).out, z ∈ T.W ∧ z.tx ≠ tx := fun z hz => by
    have h4 := List.mem_filter.1 (hp.mem_iff.1 hz)
    exact ⟨h4.1, by simpa [notTx] using h4.2⟩
  refine ⟨h2, fun x hx => ⟨(hm x (List.mem_append_right _ hx)).1, (hm x (List.mem_append_right _ hx)).2, ?_⟩, fun y hy => hm y (List.mem_append_left _ hy)⟩
  rw [List.any_eq_false]
  intro y hy he
  simp [ofTx] at he
  exact h3 y.tx (List.mem_map.2 ⟨y, hy, rfl⟩) x.tx (List.mem_map.2 ⟨x, hx, rfl⟩) he
theorem whom_inT {T : LTab} {tx d : Int} (h : d ∈ whomF T tx) : inT T d = true := by
  unfold whomF at h
  split at h
  · cases h
  · unfold forF at h
    rw [mem_sortS] at h
    obtain ⟨x, hx, rfl⟩ := List.mem_map.1 h
    unfold inT
    rw [Bool.or_eq_true]
    rcases List.mem_append.1 (List.mem_filter.1 hx).1 with hm | hm
    · exact .inl (List.any_eq_true.2 ⟨x, hm, by simp [ofTx]⟩)
    · exact .inr (List.any_eq_true.2 ⟨x, (List.takeWhile_prefix _).subset hm, by simp [ofTx]⟩)
theorem whom_waits {T : LTab} {tx : Int} (h : whomF T tx ≠ []) : inT T tx = true ∧ ∃ l ∈ T.W, l.tx = tx := by
  unfold whomF at h
  split at h
  · exact absurd rfl h
  · rename_i l hl
    obtain ⟨h1, h2⟩ := find_ofTx hl
    refine ⟨?_, l, h1, h2⟩
    unfold inT
    rw [Bool.or_eq_true]
    exact .inr (List.any_eq_true.2 ⟨l, h1, by simp [ofTx, h2]⟩)
theorem nextA_in {way : Int} {T : LTab} (I : LInv T) {tx d : Int} (h : nextA way T tx = some d) : inT T d = true ∧ d ∈ sixI := by
  have hw : whomF T tx ≠ [] → inT T tx = true ∧ tx ∈ sixI := fun hne => by
    obtain ⟨h1, l, h2, h3⟩ := whom_waits hne
    obtain ⟨a1, a2, _⟩ := lright_get (I.rightW l h2)
    exact ⟨h1, mem_six.2 ⟨by rw [← h3]; exact a1, by rw [← h3]; exact a2⟩⟩
  unfold nextA at h
  split at h
  · split at h
    · rename_i hr
      injection h with h
      subst h
      refine hw fun hne => ?_
      unfold rngF rngGo at hr
      rw [hne] at hr
      simp [rngIn, rngGo] at hr
    · cases h
  · split at h
    · split at h
      · cases h
      · rename_i d' r he
        split at h
        · cases h
        · injection h with h
          subst h
          exact hw (by rw [he]; simp)
    · have hm := List.mem_of_find?_eq_some h
      obtain ⟨a1, a2⟩ := whomF_rng I hm
      exact ⟨whom_inT hm, mem_six.2 ⟨a1, a2⟩⟩
end Go.Proofs.YtbccnafdfeempaaGreatDoor


namespace Go.Proofs.YtbccnafdfeempaaGreatDoor
open Go.RowKit

/-- Where the inner loop of free stands, with so much fuel left. -/
def DrainQ (way : Int) (lo n : Nat) (d : Nat) (s3 : RSt) (L : QLay) (w : World) (tag : Nat → Int × Nat) (base : Nat) (A : Option Addr) (no c : Nat) (out : List HOp) (wr : World) (m : Nat) : Prop :=
  ∃ s2 xH xW xT xV xB xo tag2, m ≤ n ∧ runJ way m (.drain d) s2 = some s3 ∧ QHeap way lo wr s2 ⟨L.g, xH, xW, xT, xV, xB, xo⟩ tag2 ∧ StepS w wr tag tag2 ∧ wr.ownsRow base 67 3 (.slice A no c) no (cellsH out) ∧ ∀ k, (Value.slice A no c).ownBlock = some k → 10 ≤ (tag2 k).2
section
variable {way : Int} {lo : Nat} {w : World} {s : RSt} {L : QLay} {tag : Nat → Int × Nat}
theorem QHeap.cW (H : QHeap way lo w s L tag) {d : Nat} (hd : d ≤ 6) : w.cell? ⟨L.g, 3 + d, none⟩ = some (.bool (s.wt d).isSome) := H.run.cellS (q_w hd)
theorem QHeap.cO (H : QHeap way lo w s L tag) {d : Nat} (hd : d ≤ 6) : w.cell? ⟨L.g, 10 + d * 3, none⟩ = some (.int .i64 (L.op d).tx) ∧ w.cell? ⟨L.g, 10 + d * 3 + 1, none⟩ = some (.int .i64 (L.op d).what) ∧ w.cell? ⟨L.g, 10 + d * 3 + 2, none⟩ = some (.int .i64 (L.op d).item) :=
  ⟨H.run.cellS (q_op hd).1, H.run.cellS (q_op hd).2.1, H.run.cellS (q_op hd).2.2⟩
theorem QHeap.cB (H : QHeap way lo w s L tag) {d : Nat} (hd : d ≤ 6) : w.cell? ⟨L.g, 31 + d, none⟩ = some (L.vB d) := H.run.cellS (q_b hd)
theorem QHeap.cA (H : QHeap way lo w s L tag) {d : Nat} (hd : d ≤ 6) : w.cell? ⟨L.g, 38 + d, none⟩ = some (.bool (s.ab d)) := H.run.cellS (q_a hd)
theorem QHeap.cT (H : QHeap way lo w s L tag) : w.cell? ⟨L.g, 45, none⟩ = some L.vT := H.run.cellS rfl
theorem QHeap.cV (H : QHeap way lo w s L tag) : w.cell? ⟨L.g, 46, none⟩ = some L.vV := H.run.cellS rfl
theorem QHeap.c0 (H : QHeap way lo w s L tag) : w.cell? ⟨L.g, 0, none⟩ = some (.int .i64 way) := H.run.cellS rfl
theorem QHeap.fr (H : QHeap way lo w s L tag) (i : Nat) : w.frozen? ⟨L.g, i, none⟩ = false := H.run.frozen i
end
theorem out_rng {T : LTab} (I : LInv T) (tx : Int) : ∀ x ∈ (freeS T tx).out, 1 ≤ x.tx ∧ x.tx ≤ 6 := fun x hx => by
  obtain ⟨h1, h2, _⟩ := lright_get (I.rightW x ((freeS_out I tx).2.1 x hx).1)
  exact ⟨h1, h2⟩

set_option maxRecDepth 100000 in
set_option maxHeartbeats 8000000 in
theorem qfree_any {way : Int} {lo n : Nat} (hD : ∀ m, m ≤ n → DoQC way lo m) : FreeQC way lo (n + 1) := by
  intro tx s s' L tag w H hrun ht hv
  unfold runJ at hrun
  by_cases htx : txB tx = false
  · rw [if_pos htx] at hrun; cases hrun
  rw [if_neg htx] at hrun
  have HLE := Lib.hid (And.intro ht hv)
  have CF := hide (sfree_any lo L.g L.vH L.vW s.T.H s.T.W tx w H.tabR (by have := linv_held H.tab.inv; omega) (by have := linv_waits H.tab.inv; omega) H.loLe)
  unfold FreePostRn at CF
  rw [show (⟨s.T.H, s.T.W⟩ : LTab) = s.T from rfl] at CF
  have hinv := free_inv H.tab.inv tx
  have hor := out_rng H.tab.inv tx
  have hout6 : (freeS s.T tx).out.length ≤ 100 := by
    have h1 := freeOutL s.T tx
    have := linv_waits H.tab.inv
    omega
  obtain ⟨out, hout⟩ : ∃ out, (freeS s.T tx).out = out := ⟨_, rfl⟩
  rw [hout] at CF hrun hout6 hor
  obtain ⟨T', hT'⟩ : ∃ T', freeT s.T tx = T' := ⟨_, rfl⟩
  rw [hT'] at CF hrun hinv
  obtain ⟨no, hno⟩ : ∃ no, out.length = no := ⟨_, rfl⟩
  rw [hno] at CF hout6
  have HNO := Lib.hid hno
  have HRUN := Lib.hid hrun
  have HINV := Lib.hid hinv
  have HHX := Lib.hid H
  have HOR := Lib.hid hor
  have hgr : L.g < w.heap.size := H.run.lt
  clear hout hT' hno hrun hinv H ht hv htx hor
  go_enter Tryz.func17, Tryz.ntmps17
  go_wp2_with fail
  refine (unhide CF).mono ?_
  rintro e w1 ⟨vo, v1, v2, rfl, hown, hT1, hK1, hne1⟩
  obtain ⟨A, c, rfl⟩ := own_slice hown
  obtain ⟨tag1, ht1, htn, hto⟩ : ∃ tag1 : Nat → Int × Nat, (∀ k, k < w.heap.size → tag1 k = tag k) ∧ (∀ k, w.heap.size ≤ k → (v1.ownBlock = some k ∨ v2.ownBlock = some k) → tag1 k = (0, 2)) ∧ (∀ k, (Value.slice A no c).ownBlock = some k → 10 ≤ (tag1 k).2) := by
    refine ⟨fun k => if k < w.heap.size then tag k else if (Value.slice A no c).ownBlock = some k then (0, 20) else (0, 2), fun k hk => by simp [hk], fun k hk h => ?_, fun k hk => ?_⟩
    · have h3 : ¬ (Value.slice A no c).ownBlock = some k := fun e => by
        rcases h with h | h
        · exact (hne1 k e).1 h
        · exact (hne1 k e).2 h
      dsimp only
      rw [if_neg (by omega), if_neg h3]
    · have := (hown.lt k hk).1
      dsimp only
      rw [if_neg (by omega), if_pos hk]; decide
  obtain ⟨hH1, hS1⟩ := HHX.out.table ht1 hT1 HINV.out hK1 htn
  clear hT1 hK1 hne1 ht1 htn CF
  go_wp2
  go_loopw [5] (fun s5 wr => ∃ (k m : Nat) (s1 : RSt) (xH xW xT xV : Value) (xB : Int → Value) (xo : Int → HOp) (tag1 : Nat → Int × Nat), k ≤ no ∧ s5 = .int .i64 k ∧ m ≤ n ∧ Hid (runJ way m (.go (out.drop k)) s1 = some s') ∧ QHeap way lo wr s1 ⟨L.g, xH, xW, xT, xV, xB, xo⟩ tag1 ∧
      StepS w wr tag tag1 ∧ wr.ownsRow w.heap.size 67 3 (.slice A no c) no (cellsH out) ∧ Hid (∀ k, (Value.slice A no c).ownBlock = some k → 10 ≤ (tag1 k).2)) (fun s5 _ => no - (intOf s5).toNat)
  case atStart => exact ⟨0, n, _, _, _, _, _, _, _, tag1, Nat.zero_le _, rfl, Nat.le_refl _, HRUN, hH1, hS1, hown, Lib.hid hto⟩
  case round =>
    clear hH1 hS1 hown hto HRUN
    obtain ⟨k, m, s1, xH, xW, xT, xV, xB, xo, tag1, hk, rfl, hm, HR, hH, hS, hown, HTO⟩ := hrel
    obtain ⟨m, rfl⟩ := goE_pos HR.out
    by_cases hlt : k < no
    · obtain ⟨b, off, x, he, hb, hx, z0, z1, z2⟩ := (rd_own hown).op (k := k) hlt
      cases he
      have HDR : Hid (out.drop k = x :: out.drop (k + 1)) := drop_at hx
      have HR1 := HR.out
      rw [HDR.out] at HR1
      unfold runJ at HR1
      have hxr := HOR.out x (List.mem_of_getElem? hx)
      obtain ⟨tx2, what, item⟩ := x
      simp only at HR1 z0 z1 z2 hxr
      obtain ⟨d, rfl⟩ : ∃ d : Nat, tx2 = d := ⟨tx2.toNat, by omega⟩
      have hd6 : d ≤ 6 := by omega
      have d0 : (0 : Int) ≤ (d : Int) := by omega
      have d7 : (d : Int) < 7 := by omega
      have hgr1 : L.g < wr.heap.size := hH.run.lt
      have q3 := hH.cW hd6
      simp only at q3
      clear hx hxr HR
      cases hwt : s1.wt d with
      | none =>
        rw [hwt] at HR1 q3
        simp only [Option.isSome_none] at HR1 q3
        have HR2 := Lib.hid HR1
        clear HR1
        go_wp2
        go_roundw
        case rel => exact ⟨k + 1, m, s1, xH, xW, xT, xV, xB, xo, tag1, by omega, by go_num, by omega, HR2, hH, hS, hown, HTO⟩
        case measure => simp [intOf]; omega
      | some o =>
        rw [hwt] at HR1 q3
        simp only [Option.isSome_some] at HR1 q3
        cases hq : runJ way m (.drain d) { s1 with wt := updR s1.wt d none, told := s1.told ++ [o] } with
        | none => rw [hq] at HR1; cases HR1
        | some s2 =>
        rw [hq] at HR1
        simp only at HR1
        have HR2 := Lib.hid HR1
        have hlen1 := runJ_told _ _ _ _ hq
        have hlen2 := runJ_told _ _ _ _ HR1
        have htl2 : s1.told.length + 1 ≤ 1000000 := by
          have := HLE.out.1
          simp only [List.length_append, List.length_singleton] at hlen1
          omega
        have HLE2 : Hid (s2.told.length ≤ 1000000 ∧ s2.vic.length ≤ 1000000) := Lib.hid (by have := HLE.out; omega)
        have HQ := Lib.hid hq
        have hop := hH.ops d o hwt
        simp only at hop
        have f3 := hH.fr (3 + d)
        simp only at f3
        have HH2 := Lib.hid (hH.unwait hd6)
        have HG1 := Lib.hid (show L.g < wr.heap.size from hH.run.lt)
        have ho2 : (wr.setCell ⟨L.g, 3 + d, none⟩ (.bool false)).ownsRow w.heap.size 67 3 (.slice _ no c) no (cellsH out) := own_set_blk hown hH.run (by decide) (3 + d) (.bool false)
        obtain ⟨o1, o2, o3⟩ := o
        have h9 : ∀ u ∈ cellsH [⟨o1, o2, o3⟩], u.oneCell' = true := oneH _
        clear HR1 hlen1 hlen2 hq hwt hown
        go_wp2_with fail
        generalize wr.setCell ⟨L.g, 3 + d, none⟩ (.bool false) = w2 at *
        obtain ⟨hH2, hS2⟩ := HH2.out
        have hS2 := hS.trans hS2
        have HTO2 := Lib.hid HTO.out
        clear hH hS q3 f3 z0 z1 z2 HH2 hgr1
        have hgr2 : L.g < w2.heap.size := hH2.run.lt
        obtain ⟨n0, n1, n2⟩ := hH2.cO hd6
        simp only [hop] at n0 n1 n2
        have q5 := hH2.cT
        simp only at q5
        obtain ⟨AT, cT, hvT⟩ := own_slice hH2.told.1
        simp only at hvT
        obtain ⟨tl, htl3⟩ : ∃ tl, s1.told.length = tl := ⟨_, rfl⟩
        have HTL := Lib.hid htl3
        rw [htl3] at hvT htl2
        rw [hvT] at q5
        have hlo2 := hH2.loLe
        have k5a := (World.cell?_alloc_lt w2 (.cells #[.int .i64 o1, .int .i64 o2, .int .i64 o3] 43) ⟨L.g, 45, none⟩ hgr2).trans q5
        have hHA : QHeap way lo (w2.drew.alloc (.cells (cellsH [⟨o1, o2, o3⟩]).toArray 43)) { s1 with wt := updR s1.wt d none } ⟨L.g, xH, xW, xT, xV, xB, xo⟩ tag1 := hH2.below ((Below.refl _ _).drew.alloc (Nat.le_refl _) _)
        have hTO := hHA.told.1
        simp only [hvT] at hTO
        rw [HTL.out] at hTO
        have HA := Lib.hid hHA
        have HVT := Lib.hid hvT
        clear hHA htl3 hvT hH2
        go_region_law (first | ((refine step_app2 rfl (.tmp 40) (.tmp 47) _ rfl lo slt_op (v := .slice AT tl cT) (n := tl) (xs := cellsH s1.told) (m := 1) (news := cellsH [⟨o1, o2, o3⟩]) rfl hTO rfl (rd_new' _ _ (cellsH [⟨o1, o2, o3⟩]) (by simp) rfl) h9 (by omega) (by simp; omega) ?_; intro v6 w6 hown6 hg6 hat6; obtain ⟨A6, c6, rfl⟩ := own_slice hown6; rw [← HVT.out] at hg6 hat6; have hBk6 := HA.out.run.but (grown_but (P := fun m => m = (0, 6)) hg6 fun k hk => HA.out.told.2 k hk) (by rw [HA.out.mark]; decide); have p0 := (hBk6.cellS (i := 45) (v := xT) rfl).trans (congrArg some HVT.out); have p1 := hBk6.frozen 45)))
        all_goals
          obtain ⟨hT, hS4⟩ := HA.out.tell (o := ⟨o1, o2, o3⟩) (by show tl + 1 = s1.told.length + 1; rw [HTL.out]) hown6 hg6 hat6
          have hoA := own_below ho2 ((Below.refl w2.heap.size w2).drew.alloc (Nat.le_refl _) (.cells (cellsH [⟨o1, o2, o3⟩]).toArray 43)) (Nat.le_refl _)
          have hSA : StepS w2 (w2.drew.alloc (.cells (cellsH [⟨o1, o2, o3⟩]).toArray 43)) tag1 tag1 := StepS.below ((Below.refl _ _).drew.alloc (Nat.le_refl _) _)
          have ho6 := StepS.own hoA hS4 HTO2.out
          have HTO6 := Lib.hid (StepS.tags hoA hS4 HTO2.out)
          have hS6 := hS2.trans (hSA.trans hS4)
          clear HA hTO HVT q5 k5a hoA hSA hS4 p0 p1 hBk6 hown6 hg6 hat6 ho2 HTO2 hS2 hlo2 hgr2
          go_wp2_with fail
          generalize w6.setCell ⟨L.g, 45, none⟩ (.slice A6 (tl + 1) c6) = w7 at *
          have hst : DrainQ way lo m d s2 L w tag w.heap.size (some ⟨b, off, none⟩) no c out w7 m := ⟨_, _, _, _, _, _, _, _, Nat.le_refl _, HQ.out, hT, hS6, ho6, HTO6.out⟩
          clear hT ho6 HTO6 hS6 HQ
          go_loopw [7] (fun _ wq => ∃ m', DrainQ way lo m d s2 L w tag w.heap.size (some ⟨b, off, none⟩) no c out wq m') (fun _ wq => Classical.epsilon (fun m' => DrainQ way lo m d s2 L w tag w.heap.size (some ⟨b, off, none⟩) no c out wq m' ∧ ∀ j, DrainQ way lo m d s2 L w tag w.heap.size (some ⟨b, off, none⟩) no c out wq j → m' ≤ j))
          case atStart => exact ⟨_, hst⟩
          case round =>
            clear hst
            have hex := hrel
            obtain ⟨h1, h2⟩ := least_spec hex
            have HLS := Lib.hid h2
            clear h2
            generalize (Classical.epsilon fun m' => DrainQ way lo m d s2 L w tag w.heap.size (some ⟨b, off, none⟩) no c out wr m' ∧ ∀ j, DrainQ way lo m d s2 L w tag w.heap.size (some ⟨b, off, none⟩) no c out wr j → m' ≤ j) = m0 at *
            obtain ⟨sA, yH, yW, yT, yV, yB, yo, tag2, hm2, hr1, hHq, hSq, hoq, hTOq⟩ := h1
            obtain ⟨m1, rfl⟩ := drainE_pos hr1
            unfold runJ at hr1
            have q3 := hHq.cW hd6
            have qB := hHq.cB hd6
            simp only at q3 qB
            have hq1 := (hHq.bh d).1.1
            have hqk := (hHq.bh d).2
            have hqt := (hHq.bh d).1.2
            simp only at hq1 hqk hqt
            have hgrq : L.g < wr.heap.size := hHq.run.lt
            clear hex
            cases hbx : sA.bh d with
            | nil =>
              rw [hbx] at hr1 hq1
              simp only at hr1
              injection hr1 with hr1
              subst hr1
              obtain ⟨AB, cB, hVs⟩ := hq1.shape'
              rw [hVs, List.length_nil] at qB
              clear hq1 hqk hqt hVs hbx
              go_wp2
              go_roundw
              case rel => exact ⟨k + 1, m, _, _, _, _, _, _, _, tag2, by omega, by go_num, by omega, HR2, hHq, hSq, hoq, Lib.hid hTOq⟩
              case measure => simp [intOf]; omega
            | cons oh th =>
              rw [hbx] at hr1 hq1 hqk
              simp only at hr1
              obtain ⟨gq, offq, cq, hVq, hlc, hgq, y0, y1, y2, htl⟩ := hq1.head
              obtain ⟨nt, hnt⟩ : ∃ nt, th.length = nt := ⟨_, rfl⟩
              rw [hnt] at hlc htl hVq
              have hlt0 : (0 : Int) < (nt : Int) + 1 := by omega
              have hlt0n : 0 < nt + 1 := by omega
              rw [hVq] at qB
              cases hwt : sA.wt d with
              | some ow =>
                rw [hwt] at hr1 q3
                rw [if_pos (show (some ow).isSome = true from rfl)] at hr1
                injection hr1 with hr1
                subst hr1
                simp only [Option.isSome_some] at q3
                clear hq1 hqk hqt hVq hbx y0 y1 y2 htl hwt hgq hlc hnt
                go_wp2
                go_roundw
                case rel => exact ⟨k + 1, m, _, _, _, _, _, _, _, tag2, by omega, by go_num, by omega, HR2, hHq, hSq, hoq, Lib.hid hTOq⟩
                case measure => simp [intOf]; omega
              | none =>
                rw [hwt] at hr1 q3
                rw [if_neg (by simp)] at hr1
                simp only [Option.isSome_none] at q3
                cases hq2 : runJ way m1 (.doo oh) { sA with bh := updR sA.bh d th } with
                | none => rw [hq2] at hr1; cases hr1
                | some sB =>
                rw [hq2] at hr1
                simp only at hr1
                have HRB := Lib.hid hr1
                have hlenB := runJ_told _ _ _ _ hr1
                have CD := hide (fun L2 tag3 w2 (h2 : QHeap way lo w2 { sA with bh := updR sA.bh d th } L2 tag3) => hD m1 (by omega) oh (hqk oh List.mem_cons_self) _ sB L2 tag3 w2 h2 hq2 (by have := HLE2.out; omega) (by have := HLE2.out; omega))
                have hqk2 : ∀ o ∈ th, rightB o = true := fun o ho => hqk o (List.mem_cons_of_mem _ ho)
                obtain ⟨o1, o2, o3⟩ := oh
                simp only at y0 y1 y2
                obtain ⟨V2, hV2⟩ : ∃ V2, Value.slice (some (if cq = 1 then (⟨gq, offq, none⟩ : Addr) else ⟨gq, offq + 3, none⟩)) nt (cq - 1) = V2 := ⟨_, rfl⟩
                rw [hV2] at htl
                have hV2b : V2.ownBlock = some gq := by rw [← hV2]; simp only [Value.ownBlock]; split <;> rfl
                have hgt : tag2 gq = ((d : Int), 9) := hqt gq (by rw [hVq]; rfl)
                have hmk : tag2 L.g = (0, 0) := hHq.mark
                have hgne : gq ≠ L.g := fun e => by rw [e, hmk] at hgt; injection hgt with _ h; cases h
                have hbd : Below wr.heap.size wr (wr.alloc (.cells #[.int .i64 o1, .int .i64 o2, .int .i64 o3] 43)).drew := ((Below.refl wr.heap.size wr).alloc (Nat.le_refl _) _).drew
                have hB8 : Blk (wr.alloc (.cells #[.int .i64 o1, .int .i64 o2, .int .i64 o3] 43)).drew wr.heap.size 43 [.int .i64 o1, .int .i64 o2, .int .i64 o3] := Blk.new wr 43 [.int .i64 o1, .int .i64 o2, .int .i64 o3]
                have hR8 := hHq.run.below hbd hgrq
                have HBH := hHq.behind hd6 (But.below hbd (Nat.le_refl _)) (tag' := tag2) (fun _ _ => rfl) (v := V2) (l := th) (htl.kept fun g hg => hbd.block g (htl.lt hg).2) (fun j hj => by rw [hV2b] at hj; injection hj with hj; rw [← hj]; exact hgt) hqk2 (fun j hj e => by rw [hV2b] at hj; injection hj with hj; exact hgne (hj.trans e))
                simp only at HBH hR8
                have HBQ := Lib.hid HBH
                clear HBH
                have HO8 := Lib.hid (own_set_blk (own_below hoq hbd (Nat.le_refl _)) hR8 (by decide) (31 + d) V2)
                have HB9 := Lib.hid (hB8.far (p := ⟨L.g, 31 + d, none⟩) (by simp; omega) V2)
                have hB8w : Blk (wr.alloc (.cells #[.int .i64 o1, .int .i64 o2, .int .i64 o3] 43)) wr.heap.size 43 [.int .i64 o1, .int .i64 o2, .int .i64 o3] := hB8
                have m0 := hB8w.cellS (i := 0) (v := .int .i64 o1) rfl
                have m1' := hB8w.cellS (i := 1) (v := .int .i64 o2) rfl
                have m2' := hB8w.cellS (i := 2) (v := .int .i64 o3) rfl
                have hgs8 : L.g ≠ wr.heap.size := by omega
                have HB9w := Lib.hid (hB8w.far (p := ⟨L.g, 31 + d, none⟩) (by simp; omega) V2)
                have q8 : (wr.alloc (.cells #[.int .i64 o1, .int .i64 o2, .int .i64 o3] 43)).cell? ⟨L.g, 31 + d, none⟩ = some (.slice (some ⟨gq, offq, none⟩) (nt + 1) cq) := (hR8.cellS (q_b hd6)).trans (congrArg some hVq)
                have f8 : (wr.alloc (.cells #[.int .i64 o1, .int .i64 o2, .int .i64 o3] 43)).frozen? ⟨L.g, 31 + d, none⟩ = false := hR8.frozen (31 + d)
                have HLTS := Lib.hid hTOq
                clear hB8w hq1 hqk hqt hVq hbx htl hwt hnt hHq hoq hTOq hR8 hB8 hbd hqk2 hlenB hq2 hr1
                go_wp2_with fail
                generalize wr.alloc (.cells #[.int .i64 o1, .int .i64 o2, .int .i64 o3] 43) = w8 at *
                have hl1 : (1 : Int) ≤ (nt : Int) + 1 := by omega
                have hl2 : (nt : Int) + 1 ≤ (cq : Int) := by omega
                have e1 : nt + 1 - 1 = nt := by omega
                by_cases hc1 : cq = 1
                · subst hc1
                  obtain rfl : nt = 0 := by omega
                  simp only [if_true, Nat.sub_self] at hV2
                  subst hV2
                  have CD2 := hide (unhide CD _ _ _ HBQ.out.1)
                  have n0 := HB9w.out.cellS (i := 0) (v := .int .i64 o1) rfl
                  have n1 := HB9w.out.cellS (i := 1) (v := .int .i64 o2) rfl
                  have n2 := HB9w.out.cellS (i := 2) (v := .int .i64 o3) rfl
                  go_still_tail 12, (by kernel_rfl)
                  (with_reducible show wpList _ _ _ _ _ _)
                  go_wp2_with fail
                  refine (unhide CD2).mono ?_
                  rintro e w9 ⟨⟨ve, rfl⟩, zH, zW, zT, zV, zB, zo, tag9, hH9, hS9⟩
                  have hI9 : DrainQ way lo m d s2 L w tag w.heap.size (some ⟨b, off, none⟩) no c out w9 m1 := ⟨sB, zH, zW, zT, zV, zB, zo, tag9, by omega, HRB.out, hH9, hSq.trans (HBQ.out.2.trans hS9), StepS.own HO8.out hS9 HLTS.out, StepS.tags HO8.out hS9 HLTS.out⟩
                  have HLM := Lib.hid (Nat.lt_of_le_of_lt ((least_spec ⟨m1, hI9⟩).2 m1 hI9) (Nat.lt_succ_self m1))
                  clear CD2 hH9 hS9 n0 n1 n2
                  go_wp2
                  go_roundw
                  case rel => exact ⟨m1, hI9⟩
                  case measure => exact HLM.out
                · rw [if_neg hc1] at hV2
                  have hc2 : 1 < cq := by omega
                  have hcb : ((cq : Int) == 1) = false := by simp; omega
                  have hcn : (cq == 1) = false := by simp; omega
                  subst hV2
                  have CD2 := hide (unhide CD _ _ _ HBQ.out.1)
                  have n0 := HB9w.out.cellS (i := 0) (v := .int .i64 o1) rfl
                  have n1 := HB9w.out.cellS (i := 1) (v := .int .i64 o2) rfl
                  have n2 := HB9w.out.cellS (i := 2) (v := .int .i64 o3) rfl
                  go_still_tail 12, (by kernel_rfl)
                  (with_reducible show wpList _ _ _ _ _ _)
                  go_wp2_with fail
                  refine (unhide CD2).mono ?_
                  rintro e w9 ⟨⟨ve, rfl⟩, zH, zW, zT, zV, zB, zo, tag9, hH9, hS9⟩
                  have hI9 : DrainQ way lo m d s2 L w tag w.heap.size (some ⟨b, off, none⟩) no c out w9 m1 := ⟨sB, zH, zW, zT, zV, zB, zo, tag9, by omega, HRB.out, hH9, hSq.trans (HBQ.out.2.trans hS9), StepS.own HO8.out hS9 HLTS.out, StepS.tags HO8.out hS9 HLTS.out⟩
                  have HLM := Lib.hid (Nat.lt_of_le_of_lt ((least_spec ⟨m1, hI9⟩).2 m1 hI9) (Nat.lt_succ_self m1))
                  clear CD2 hH9 hS9 n0 n1 n2
                  go_wp2
                  go_roundw
                  case rel => exact ⟨m1, hI9⟩
                  case measure => exact HLM.out
    · have HR1 := HR.out
      rw [drop_end (by rw [HNO.out]; omega)] at HR1
      unfold runJ at HR1
      injection HR1 with HR1
      subst HR1
      clear HR
      go_wp2
      go_end0
      exact ⟨⟨_, rfl⟩, _, _, _, _, _, _, tag1, hH, hS⟩
end Go.Proofs.YtbccnafdfeempaaGreatDoor

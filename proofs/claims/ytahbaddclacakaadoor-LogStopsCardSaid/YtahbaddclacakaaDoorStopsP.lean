
/-
  PLAIN LAWS: a log that is told at which step it stops: its states, and what comes behind a crash.
-/
import Derived.Test.YtahbaddclacakaaDoorLogP
import Derived.Test.YtahbaddclacakaaDoorPlay

namespace Go.Proofs.YtahbaddclacakaaDoor
open Go.RowKit

/-! ### A log that is told when it stops. -/
def opBad : HOp := ⟨9, 1, 1⟩
def opGood : HOp := ⟨1, 1, 1⟩
def sF (a : Nat) : Nat → LogSt
  | 0 => failF log0 a
  | i + 1 => (doF (doF (sF a i) opBad).2 opGood).2
def yF (s : LogSt) : Nat → LogSt
  | 0 => s
  | k + 1 => (syncF (yF s k)).2
def okB (s : LogSt) : Bool := decide (s.h.length ≤ 40) && decide (s.b.length ≤ 1000000) && decide (s.safe ≤ 1000000) && decide (-1 ≤ s.left ∧ s.left ≤ 4611686018427387904)
theorem okB_ok {s : LogSt} (h : okB s = true) : LogOk s := by
  unfold okB at h
  simp only [Bool.and_eq_true, decide_eq_true_eq] at h
  exact ⟨h.1.1.1, h.1.1.2, h.1.2, h.2⟩
/-- A state, by the number told and the rounds gone. -/
def sC (a i : Nat) : LogSt := if i ≤ a then ⟨List.replicate i opGood, flatL (List.replicate i opGood), 0, (a : Int) - i, false⟩ else ⟨List.replicate a opGood, flatL (List.replicate a opGood) ++ (lineL opGood).take 3, 0, -1, true⟩
theorem rep_ok (n : Nat) (h : n ≤ 16) : (checkF (List.replicate n opGood)).2 = 0 ∧ (checkF (List.replicate n opGood ++ [opBad])).2 = 1 := by
  have key : ∀ n ∈ List.range 17, (checkF (List.replicate n opGood)).2 = 0 ∧ (checkF (List.replicate n opGood ++ [opBad])).2 = 1 := by decide +kernel
  exact key n (List.mem_range.2 (by omega))
theorem rep_snoc (n : Nat) : List.replicate n opGood ++ [opGood] = List.replicate (n + 1) opGood := by rw [List.replicate_succ']
theorem stop_step (a i : Nat) (ha : a ≤ 15) : (doF (sC a i) opBad = (if i ≤ a then 1 else 6, sC a i)) ∧ doF (sC a i) opGood = (if i < a then 0 else 6, sC a (i + 1)) := by
  by_cases h : i ≤ a
  · have e : sC a i = ⟨List.replicate i opGood, flatL (List.replicate i opGood), 0, (a : Int) - i, false⟩ := by unfold sC; rw [if_pos h]
    rw [if_pos h, e]
    obtain ⟨_, r2⟩ := rep_ok i (by omega)
    obtain ⟨r3, _⟩ := rep_ok (i + 1) (by omega)
    refine ⟨?_, ?_⟩
    · rw [doF_bad rfl (by show (checkF (List.replicate i opGood ++ [opBad])).2 ≠ 0; rw [r2]; decide)]
      show ((checkF (List.replicate i opGood ++ [opBad])).2, _) = _
      rw [r2]
    · have hc : (checkF (List.replicate i opGood ++ [opGood])).2 = 0 := by rw [rep_snoc]; exact r3
      by_cases h2 : i = a
      · subst h2
        rw [doF_stop rfl hc (by show (i : Int) - i = 0; omega), if_neg (by omega)]
        congr 1
        unfold sC stepL
        rw [if_neg (by omega)]
        simp only
        congr 1
        · omega
        · exact decide_eq_true (by omega)
      · rw [doF_goes rfl hc (by show ¬ (a : Int) - i = 0; omega), if_pos (by omega)]
        congr 1
        unfold sC stepL
        rw [if_pos (by omega)]
        simp only
        congr 1
        · exact rep_snoc i
        · rw [← rep_snoc, flatL_snoc]
        · omega
        · exact decide_eq_false (by omega)
  · have e : sC a i = ⟨List.replicate a opGood, flatL (List.replicate a opGood) ++ (lineL opGood).take 3, 0, -1, true⟩ := by unfold sC; rw [if_neg h]
    have e2 : sC a (i + 1) = sC a i := by rw [e]; unfold sC; rw [if_neg (by omega)]
    rw [if_neg h, if_neg (by omega), e2]
    refine ⟨doF_st (by rw [e]), doF_st (by rw [e])⟩
theorem sC_zero (a : Nat) : failF log0 a = sC a 0 := by
  unfold failF sC log0
  rw [if_pos (Nat.zero_le _)]
  simp only
  congr 1
  all_goals omega
/-- Behind the rounds and k times Sync. -/
def yC (a m k : Nat) : LogSt := if m ≤ a then (if m + k ≤ a then ⟨List.replicate m opGood, flatL (List.replicate m opGood), if k = 0 then 0 else (flatL (List.replicate m opGood)).length, (a : Int) - m - k, false⟩ else ⟨List.replicate m opGood, flatL (List.replicate m opGood), if k ≤ 1 then 0 else (flatL (List.replicate m opGood)).length, -1, true⟩) else sC a m
theorem sync_step (a m k : Nat) (hm : m + k ≤ a) : syncF (yC a m k) = (if m + k = a then 6 else 0, yC a m (k + 1)) := by
  have e : yC a m k = ⟨List.replicate m opGood, flatL (List.replicate m opGood), if k = 0 then 0 else (flatL (List.replicate m opGood)).length, (a : Int) - m - k, false⟩ := by unfold yC; rw [if_pos (by omega), if_pos hm]
  rw [e]
  by_cases h : m + k = a
  · have e2 : yC a m (k + 1) = ⟨List.replicate m opGood, flatL (List.replicate m opGood), if k + 1 ≤ 1 then 0 else (flatL (List.replicate m opGood)).length, -1, true⟩ := by unfold yC; rw [if_pos (by omega), if_neg (by omega)]
    rw [if_pos h, syncF_stop rfl (by show (a : Int) - m - k = 0; omega), e2]
    unfold stepL
    simp only
    congr 2
    · by_cases hk : k = 0
      · rw [if_pos hk, if_pos (by omega)]
      · rw [if_neg hk, if_neg (by omega)]
    · omega
    · exact decide_eq_true (by omega)
  · have e2 : yC a m (k + 1) = ⟨List.replicate m opGood, flatL (List.replicate m opGood), if k + 1 = 0 then 0 else (flatL (List.replicate m opGood)).length, (a : Int) - m - (k + 1 : Nat), false⟩ := by unfold yC; rw [if_pos (by omega), if_pos (by omega)]
    rw [if_neg h, syncF_goes rfl (by show ¬ (a : Int) - m - k = 0; omega), e2, if_neg (Nat.succ_ne_zero k)]
    unfold stepL
    simp only
    congr 2
    · omega
    · exact decide_eq_false (by omega)
theorem yC_zero (a m : Nat) : yC a m 0 = sC a m := by
  unfold yC
  by_cases h : m ≤ a
  · rw [if_pos h, if_pos (by omega)]
    unfold sC
    rw [if_pos h, if_pos rfl]
    congr 1
    omega
  · rw [if_neg h]
theorem yC_end {a m k : Nat} (h : a < m + k) : (yC a m k).st = true ∧ (yC a m k).h = List.replicate (min m a) opGood := by
  unfold yC
  by_cases hm : m ≤ a
  · rw [if_pos hm, if_neg (by omega)]
    exact ⟨rfl, by rw [Nat.min_eq_left hm]⟩
  · rw [if_neg hm]
    unfold sC
    rw [if_neg hm]
    exact ⟨rfl, by rw [Nat.min_eq_right (by omega)]⟩
theorem sC_I (a i : Nat) (ha : a ≤ 15) : LogI (sC a i) := by
  induction i with
  | zero => rw [← sC_zero]; exact logI0.fail _
  | succ i ih =>
    have := ih.doo opGood
    rw [(stop_step a i ha).2] at this
    exact this
theorem yC_I (a m k : Nat) (ha : a ≤ 15) (hk : k ≤ a + 1 - m) : LogI (yC a m k) := by
  induction k with
  | zero => rw [yC_zero]; exact sC_I a m ha
  | succ k ih =>
    have := (ih (by omega)).sync
    rw [sync_step a m k (by omega)] at this
    exact this
theorem sC_left (a i : Nat) (ha : a ≤ 15) : -1 ≤ (sC a i).left ∧ (sC a i).left ≤ 4611686018427387904 := by
  unfold sC
  split
  · show -1 ≤ (a : Int) - i ∧ (a : Int) - i ≤ _
    omega
  · exact ⟨by show (-1 : Int) ≤ -1; omega, by show (-1 : Int) ≤ _; omega⟩
theorem yC_left (a m k : Nat) (ha : a ≤ 15) : -1 ≤ (yC a m k).left ∧ (yC a m k).left ≤ 4611686018427387904 := by
  unfold yC
  split
  · split
    · show -1 ≤ (a : Int) - m - k ∧ (a : Int) - m - k ≤ _
      omega
    · exact ⟨by show (-1 : Int) ≤ -1; omega, by show (-1 : Int) ≤ _; omega⟩
  · exact sC_left a m ha
/-- Behind the crash all goes on. -/
def cC (n : Nat) : LogSt := ⟨List.replicate n opGood, flatL (List.replicate n opGood), (flatL (List.replicate n opGood)).length, -1, false⟩
theorem crash_rep {s : LogSt} (I : LogI s) {n : Nat} (h : s.h = List.replicate n opGood) (keep : Int) : ∃ j, j ≤ n ∧ crashF s keep = cC j := by
  refine ⟨min (cntL (keptN s keep) s.h) n, Nat.min_le_right _ _, ?_⟩
  rw [crash_is I, h, List.take_replicate]
  rfl
def goesB (n : Nat) : Bool := decide ((doF (cC n) ⟨3, 2, 1⟩).1 = 0) && okB (cC n) && decide ((doF (doF (cC n) ⟨3, 2, 1⟩).2 ⟨3, 3, 0⟩).1 = 0) && okB (doF (cC n) ⟨3, 2, 1⟩).2 && okB (doF (doF (cC n) ⟨3, 2, 1⟩).2 ⟨3, 3, 0⟩).2 && decide ((syncF (doF (doF (cC n) ⟨3, 2, 1⟩).2 ⟨3, 3, 0⟩).2).1 = 0) &&
  decide ((playF (syncF (doF (doF (cC n) ⟨3, 2, 1⟩).2 ⟨3, 3, 0⟩).2).2.h).1[0]? = some 22)
theorem goes_all : ∀ n ∈ List.range 16, goesB n = true := by decide +kernel
end Go.Proofs.YtahbaddclacakaaDoor

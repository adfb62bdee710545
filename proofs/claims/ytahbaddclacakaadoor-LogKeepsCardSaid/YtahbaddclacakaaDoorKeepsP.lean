
/-
  PLAIN LAWS of lanelaw3.LogKeeps: the marks; the last mark in reach; what a step keeps; the first log.
-/
import Derived.Test.YtahbaddclacakaaDoorLogP
import Derived.Test.YtahbaddclacakaaDoorPlay

namespace Go.Proofs.YtahbaddclacakaaDoor
open Go.RowKit

def marksL (h : List HOp) : List Int := (List.range (h.length + 1)).map fun i => ((flatL (h.take i)).length : Int)
theorem marks_len (h : List HOp) : (marksL h).length = h.length + 1 := by simp [marksL]
theorem marks_nil : marksL [] = [0] := rfl
theorem marks_at {h : List HOp} {i : Nat} (hi : i ≤ h.length) : (marksL h)[i]? = some ((flatL (h.take i)).length : Int) := by
  unfold marksL
  rw [List.getElem?_map, List.getElem?_range (by omega)]; rfl
theorem marks_snoc (h : List HOp) (o : HOp) : marksL (h ++ [o]) = marksL h ++ [((flatL (h ++ [o])).length : Int)] := by
  unfold marksL
  rw [List.length_append, show h.length + [o].length + 1 = (h.length + 1) + 1 from rfl, List.range_succ, List.map_append]
  congr 1
  · refine List.map_congr_left fun i hi => ?_
    rw [List.take_append_of_le_length (by have := List.mem_range.1 hi; omega)]
  · simp only [List.map_cons, List.map_nil]
    rw [List.take_of_length_le (by simp)]
theorem marks_take {h : List HOp} {i : Nat} (hi : i ≤ h.length) : (marksL h).take (i + 1) = marksL (h.take i) := by
  unfold marksL
  rw [← List.map_take, List.take_range, List.length_take, show min (i + 1) (h.length + 1) = i + 1 by omega, show min i h.length + 1 = i + 1 by omega]
  refine List.map_congr_left fun j hj => ?_
  have := List.mem_range.1 hj
  rw [List.take_take, show min j i = j by omega]
theorem flat_pre (h : List HOp) (i : Nat) : (flatL (h.take i)).length ≤ (flatL h).length := by
  conv => rhs; rw [← List.take_append_drop i h]
  unfold flatL
  rw [List.flatMap_append, List.length_append]
  omega
/-- A mark is in reach just where so many lines are whole. -/
theorem marks_le : ∀ (k i : Nat) (h : List HOp), i ≤ h.length → ((flatL (h.take i)).length ≤ k ↔ i ≤ cntL k h)
  | k, 0, h, _ => by simp [flatL]
  | k, i + 1, [], hi => by simp at hi
  | k, i + 1, o :: t, hi => by
    rw [List.take_succ_cons]
    have e : (flatL (o :: t.take i)).length = (lineL o).length + (flatL (t.take i)).length := by simp [flatL]
    rw [e, cntL]
    have hi' : i ≤ t.length := by simpa using hi
    by_cases hk : (lineL o).length ≤ k
    · rw [if_pos hk]
      have := marks_le (k - (lineL o).length) i t hi'
      omega
    · rw [if_neg hk]; omega
/-- The last mark in reach, behind i of them. -/
def leftN (k : Nat) (h : List HOp) (i : Nat) : Nat := min (i - 1) (cntL k h)
theorem left_zero (k : Nat) (h : List HOp) : leftN k h 0 = 0 := by simp [leftN]
theorem left_in {k i : Nat} {h : List HOp} (hi : i ≤ h.length) (hm : (flatL (h.take i)).length ≤ k) : leftN k h (i + 1) = i := by
  have := (marks_le k i h hi).1 hm
  unfold leftN; omega
theorem left_out {k i : Nat} {h : List HOp} (hi : i ≤ h.length) (hm : ¬ (flatL (h.take i)).length ≤ k) : leftN k h (i + 1) = leftN k h i := by
  have h1 : ¬ i ≤ cntL k h := fun e => hm ((marks_le k i h hi).2 e)
  unfold leftN; omega
theorem left_end (k : Nat) (h : List HOp) : leftN k h (h.length + 1) = cntL k h := by
  have := cntL_le k h
  unfold leftN; omega
theorem left_le (k : Nat) (h : List HOp) (i : Nat) (hi : i ≤ h.length + 1) : leftN k h i ≤ h.length := by unfold leftN; omega
/-- What a step keeps. -/
structure KeepI (s : LogSt) : Prop where
  I : LogI s
  l : -1 ≤ s.left ∧ s.left ≤ 9223372036854775807
theorem KeepI.ok {s : LogSt} (K : KeepI s) : LogOk s := K.I.ok' K.l
theorem step_left {l : Int} (h : -1 ≤ l ∧ l ≤ 9223372036854775807) : -1 ≤ max (-1) (l - 1) ∧ max (-1) (l - 1) ≤ 9223372036854775807 := by omega
theorem KeepI.doo {s : LogSt} (K : KeepI s) (o : HOp) : KeepI (doF s o).2 := by
  refine ⟨K.I.doo o, ?_⟩
  have hl := K.l
  by_cases h1 : s.st = true
  · rw [doF_st h1]; exact hl
  have h1 : s.st = false := by simpa using h1
  by_cases h2 : (checkF (s.h ++ [o])).2 = 0
  · by_cases h3 : s.left = 0
    · rw [doF_stop h1 h2 h3]; exact step_left hl
    · rw [doF_goes h1 h2 h3]; exact step_left hl
  · rw [doF_bad h1 h2]; exact hl
theorem KeepI.sync {s : LogSt} (K : KeepI s) : KeepI (syncF s).2 := by
  refine ⟨K.I.sync, ?_⟩
  have hl := K.l
  by_cases h1 : s.st = true
  · rw [syncF_st h1]; exact hl
  have h1 : s.st = false := by simpa using h1
  by_cases h3 : s.left = 0
  · rw [syncF_stop h1 h3]; exact step_left hl
  · rw [syncF_goes h1 h3]; exact step_left hl
theorem KeepI.fail {s : LogSt} (K : KeepI s) {n : Int} (hn : n ≤ 9223372036854775807) : KeepI (failF s n) := by
  refine ⟨K.I.fail n, ?_⟩
  show -1 ≤ max (-1) n ∧ max (-1) n ≤ 9223372036854775807
  omega
theorem KeepI.crash {s : LogSt} (K : KeepI s) (keep : Int) : KeepI (crashF s keep) := by
  refine ⟨K.I.crash keep, ?_⟩
  rw [crash_is K.I]
  exact ⟨by show (-1 : Int) ≤ -1; omega, by show (-1 : Int) ≤ _; omega⟩
theorem keep0 : KeepI log0 := ⟨logI0, by show (-1 : Int) ≤ -1; omega, by show (-1 : Int) ≤ _; omega⟩
theorem sync_keep {s : LogSt} : (syncF s).2.h = s.h ∧ ((syncF s).1 = 0 ∨ (syncF s).1 = 6) ∧ ((syncF s).1 = 0 → (syncF s).2.safe = (syncF s).2.b.length) := by
  by_cases h1 : s.st = true
  · rw [syncF_st h1]; exact ⟨rfl, .inr rfl, fun h => absurd (show (6 : Int) = 0 from h) (by decide)⟩
  have h1 : s.st = false := by simpa using h1
  by_cases h3 : s.left = 0
  · rw [syncF_stop h1 h3]; exact ⟨rfl, .inr rfl, fun h => absurd (show (6 : Int) = 0 from h) (by decide)⟩
  · rw [syncF_goes h1 h3]; exact ⟨rfl, .inl rfl, fun _ => rfl⟩
theorem do_keep {s : LogSt} (K : KeepI s) (o : HOp) : ((doF s o).1 = 0 ∧ (checkF (s.h ++ [o])).2 = 0 ∧ (doF s o).2.h = s.h ++ [o] ∧ s.b.length + 2 ≤ (doF s o).2.b.length ∧ (doF s o).2.b.length = (flatL (s.h ++ [o])).length) ∨
    ((doF s o).1 ≠ 0 ∧ ((doF s o).1 = 6 ∨ (doF s o).1 = (checkF (s.h ++ [o])).2) ∧ (doF s o).2.h = s.h) := by
  by_cases h1 : s.st = true
  · rw [doF_st h1]; exact .inr ⟨by show (6 : Int) ≠ 0; decide, .inl rfl, rfl⟩
  have h1 : s.st = false := by simpa using h1
  by_cases h2 : (checkF (s.h ++ [o])).2 = 0
  · by_cases h3 : s.left = 0
    · rw [doF_stop h1 h2 h3]; exact .inr ⟨by show (6 : Int) ≠ 0; decide, .inl rfl, rfl⟩
    · rw [doF_goes h1 h2 h3]
      obtain ⟨p, hb, _, _, hpz⟩ := K.I.b
      have hpe := hpz h1
      subst hpe
      rw [List.append_nil] at hb
      have hl := line_len (okH_right (show okH (s.h ++ [o]) from h2) o (by simp))
      refine .inl ⟨rfl, h2, rfl, ?_, ?_⟩
      · show s.b.length + 2 ≤ (s.b ++ lineL o).length
        rw [List.length_append]; omega
      · show (s.b ++ lineL o).length = _
        rw [hb, flatL_snoc]
  · rw [doF_bad h1 h2]; exact .inr ⟨h2, .inr rfl, rfl⟩
/-- What is left behind a crash, as the law counts it. -/
def highI (keep : Int) (all was : Int) : Int := if 0 < keep ∧ keep < all - was then was + keep else if 0 < keep then all else was
theorem high_is {s : LogSt} (K : KeepI s) (keep : Int) : highI keep s.b.length s.safe = (keptN s keep : Int) ∧ s.safe ≤ s.b.length := by
  have hs : s.safe ≤ s.b.length := by
    obtain ⟨p, hb, _⟩ := K.I.b
    obtain ⟨i, hi, h⟩ := K.I.safe
    have := flat_pre s.h i
    rw [h, hb, List.length_append]; omega
  refine ⟨?_, hs⟩
  unfold highI keptN
  split
  · omega
  · split
    · omega
    · omega
theorem crash_keep {s : LogSt} (K : KeepI s) (keep : Int) : (crashF s keep).h = s.h.take (cntL (keptN s keep) s.h) ∧ (crashF s keep).b.length = (flatL (s.h.take (cntL (keptN s keep) s.h))).length ∧ (crashF s keep).safe = (flatL (s.h.take (cntL (keptN s keep) s.h))).length := by
  rw [crash_is K.I]
  exact ⟨rfl, rfl, rfl⟩
/-- The first log. -/
def f1 : LogSt := (doF log0 ⟨1, 2, 1⟩).2
def f2 : LogSt := (syncF f1).2
def f3 : LogSt := (doF f2 ⟨1, 3, 0⟩).2
def f4 : LogSt := crashF f3 0
theorem first_errs : (doF log0 ⟨1, 2, 1⟩).1 = 0 ∧ (syncF f1).1 = 0 ∧ (doF f2 ⟨1, 3, 0⟩).1 = 0 := by decide +kernel
theorem first_keep : KeepI f1 ∧ KeepI f2 ∧ KeepI f3 ∧ KeepI f4 := ⟨keep0.doo _, (keep0.doo _).sync, ((keep0.doo _).sync).doo _, (((keep0.doo _).sync).doo _).crash _⟩
theorem first_end : f4.h.length = 1 ∧ f4.b.length = f4.safe ∧ (playF f4.h).1[0]? = some 0 := by decide +kernel
end Go.Proofs.YtahbaddclacakaaDoor


/-
  PLAIN LAWS: a log: its state, what its steps do, what is left behind a crash (crashF, crash_is).
-/
import Derived.Test.YtahbaddclacakaaDoorTextP
import Derived.Test.YtahbaddclacakaaDoorN1
import Derived.Lib.Replace
import Derived.Lib.LastIndexByte

namespace Go.Proofs.YtahbaddclacakaaDoor
open Go.RowKit

theorem snocRecL {α : Type} {motive : List α → Prop} (nil : motive []) (snoc : ∀ (l : List α) (a : α), motive l → motive (l ++ [a])) (l : List α) : motive l := by
  have key : ∀ r : List α, motive r.reverse := fun r => by
    induction r with
    | nil => exact nil
    | cons a r ih => rw [List.reverse_cons]; exact snoc _ _ ih
  have := key l.reverse
  rwa [List.reverse_reverse] at this

theorem split_atL {α : Type} {h : List α} {i : Nat} {o : α} (hi : h[i]? = some o) : h = h.take i ++ o :: h.drop (i + 1) := by
  obtain ⟨hl, rfl⟩ := List.getElem?_eq_some_iff.1 hi
  rw [← List.drop_eq_getElem_cons hl, List.take_append_drop]
structure LogSt where
  h : List HOp
  b : List UInt8
  safe : Nat
  left : Int
  st : Bool
def log0 : LogSt := ⟨[], [], 0, -1, false⟩
def stepL (s : LogSt) : LogSt := { s with left := max (-1) (s.left - 1), st := decide (s.left = 0) }
def lineL (o : HOp) : List UInt8 := textL o ++ [10]
def doF (s : LogSt) (o : HOp) : Int × LogSt :=
  if s.st = true then (6, s)
  else if (checkF (s.h ++ [o])).2 ≠ 0 then ((checkF (s.h ++ [o])).2, s)
  else if s.left = 0 then (6, { stepL s with b := s.b ++ (lineL o).take ((lineL o).length / 2) })
  else (0, { stepL s with b := s.b ++ lineL o, h := s.h ++ [o] })
def syncF (s : LogSt) : Int × LogSt :=
  if s.st = true then (6, s) else if s.left = 0 then (6, stepL s) else (0, { stepL s with safe := s.b.length })
def failF (s : LogSt) (n : Int) : LogSt := { s with left := max (-1) n }
/-- What a log keeps in bounds. -/
structure LogOk (s : LogSt) : Prop where
  h : s.h.length ≤ 40
  b : s.b.length ≤ 1000000
  safe : s.safe ≤ 1000000
  left : -1 ≤ s.left ∧ s.left ≤ 9223372036854775807
theorem line_len {o : HOp} (h : rightB o = true) : (lineL o).length = 3 ∨ (lineL o).length = 6 := by
  have key : ∀ o ∈ allOps, (lineL o).length = 3 ∨ (lineL o).length = 6 := by decide +kernel
  exact key o (mem_allOps.1 h)
theorem okH_one {o : HOp} (h : rightB o = true) : okH [o] := by
  show (checkF [o]).2 = 0
  have key : ∀ o ∈ allOps, (checkF [o]).2 = 0 := by decide +kernel
  exact key o (mem_allOps.1 h)
theorem doF_st {s : LogSt} {o : HOp} (h : s.st = true) : doF s o = (6, s) := by unfold doF; rw [if_pos h]
theorem doF_bad {s : LogSt} {o : HOp} (h : s.st = false) (h2 : (checkF (s.h ++ [o])).2 ≠ 0) : doF s o = ((checkF (s.h ++ [o])).2, s) := by unfold doF; rw [if_neg (by rw [h]; simp), if_pos h2]
theorem doF_stop {s : LogSt} {o : HOp} (h : s.st = false) (h2 : (checkF (s.h ++ [o])).2 = 0) (h3 : s.left = 0) : doF s o = (6, { stepL s with b := s.b ++ (lineL o).take ((lineL o).length / 2) }) := by unfold doF; rw [if_neg (by rw [h]; simp), if_neg (by rw [h2]; simp), if_pos h3]
theorem doF_goes {s : LogSt} {o : HOp} (h : s.st = false) (h2 : (checkF (s.h ++ [o])).2 = 0) (h3 : s.left ≠ 0) : doF s o = (0, { stepL s with b := s.b ++ lineL o, h := s.h ++ [o] }) := by unfold doF; rw [if_neg (by rw [h]; simp), if_neg (by rw [h2]; simp), if_neg h3]
theorem syncF_st {s : LogSt} (h : s.st = true) : syncF s = (6, s) := by unfold syncF; rw [if_pos h]
theorem syncF_stop {s : LogSt} (h : s.st = false) (h3 : s.left = 0) : syncF s = (6, stepL s) := by unfold syncF; rw [if_neg (by rw [h]; simp), if_pos h3]
theorem syncF_goes {s : LogSt} (h : s.st = false) (h3 : s.left ≠ 0) : syncF s = (0, { stepL s with safe := s.b.length }) := by unfold syncF; rw [if_neg (by rw [h]; simp), if_neg h3]

/-! ### What is left behind a crash. -/
def flatL (h : List HOp) : List UInt8 := h.flatMap lineL
theorem flatL_cons (o : HOp) (t : List HOp) : flatL (o :: t) = textL o ++ 10 :: flatL t := by simp [flatL, lineL]
theorem flatL_snoc (h : List HOp) (o : HOp) : flatL (h ++ [o]) = flatL h ++ lineL o := by simp [flatL]
/-- Up to the last newline. -/
def cutNl : List UInt8 → List UInt8
  | [] => []
  | b :: l => if b = 10 then 10 :: cutNl l else match cutNl l with
    | [] => []
    | x :: r => b :: x :: r
theorem cutNl_app : ∀ (a r : List UInt8), cutNl (a ++ 10 :: r) = a ++ 10 :: cutNl r
  | [], r => by rw [List.nil_append, cutNl, if_pos rfl]; rfl
  | b :: a, r => by
    have ih := cutNl_app a r
    rw [List.cons_append, cutNl]
    split
    · rename_i h; rw [ih, h]; rfl
    · rw [ih]
      cases a with
      | nil => rfl
      | cons x a => rfl
theorem cutNl_no : ∀ {l : List UInt8}, (10 : UInt8) ∉ l → cutNl l = []
  | [], _ => rfl
  | b :: l, h => by
    rw [List.mem_cons, not_or] at h
    rw [cutNl, if_neg (fun e => h.1 e.symm), cutNl_no h.2]
/-- How many lines are whole among so many bytes. -/
def cntL : Nat → List HOp → Nat
  | _, [] => 0
  | k, o :: t => if (lineL o).length ≤ k then cntL (k - (lineL o).length) t + 1 else 0
theorem text_nl {o : HOp} (h : rightB o = true) : (10 : UInt8) ∉ textL o := (text_free o (mem_allOps.1 h)).2.1
theorem cut_lines : ∀ (h : List HOp) (p : List UInt8) (k : Nat), (∀ o ∈ h, rightB o = true) → (10 : UInt8) ∉ p → cutNl ((flatL h ++ p).take k) = flatL (h.take (cntL k h))
  | [], p, k, _, hp => by
    show cutNl (p.take k) = []
    exact cutNl_no fun hm => hp (List.mem_of_mem_take hm)
  | o :: t, p, k, hr, hp => by
    have ho := hr o List.mem_cons_self
    have ht : ∀ x ∈ t, rightB x = true := fun x hx => hr x (List.mem_cons_of_mem _ hx)
    have hl : (lineL o).length = (textL o).length + 1 := by simp [lineL]
    by_cases hk : (lineL o).length ≤ k
    · rw [cntL, if_pos hk, List.take_succ_cons, flatL_cons, flatL_cons, ← cut_lines t p (k - (lineL o).length) ht hp, ← cutNl_app]
      congr 1
      obtain ⟨q, rfl⟩ : ∃ q, k = (textL o).length + 1 + q := ⟨k - ((textL o).length + 1), by omega⟩
      rw [show textL o ++ 10 :: flatL t ++ p = (textL o ++ [10]) ++ (flatL t ++ p) by simp]
      rw [hl, show (textL o).length + 1 + q - ((textL o).length + 1) = q by omega]
      rw [show (textL o).length + 1 + q = (textL o ++ [10]).length + q by simp, List.take_length_add_append]
      simp
    · rw [cntL, if_neg hk, flatL_cons]
      rw [show textL o ++ 10 :: flatL t ++ p = textL o ++ (10 :: flatL t ++ p) by simp, List.take_append_of_le_length (by omega)]
      exact cutNl_no fun hm => text_nl ho (List.mem_of_mem_take hm)
theorem cntL_le : ∀ (k : Nat) (h : List HOp), cntL k h ≤ h.length
  | _, [] => Nat.le_refl _
  | k, o :: t => by
    unfold cntL
    split
    · have := cntL_le (k - (lineL o).length) t
      simp; omega
    · exact Nat.zero_le _
/-- A newline as a blank. -/
def nlS (b : UInt8) : UInt8 := if b = 10 then 32 else b
theorem sw_no {l : List UInt8} (h : (10 : UInt8) ∉ l) : l.map nlS = l := by
  conv => rhs; rw [← List.map_id l]
  refine List.map_congr_left fun b hb => ?_
  unfold nlS
  rw [if_neg (fun e => h (by rw [← e]; exact hb))]; rfl
theorem flat_ne {o : HOp} {t : List HOp} : flatL (o :: t) ≠ [] := by rw [flatL_cons]; simp
theorem flat_print : ∀ {h : List HOp}, (∀ o ∈ h, rightB o = true) → (flatL h).dropLast.map nlS = printL h
  | [], _ => rfl
  | [o], hr => by
    have e : flatL [o] = textL o ++ [10] := by simp [flatL, lineL]
    rw [e, List.dropLast_concat, sw_no (text_nl (hr o List.mem_cons_self))]
    exact (inter_one _ _).symm
  | o :: p :: t, hr => by
    have ih := flat_print (h := p :: t) fun x hx => hr x (List.mem_cons_of_mem _ hx)
    have e : flatL (o :: p :: t) = (textL o ++ [10]) ++ flatL (p :: t) := by rw [flatL_cons]; simp
    rw [e, List.dropLast_append_of_ne_nil flat_ne, List.map_append, ih, List.map_append, sw_no (text_nl (hr o List.mem_cons_self))]
    show textL o ++ [nlS 10] ++ printL (p :: t) = [32].intercalate (textL o :: textL p :: t.map textL)
    rw [inter_cons]
    simp [nlS, printL]
theorem trim_flat (h : List HOp) : Go.Lib.trimSuffix (flatL h) [10] = (flatL h).dropLast := by
  induction h using snocRecL with
  | nil => rfl
  | snoc t o _ =>
    have e : flatL (t ++ [o]) = (flatL t ++ textL o) ++ [10] := by rw [flatL_snoc]; simp [lineL]
    rw [e, List.dropLast_concat]
    generalize flatL t ++ textL o = X
    unfold Go.Lib.trimSuffix Go.Lib.hasSuffix
    rw [if_pos (by simp [List.isSuffixOf, List.isPrefixOf])]
    simp

theorem repl_one : ∀ s : List UInt8, Go.Lib.replaceK [10] [32] (Go.Lib.count s [10]) s = s.map nlS
  | [] => by
    rw [Go.Lib.count_miss (by simp [Go.Lib.index])]; rfl
  | b :: l => by
    have ih := repl_one l
    have hix : Go.Lib.index (b :: l) [10] = if ([10] : List UInt8).isPrefixOf (b :: l) then 0 else if Go.Lib.index l [10] == -1 then -1 else Go.Lib.index l [10] + 1 := rfl
    by_cases h : b = 10
    · subst h
      have h0 : Go.Lib.index (10 :: l) [10] = ((0 : Nat) : Int) := by rw [hix]; simp [List.isPrefixOf]
      rw [Go.Lib.count_hit (by simp) h0, Nat.add_comm, Go.Lib.replaceK_hit _ _ _ _ 0 h0]
      have e : ([10] : List UInt8).length = 1 := rfl
      rw [e] at *
      simp only [List.take_zero, List.nil_append, Nat.zero_add, List.drop_one, List.tail_cons]
      rw [ih]
      simp [nlS]
    · have hp : ([10] : List UInt8).isPrefixOf (b :: l) = false := by simp [List.isPrefixOf, Ne.symm h]
      rw [hp, if_neg (by simp)] at hix
      by_cases hm : Go.Lib.index l [10] = -1
      · rw [hm, if_pos (by decide)] at hix
        rw [Go.Lib.count_miss hix]
        rw [Go.Lib.count_miss hm] at ih
        change l = l.map nlS at ih
        show b :: l = (b :: l).map nlS
        rw [List.map_cons, ← ih]
        unfold nlS
        rw [if_neg h]
      · have hge := Go.Lib.index_ge l [10]
        obtain ⟨j, hj⟩ : ∃ j : Nat, Go.Lib.index l [10] = j := ⟨(Go.Lib.index l [10]).toNat, by omega⟩
        rw [hj] at hix
        have hix' : Go.Lib.index (b :: l) [10] = ((j + 1 : Nat) : Int) := by rw [hix, if_neg (by simp)]; omega
        rw [Go.Lib.count_hit (by simp) hj, Nat.add_comm, Go.Lib.replaceK_hit _ _ _ _ j hj] at ih
        rw [Go.Lib.count_hit (by simp) hix', Nat.add_comm, Go.Lib.replaceK_hit _ _ _ _ (j + 1) hix']
        rw [List.map_cons, ← ih]
        have e : nlS b = b := by unfold nlS; rw [if_neg h]
        rw [e]
        simp
theorem repl_all (s : List UInt8) : Go.Lib.replaceAll s [10] [32] = s.map nlS := by
  unfold Go.Lib.replaceAll Go.Lib.replace Go.Lib.replaceNum
  rw [if_neg (by decide), if_pos (.inl (by decide)), repl_one]
/-- The kit's word for the last newline. -/
theorem last_cut (l : List UInt8) : ((cutNl l).length : Int) = Go.Lib.lastIndexByte ⟨l.toArray⟩ 10 + 1 ∧ l.take (cutNl l).length = cutNl l := by
  have hget : ∀ j, j < l.length → ((((⟨l.toArray⟩ : ByteArray).data[j]!).toNat : Int) = 10 ↔ l[j]? = some 10) := by
    intro j hj
    rw [show (⟨l.toArray⟩ : ByteArray).data[j]! = l[j] by simp [hj], List.getElem?_eq_getElem hj]
    constructor
    · intro h
      congr 1
      apply UInt8.toNat_inj.1
      show l[j].toNat = 10
      omega
    · intro h
      injection h with h
      rw [h]; rfl
  rcases Go.Lib.lastIndexByte_spec ⟨l.toArray⟩ 10 with ⟨e, hn⟩ | ⟨i, hi, e, hc, hn⟩
  · have hno : (10 : UInt8) ∉ l := fun hm => by
      obtain ⟨j, hj⟩ := List.mem_iff_getElem?.1 hm
      have hlt := (List.getElem?_eq_some_iff.1 hj).1
      exact hn j hlt ((hget j hlt).2 hj)
    rw [e, cutNl_no hno]
    exact ⟨rfl, rfl⟩
  · have hi' : i < l.length := hi
    have hx := (hget i hi').1 hc
    have hs : l = l.take i ++ 10 :: l.drop (i + 1) := split_atL hx
    have hno : (10 : UInt8) ∉ l.drop (i + 1) := fun hm => by
      obtain ⟨j, hj⟩ := List.mem_iff_getElem?.1 hm
      rw [List.getElem?_drop] at hj
      have hlt := (List.getElem?_eq_some_iff.1 hj).1
      exact hn (i + 1 + j) (by omega) hlt ((hget _ hlt).2 hj)
    have hcut : cutNl l = l.take i ++ [10] := by
      conv => lhs; rw [hs]
      rw [cutNl_app, cutNl_no hno]
    have hlen : (cutNl l).length = i + 1 := by rw [hcut, List.length_append, List.length_take]; simp; omega
    rw [e, hlen]
    refine ⟨by omega, ?_⟩
    rw [hcut, List.take_add_one, hx]; rfl
/-- Behind a crash. -/
def keptN (s : LogSt) (keep : Int) : Nat := s.safe + (max 0 (min keep ((s.b.length : Int) - s.safe))).toNat
def crashF (s : LogSt) (keep : Int) : LogSt :=
  let b2 := cutNl (s.b.take (keptN s keep))
  let t := (Go.Lib.trimSuffix b2 [10]).map nlS
  if parseE t = 0 then ⟨parseL t, b2, b2.length, -1, false⟩ else s
/-- What a log keeps: its ops, as lines; what is left of a line where it has stopped. -/
structure LogI (s : LogSt) : Prop where
  ok : okH s.h
  b : ∃ p, s.b = flatL s.h ++ p ∧ (10 : UInt8) ∉ p ∧ p.length ≤ 6 ∧ (s.st = false → p = [])
  safe : ∃ i, i ≤ s.h.length ∧ s.safe = (flatL (s.h.take i)).length
theorem okH_takeL {h : List HOp} (hk : okH h) (i : Nat) : okH (h.take i) := okH_pre (a := h.take i) (r := h.drop i) (by rw [List.take_append_drop]; exact hk)
theorem crash_is {s : LogSt} (I : LogI s) (keep : Int) : crashF s keep = ⟨s.h.take (cntL (keptN s keep) s.h), flatL (s.h.take (cntL (keptN s keep) s.h)), (flatL (s.h.take (cntL (keptN s keep) s.h))).length, -1, false⟩ := by
  obtain ⟨p, hb, hp, _⟩ := I.b
  unfold crashF
  simp only
  rw [hb, cut_lines s.h p _ (okH_right I.ok) hp, trim_flat, flat_print (okH_right (okH_takeL I.ok _))]
  obtain ⟨h1, h2⟩ := parse_print (okH_takeL I.ok (cntL (keptN s keep) s.h))
  rw [if_pos h1, h2]
theorem flat_len (h : List HOp) (hr : ∀ o ∈ h, rightB o = true) : (flatL h).length ≤ 6 * h.length := by
  induction h with
  | nil => exact Nat.le_refl _
  | cons o t ih =>
    have := ih fun x hx => hr x (List.mem_cons_of_mem _ hx)
    have h2 := (text_free o (mem_allOps.1 (hr o List.mem_cons_self))).2.2.2
    rw [flatL_cons, List.length_append, List.length_cons, List.length_cons]
    omega
theorem LogI.ok' {s : LogSt} (I : LogI s) (hl : -1 ≤ s.left ∧ s.left ≤ 9223372036854775807) : LogOk s := by
  have h40 := okH_len I.ok
  obtain ⟨p, hb, _, hp, _⟩ := I.b
  have hf := flat_len s.h (okH_right I.ok)
  obtain ⟨i, hi, hs⟩ := I.safe
  have hf2 := flat_len (s.h.take i) fun o ho => okH_right I.ok o (List.mem_of_mem_take ho)
  rw [List.length_take] at hf2
  refine ⟨h40, ?_, by omega, hl⟩
  rw [hb, List.length_append]; omega
theorem logI0 : LogI log0 := ⟨by show (checkF []).2 = 0; decide, ⟨[], rfl, by simp, Nat.zero_le _, fun _ => rfl⟩, ⟨0, Nat.le_refl _, rfl⟩⟩
theorem line_half {o : HOp} (h : rightB o = true) : (10 : UInt8) ∉ (lineL o).take ((lineL o).length / 2) ∧ ((lineL o).take ((lineL o).length / 2)).length ≤ 6 := by
  have key : ∀ o ∈ allOps, (10 : UInt8) ∉ (lineL o).take ((lineL o).length / 2) ∧ ((lineL o).take ((lineL o).length / 2)).length ≤ 6 := by decide +kernel
  exact key o (mem_allOps.1 h)
theorem LogI.doo {s : LogSt} (I : LogI s) (o : HOp) : LogI (doF s o).2 := by
  obtain ⟨p, hb, hp, hp6, hpz⟩ := I.b
  obtain ⟨i, hi, hs⟩ := I.safe
  by_cases h1 : s.st = true
  · rw [doF_st h1]; exact I
  have h1 : s.st = false := by simpa using h1
  by_cases h2 : (checkF (s.h ++ [o])).2 = 0
  · have hok : okH (s.h ++ [o]) := h2
    have hro := okH_right hok o (by simp)
    have hpe := hpz h1
    subst hpe
    rw [List.append_nil] at hb
    by_cases h3 : s.left = 0
    · rw [doF_stop h1 h2 h3]
      obtain ⟨l1, l2⟩ := line_half hro
      refine ⟨I.ok, ⟨(lineL o).take ((lineL o).length / 2), by show s.b ++ _ = flatL s.h ++ _; rw [hb], l1, l2, fun hst => ?_⟩, ⟨i, hi, hs⟩⟩
      exfalso
      have : decide (s.left = 0) = false := hst
      rw [decide_eq_true h3] at this
      cases this
    · rw [doF_goes h1 h2 h3]
      refine ⟨hok, ⟨[], by show s.b ++ lineL o = flatL (s.h ++ [o]) ++ []; rw [hb, flatL_snoc, List.append_nil], by simp, Nat.zero_le _, fun _ => rfl⟩, ⟨i, ?_, ?_⟩⟩
      · show i ≤ (s.h ++ [o]).length
        rw [List.length_append]; omega
      · show s.safe = (flatL ((s.h ++ [o]).take i)).length
        rw [List.take_append_of_le_length hi]; exact hs
  · rw [doF_bad h1 h2]; exact I
theorem LogI.sync {s : LogSt} (I : LogI s) : LogI (syncF s).2 := by
  obtain ⟨p, hb, hp, hp6, hpz⟩ := I.b
  obtain ⟨i, hi, hs⟩ := I.safe
  by_cases h1 : s.st = true
  · rw [syncF_st h1]; exact I
  have h1 : s.st = false := by simpa using h1
  have hpe := hpz h1
  by_cases h3 : s.left = 0
  · rw [syncF_stop h1 h3]
    exact ⟨I.ok, ⟨p, hb, hp, hp6, fun _ => hpe⟩, ⟨i, hi, hs⟩⟩
  · rw [syncF_goes h1 h3]
    refine ⟨I.ok, ⟨p, hb, hp, hp6, fun _ => hpe⟩, ⟨s.h.length, Nat.le_refl _, ?_⟩⟩
    show s.b.length = (flatL (s.h.take s.h.length)).length
    rw [List.take_length, hb, hpe, List.append_nil]
theorem LogI.fail {s : LogSt} (I : LogI s) (n : Int) : LogI (failF s n) := ⟨I.ok, I.b, I.safe⟩
theorem LogI.crash {s : LogSt} (I : LogI s) (keep : Int) : LogI (crashF s keep) := by
  rw [crash_is I]
  exact ⟨okH_takeL I.ok _, ⟨[], (List.append_nil _).symm, by simp, Nat.zero_le _, fun _ => rfl⟩, ⟨_, Nat.le_refl _, by rw [List.take_length]⟩⟩
end Go.Proofs.YtahbaddclacakaaDoor

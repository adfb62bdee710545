
/-
  PLAIN LAWS: what a view is; swaps of neighbours that are not at odds keep it.
  PLAIN LAWS: which write a read read; two that look the same read the same writes.
  PLAIN LAWS: who looks the same comes to the same.
-/
import Derived.Test.YtaaahfbcpgdoiaaGreatDoorQ10
import Derived.Test.YtaaahfbcpgdoiaaGreatDoorQ7
import Derived.Test.YtaaahfbcpgdoiaaGreatDoorQ3

namespace Go.Proofs.YtaaahfbcpgdoiaaGreatDoor
open Go.RowKit

/-! ### What a view is: who wrote each item last, and of each read of a deal which write it read. -/
def upd {α : Type} (f : Int → α) (k : Int) (v : α) : Int → α := fun x => if x = k then v else f x
theorem upd_same {α : Type} (f : Int → α) (k : Int) (v : α) : upd f k v k = v := if_pos rfl
theorem upd_other {α : Type} (f : Int → α) {k x : Int} (h : x ≠ k) (v : α) : upd f k v x = f x := if_neg h
theorem upd_comm {α : Type} (f : Int → α) {j k : Int} (h : j ≠ k) (u v : α) : upd (upd f j u) k v = upd (upd f k v) j u := by
  funext x
  unfold upd
  by_cases h1 : x = k <;> by_cases h2 : x = j <;> simp [h1, h2]
  · exact absurd (h2.symm.trans h1) h
  · intro h3; exact absurd h3.symm h
  · intro h3; exact absurd h3 h
structure VS where
  last : Int → Int × Int
  many : Int → Int
  out : Int → List (Int × Int)
def vs0 : VS := ⟨fun _ => (0, 0), fun _ => 0, fun _ => []⟩
def stepS (s : VS) (o : HOp) : VS :=
  if o.what = 1 then ⟨s.last, upd s.many o.tx (s.many o.tx + 1), upd s.out o.tx (s.out o.tx ++ [s.last o.item])⟩
  else if o.what = 2 then ⟨upd s.last o.item (o.tx, s.many o.tx + 1), upd s.many o.tx (s.many o.tx + 1), s.out⟩
  else ⟨s.last, upd s.many o.tx (s.many o.tx + 1), s.out⟩
def srcF (h : List HOp) : VS := h.foldl stepS vs0
theorem srcF_snoc (h : List HOp) (o : HOp) : srcF (h ++ [o]) = stepS (srcF h) o := by unfold srcF; rw [List.foldl_append]; rfl
theorem srcF_at {h : List HOp} {k : Nat} {o : HOp} (ho : h[k]? = some o) : srcF (h.take (k + 1)) = stepS (srcF (h.take k)) o := by rw [takeSnoc ho, srcF_snoc]
def lastL (h : List HOp) : List Int := [(1 : Int), 2, 3, 4, 5, 6].map fun x => ((srcF h).last x).1
def viewB (h g : List HOp) : Bool := sameOwnB h g && (decide (lastL h = lastL g) && [(0 : Int), 1, 2, 3, 4, 5, 6].all fun t => decide ((srcF h).out t = (srcF g).out t))
theorem stepS_comm {a b : HOp} (ht : a.tx ≠ b.tx) (ho : oddB a b = false) (ha : rightB a = true) (hb : rightB b = true) (s : VS) : stepS (stepS s a) b = stepS (stepS s b) a := by
  obtain ⟨a1, a2, _, _, a5, _⟩ := rightB_get ha
  obtain ⟨b1, b2, _, _, b5, _⟩ := rightB_get hb
  have ht' : b.tx ≠ a.tx := fun e => ht e.symm
  have hitem : a.what < 3 → b.what < 3 → (a.what = 2 ∨ b.what = 2) → a.item ≠ b.item := by
    intro h1 h2 h3 he
    have ia := a5 h1
    have : oddB a b = true := by
      unfold oddB
      rw [decide_eq_true_iff]
      exact ⟨ht, he, by omega, h3⟩
    rw [ho] at this
    cases this
  obtain ⟨l, m, u⟩ := s
  by_cases pa1 : a.what = 1
  · by_cases pb1 : b.what = 1
    · simp only [stepS, pa1, pb1, if_true, upd_other _ ht, upd_other _ ht']
      rw [upd_comm _ ht, upd_comm _ ht]
    · by_cases pb2 : b.what = 2
      · have hi := hitem (by omega) (by omega) (.inr pb2)
        simp only [stepS, pa1, pb2, if_true, upd_other _ ht']
        simp only [show ((2 : Int) = 1) = False by simp, if_false, upd_other _ ht, upd_other _ hi]
        rw [upd_comm _ ht]
      · simp only [stepS, pa1, pb1, pb2, if_true, if_false, upd_other _ ht, upd_other _ ht']
        rw [upd_comm _ ht]
  · by_cases pa2 : a.what = 2
    · by_cases pb1 : b.what = 1
      · have hi := hitem (by omega) (by omega) (.inl pa2)
        simp only [stepS, pa2, pb1, if_true]
        simp only [show ((2 : Int) = 1) = False by simp, if_false, upd_other _ ht, upd_other _ ht', upd_other _ (fun e => hi e.symm)]
        rw [upd_comm _ ht]
      · by_cases pb2 : b.what = 2
        · have hi := hitem (by omega) (by omega) (.inl pa2)
          simp only [stepS, pa2, pb2, if_true]
          simp only [show ((2 : Int) = 1) = False by simp, if_false, upd_other _ ht, upd_other _ ht']
          rw [upd_comm _ ht, upd_comm _ hi]
        · simp only [stepS, pa2, pb1, pb2, if_true]
          simp only [show ((2 : Int) = 1) = False by simp, if_false, upd_other _ ht, upd_other _ ht']
          rw [upd_comm _ ht]
    · by_cases pb1 : b.what = 1
      · simp only [stepS, pa1, pa2, pb1, if_true, if_false, upd_other _ ht, upd_other _ ht']
        rw [upd_comm _ ht]
      · by_cases pb2 : b.what = 2
        · simp only [stepS, pa1, pa2, pb2, if_true, if_false]
          simp only [show ((2 : Int) = 1) = False by simp, if_false, upd_other _ ht, upd_other _ ht']
          rw [upd_comm _ ht]
        · simp only [stepS, pa1, pa2, pb1, pb2, if_false, upd_other _ ht, upd_other _ ht']
          rw [upd_comm _ ht]
theorem srcF_sw {h g : List HOp} (hs : Sw h g) (hr : ∀ o ∈ h, rightB o = true) : srcF h = srcF g :=
  Sw.inv (P := fun o => rightB o = true) srcF (fun p q a b hab ho hP => by
    unfold srcF
    simp only [List.foldl_append, List.foldl_cons]
    rw [stepS_comm hab ho (hP a (by simp)) (hP b (by simp))]) hs hr
theorem view_sw {h g : List HOp} (hs : Sw h g) (hr : ∀ o ∈ h, rightB o = true) : viewB h g = true := by
  unfold viewB lastL
  rw [srcF_sw hs hr]
  simp only [decide_true, Bool.and_eq_true, List.all_eq_true, implies_true]
  exact ⟨sameOwnB_iff.2 fun t _ _ => hs.own t, trivial, trivial⟩
/-- Who wrote last, as look tells it. -/
theorem lookGo_last : ∀ (r : List HOp) (i : Int) (last : List Int) (out : List (Int × Int)) (s : VS), (∀ o ∈ r, rightB o = true) → last = [(1 : Int), 2, 3, 4, 5, 6].map (fun x => (s.last x).1) →
    (lookGo i last out r).2 = [(1 : Int), 2, 3, 4, 5, 6].map fun x => ((r.foldl stepS s).last x).1
  | [], _, _, _, _, _, h => h
  | o :: t, i, last, out, s, hr, h => by
    obtain ⟨_, _, _, _, g5, _⟩ := rightB_get (hr o List.mem_cons_self)
    have hrt : ∀ x ∈ t, rightB x = true := fun x hx => hr x (List.mem_cons_of_mem _ hx)
    rw [lookGo, List.foldl_cons]
    by_cases h1 : o.what = 1
    · rw [if_pos h1]
      exact lookGo_last t _ _ _ _ hrt (by rw [h]; simp only [stepS, if_pos h1])
    · rw [if_neg h1]
      by_cases h2 : o.what = 2
      · rw [if_pos h2]
        refine lookGo_last t _ _ _ _ hrt ?_
        rw [h]
        simp only [stepS, if_neg h1, if_pos h2]
        have hi := g5 (by omega)
        have hc : o.item = 1 ∨ o.item = 2 ∨ o.item = 3 ∨ o.item = 4 ∨ o.item = 5 ∨ o.item = 6 := by omega
        rcases hc with e | e | e | e | e | e <;> rw [e] <;> simp [upd]
      · rw [if_neg h2]
        exact lookGo_last t _ _ _ _ hrt (by rw [h]; simp only [stepS, if_neg h1, if_neg h2])
theorem look_last {h : List HOp} (hr : ∀ o ∈ h, rightB o = true) : (lookF h).2 = lastL h := lookGo_last h _ _ _ vs0 hr rfl
end Go.Proofs.YtaaahfbcpgdoiaaGreatDoor


namespace Go.Proofs.YtaaahfbcpgdoiaaGreatDoor
open Go.RowKit

/-! ### Which write a read read. -/
theorem many_cnt (h : List HOp) (t : Int) : (srcF h).many t = cntT h t := by
  have key : ∀ (r p : List HOp), (∀ t, (srcF p).many t = cntT p t) → ∀ t, (srcF (p ++ r)).many t = cntT (p ++ r) t := by
    intro r
    induction r with
    | nil => intro p h t; simpa using h t
    | cons o r ih =>
      intro p h t
      have := ih (p ++ [o]) (fun t => by
        rw [srcF_snoc, cntT_snoc]
        have hm : (stepS (srcF p) o).many = upd (srcF p).many o.tx ((srcF p).many o.tx + 1) := by
          unfold stepS
          split
          · rfl
          · split <;> rfl
        rw [hm]
        by_cases e : t = o.tx
        · subst e; rw [upd_same, if_pos rfl, h]; omega
        · rw [upd_other _ e, if_neg (fun e' => e e'.symm), h]; omega) t
      simpa using this
  exact key h [] (fun t => rfl) t
theorem last_spec (h : List HOp) (x : Int) : ∀ k : Nat, ((srcF (h.take k)).last x = (0, 0) ∧ ∀ (j : Nat) (o : HOp), j < k → h[j]? = some o → ¬ (o.what = 2 ∧ o.item = x)) ∨
    ∃ (i : Nat) (o : HOp), i < k ∧ h[i]? = some o ∧ o.what = 2 ∧ o.item = x ∧ (srcF (h.take k)).last x = (o.tx, (cntT (h.take i) o.tx : Int) + 1) ∧ ∀ (j : Nat) (y : HOp), i < j → j < k → h[j]? = some y → ¬ (y.what = 2 ∧ y.item = x)
  | 0 => .inl ⟨by rw [List.take_zero]; rfl, fun j o hj => by omega⟩
  | k + 1 => by
    cases ho : h[k]? with
    | none =>
      have hl : h.length ≤ k := List.getElem?_eq_none_iff.1 ho
      rw [show h.take (k + 1) = h.take k by rw [List.take_of_length_le (by omega), List.take_of_length_le (by omega)]]
      rcases last_spec h x k with ⟨h1, h2⟩ | ⟨i, o, h1, h2, h3, h4, h5, h6⟩
      · refine .inl ⟨h1, fun j y hj hy => h2 j y ?_ hy⟩
        have := (List.getElem?_eq_some_iff.1 hy).1
        omega
      · refine .inr ⟨i, o, by omega, h2, h3, h4, h5, fun j y hj hjk hy => h6 j y hj ?_ hy⟩
        have := (List.getElem?_eq_some_iff.1 hy).1
        omega
    | some o =>
      rw [srcF_at ho]
      by_cases hw : o.what = 2 ∧ o.item = x
      · refine .inr ⟨k, o, by omega, ho, hw.1, hw.2, ?_, fun j y h1 h2 => by omega⟩
        unfold stepS
        rw [if_neg (by omega), if_pos hw.1, hw.2]
        simp only [upd_same]
        rw [many_cnt]
      · have hl : (stepS (srcF (h.take k)) o).last x = (srcF (h.take k)).last x := by
          unfold stepS
          split
          · rfl
          · split
            · rename_i h2
              exact upd_other _ (fun e => hw ⟨h2, e.symm⟩) _
            · rfl
        rw [hl]
        rcases last_spec h x k with ⟨h1, h2⟩ | ⟨i, p, h1, h2, h3, h4, h5, h6⟩
        · refine .inl ⟨h1, fun j y hj hy => ?_⟩
          rcases Nat.lt_or_ge j k with h | h
          · exact h2 j y h hy
          · obtain rfl : j = k := by omega
            rw [ho] at hy; cases hy; exact hw
        · refine .inr ⟨i, p, by omega, h2, h3, h4, h5, fun j y hj hjk hy => ?_⟩
          rcases Nat.lt_or_ge j k with h | h
          · exact h6 j y hj h hy
          · obtain rfl : j = k := by omega
            rw [ho] at hy; cases hy; exact hw
/-- What a deal's reads read, one by one. -/
def rdC (l : List HOp) : Nat := l.countP fun o => decide (o.what = 1)
theorem out_len (h : List HOp) (t : Int) : ∀ k : Nat, ((srcF (h.take k)).out t).length = rdC (ownL (h.take k) t)
  | 0 => by rw [List.take_zero]; rfl
  | k + 1 => by
    cases ho : h[k]? with
    | none =>
      have hl : h.length ≤ k := List.getElem?_eq_none_iff.1 ho
      rw [show h.take (k + 1) = h.take k by rw [List.take_of_length_le (by omega), List.take_of_length_le (by omega)]]
      exact out_len h t k
    | some o =>
      rw [srcF_at ho, takeSnoc ho, ownL_append]
      have ih := out_len h t k
      have hc : rdC (ownL (h.take k) t ++ ownL [o] t) = rdC (ownL (h.take k) t) + rdC (ownL [o] t) := List.countP_append
      rw [hc, ← ih]
      unfold stepS
      by_cases h1 : o.what = 1
      · rw [if_pos h1]
        by_cases e : t = o.tx
        · subst e
          simp only [upd_same, List.length_append, List.length_singleton]
          simp [ownL, rdC, h1]
        · simp only [upd_other _ e]
          have : ownL [o] t = [] := by simp [ownL]; exact fun e' => e e'.symm
          rw [this]; rfl
      · rw [if_neg h1]
        have h0 : rdC (ownL [o] t) = 0 := by
          unfold rdC ownL
          rw [List.countP_eq_zero]
          intro x hx
          have := (List.mem_filter.1 hx).1
          rw [List.mem_singleton.1 this]
          simpa using h1
        split <;> simp only [h0, Nat.add_zero]
theorem out_grow (h : List HOp) (t : Int) (k : Nat) : ∃ r, (srcF h).out t = (srcF (h.take k)).out t ++ r := by
  have key : ∀ (l : List HOp) (s : VS), ∃ r, (l.foldl stepS s).out t = s.out t ++ r := by
    intro l
    induction l with
    | nil => intro s; exact ⟨[], by simp⟩
    | cons o l ih =>
      intro s
      obtain ⟨r, hr⟩ := ih (stepS s o)
      rw [List.foldl_cons, hr]
      unfold stepS
      split
      · by_cases e : t = o.tx
        · subst e
          simp only [upd_same]
          exact ⟨_, List.append_assoc _ _ _⟩
        · simp only [upd_other _ e]
          exact ⟨r, rfl⟩
      · split <;> exact ⟨r, rfl⟩
  obtain ⟨r, hr⟩ := key (h.drop k) (srcF (h.take k))
  refine ⟨r, ?_⟩
  rw [← hr]
  unfold srcF
  rw [← List.foldl_append, List.take_append_drop]
theorem out_at {h : List HOp} {i : Nat} {o : HOp} (ho : h[i]? = some o) (hw : o.what = 1) : ((srcF h).out o.tx)[rdC (ownL (h.take i) o.tx)]? = some ((srcF (h.take i)).last o.item) := by
  obtain ⟨r, hr⟩ := out_grow h o.tx (i + 1)
  rw [hr, srcF_at ho]
  have hs : (stepS (srcF (h.take i)) o).out o.tx = (srcF (h.take i)).out o.tx ++ [(srcF (h.take i)).last o.item] := by
    unfold stepS
    rw [if_pos hw]
    simp only [upd_same]
  have hl := out_len h o.tx i
  rw [hs, List.append_assoc, List.getElem?_append_right (by omega), hl, Nat.sub_self]
  rfl
theorem own_take (h : List HOp) (t : Int) (i : Nat) : ownL (h.take i) t = (ownL h t).take (cntT (h.take i) t) := by
  have e : ownL h t = ownL (h.take i) t ++ ownL (h.drop i) t := by rw [← ownL_append, List.take_append_drop]
  rw [e, ← cntT_own (h.take i) t, List.take_left']
  rfl
theorem viewB_iff {h g : List HOp} : viewB h g = true ↔ (∀ t : Int, 1 ≤ t → t ≤ 6 → ownL h t = ownL g t) ∧ lastL h = lastL g ∧ ∀ t : Int, 0 ≤ t → t ≤ 6 → (srcF h).out t = (srcF g).out t := by
  unfold viewB
  rw [Bool.and_eq_true, Bool.and_eq_true, sameOwnB_iff, decide_eq_true_iff, List.all_eq_true]
  refine and_congr Iff.rfl (and_congr Iff.rfl ⟨fun h t h1 h2 => ?_, fun h t ht => ?_⟩)
  · have hm : t ∈ [(0 : Int), 1, 2, 3, 4, 5, 6] := by simp; omega
    exact of_decide_eq_true (h t hm)
  · rw [decide_eq_true_iff]
    refine h t ?_ ?_ <;> (simp at ht; omega)
/-- A read's place in both, of which it is the same op of its deal: both read the same write. -/
theorem view_read {h g : List HOp} (hv : viewB h g = true) {i j : Nat} {o : HOp} (ho : h[i]? = some o) (hg : g[j]? = some o) (ht : 1 ≤ o.tx ∧ o.tx ≤ 6) (hc : cntT (g.take j) o.tx = cntT (h.take i) o.tx) (hw : o.what = 1) :
    (srcF (h.take i)).last o.item = (srcF (g.take j)).last o.item := by
  obtain ⟨h1, _, h3⟩ := viewB_iff.1 hv
  have e1 := out_at ho hw
  have e2 := out_at hg hw
  rw [own_take, hc, ← h1 o.tx ht.1 ht.2, ← own_take, ← h3 o.tx (by omega) ht.2, e1] at e2
  exact Option.some.inj e2
end Go.Proofs.YtaaahfbcpgdoiaaGreatDoor


namespace Go.Proofs.YtaaahfbcpgdoiaaGreatDoor
open Go.RowKit

/-! ### Who looks the same comes to the same. -/
structure PS where
  vals : Int → Int
  cnt : Int → Int
  sum : Int → Int
def ps0 : PS := ⟨fun _ => 0, fun _ => 0, fun _ => 0⟩
def wroteV (s : PS) (o : HOp) : Int := (7 * o.tx + (s.cnt o.tx + 1) + s.sum o.tx) % 1000003
def stepP (s : PS) (o : HOp) : PS :=
  if o.what = 1 then ⟨s.vals, upd s.cnt o.tx (s.cnt o.tx + 1), upd s.sum o.tx (s.sum o.tx + s.vals o.item)⟩
  else if o.what = 2 then ⟨upd s.vals o.item (wroteV s o), upd s.cnt o.tx (s.cnt o.tx + 1), s.sum⟩
  else ⟨s.vals, upd s.cnt o.tx (s.cnt o.tx + 1), s.sum⟩
def psF (h : List HOp) : PS := h.foldl stepP ps0
theorem psF_at {h : List HOp} {k : Nat} {o : HOp} (ho : h[k]? = some o) : psF (h.take (k + 1)) = stepP (psF (h.take k)) o := by
  rw [takeSnoc ho]; unfold psF; rw [List.foldl_append]; rfl
theorem stepP_cnt (s : PS) (o : HOp) : (stepP s o).cnt = upd s.cnt o.tx (s.cnt o.tx + 1) := by
  unfold stepP
  split
  · rfl
  · split <;> rfl
theorem ps_cnt (h : List HOp) (t : Int) : ∀ k : Nat, (psF (h.take k)).cnt t = cntT (h.take k) t
  | 0 => by rw [List.take_zero]; rfl
  | k + 1 => by
    cases ho : h[k]? with
    | none =>
      have hl : h.length ≤ k := List.getElem?_eq_none_iff.1 ho
      rw [show h.take (k + 1) = h.take k by rw [List.take_of_length_le (by omega), List.take_of_length_le (by omega)]]
      exact ps_cnt h t k
    | some o =>
      rw [psF_at ho, stepP_cnt, takeSnoc ho, cntT_snoc]
      by_cases e : t = o.tx
      · subst e; rw [upd_same, if_pos rfl, ps_cnt h o.tx k]; omega
      · rw [upd_other _ e, if_neg (fun e' => e e'.symm), ps_cnt h t k]; omega
/-- A value stands as the last write behind which it stands wrote it. -/
theorem vals_spec (h : List HOp) (x : Int) : ∀ k : Nat, ((∀ (j : Nat) (o : HOp), j < k → h[j]? = some o → ¬ (o.what = 2 ∧ o.item = x)) → (psF (h.take k)).vals x = 0) ∧
    ∀ (i : Nat) (o : HOp), i < k → h[i]? = some o → o.what = 2 → o.item = x → (∀ (j : Nat) (y : HOp), i < j → j < k → h[j]? = some y → ¬ (y.what = 2 ∧ y.item = x)) → (psF (h.take k)).vals x = wroteV (psF (h.take i)) o
  | 0 => ⟨fun _ => by rw [List.take_zero]; rfl, fun i o hi => by omega⟩
  | k + 1 => by
    obtain ⟨ih1, ih2⟩ := vals_spec h x k
    cases ho : h[k]? with
    | none =>
      have hl : h.length ≤ k := List.getElem?_eq_none_iff.1 ho
      rw [show h.take (k + 1) = h.take k by rw [List.take_of_length_le (by omega), List.take_of_length_le (by omega)]]
      refine ⟨fun hn => ih1 fun j y hj hy => hn j y (by omega) hy, fun i o hi h1 h2 h3 h4 => ih2 i o ?_ h1 h2 h3 fun j y hj hjk hy => h4 j y hj (by omega) hy⟩
      have := (List.getElem?_eq_some_iff.1 h1).1
      omega
    | some p =>
      rw [psF_at ho]
      have hkeep : ¬ (p.what = 2 ∧ p.item = x) → (stepP (psF (h.take k)) p).vals x = (psF (h.take k)).vals x := fun hw => by
        unfold stepP
        split
        · rfl
        · split
          · rename_i h2
            exact upd_other _ (fun e => hw ⟨h2, e.symm⟩) _
          · rfl
      constructor
      · intro hn
        rw [hkeep (hn k p (by omega) ho)]
        exact ih1 fun j y hj hy => hn j y (by omega) hy
      · intro i o hi h1 h2 h3 h4
        rcases Nat.lt_or_ge i k with hlt | hge
        · rw [hkeep (h4 k p hlt (by omega) ho)]
          exact ih2 i o hlt h1 h2 h3 fun j y hj hjk hy => h4 j y hj (by omega) hy
        · obtain rfl : i = k := by omega
          rw [ho] at h1
          cases h1
          unfold stepP
          rw [if_neg (by omega), if_pos h2, ← h3]
          exact upd_same _ _ _
/-- The op of a deal that stands ahead, in both. -/
theorem prev_own {h : List HOp} {t : Int} : ∀ {k : Nat} {c : Nat}, cntT (h.take k) t = c + 1 → ∃ (i : Nat) (o : HOp), i < k ∧ h[i]? = some o ∧ o.tx = t ∧ cntT (h.take i) t = c ∧ (psF (h.take k)).sum t = (psF (h.take (i + 1))).sum t
  | 0, c, h0 => by rw [List.take_zero] at h0; cases h0
  | k + 1, c, hc => by
    cases ho : h[k]? with
    | none =>
      have hl : h.length ≤ k := List.getElem?_eq_none_iff.1 ho
      rw [show h.take (k + 1) = h.take k by rw [List.take_of_length_le (by omega), List.take_of_length_le (by omega)]] at hc ⊢
      obtain ⟨i, o, h1, h2⟩ := prev_own hc
      exact ⟨i, o, by omega, h2⟩
    | some p =>
      rw [takeSnoc ho, cntT_snoc] at hc
      by_cases e : p.tx = t
      · rw [if_pos e] at hc
        exact ⟨k, p, by omega, ho, e, by omega, rfl⟩
      · rw [if_neg e] at hc
        obtain ⟨i, o, h1, h2, h3, h4, h5⟩ := prev_own (k := k) (c := c) (by omega)
        refine ⟨i, o, by omega, h2, h3, h4, ?_⟩
        rw [← h5, psF_at ho]
        unfold stepP
        split
        · exact upd_other _ (fun e' => e e'.symm) _
        · split <;> rfl
theorem first_own {h : List HOp} {t : Int} : ∀ {k : Nat}, cntT (h.take k) t = 0 → (psF (h.take k)).sum t = 0
  | 0, _ => by rw [List.take_zero]; rfl
  | k + 1, hc => by
    cases ho : h[k]? with
    | none =>
      have hl : h.length ≤ k := List.getElem?_eq_none_iff.1 ho
      rw [show h.take (k + 1) = h.take k by rw [List.take_of_length_le (by omega), List.take_of_length_le (by omega)]] at hc ⊢
      exact first_own hc
    | some p =>
      rw [takeSnoc ho, cntT_snoc] at hc
      have e : ¬ p.tx = t := fun e => by rw [if_pos e] at hc; omega
      rw [if_neg e] at hc
      rw [psF_at ho, ← first_own (h := h) (t := t) (k := k) (by omega)]
      unfold stepP
      split
      · exact upd_other _ (fun e' => e e'.symm) _
      · split <;> rfl
def sameAt (h g : List HOp) (i j : Nat) (o : HOp) : Prop := h[i]? = some o ∧ g[j]? = some o ∧ cntT (g.take j) o.tx = cntT (h.take i) o.tx
theorem same_in {h g : List HOp} (hv : viewB h g = true) {j : Nat} {o : HOp} (ho : g[j]? = some o) (ht : 1 ≤ o.tx ∧ o.tx ≤ 6) : ∃ i, sameAt h g i j o := by
  obtain ⟨h1, _, _⟩ := viewB_iff.1 hv
  obtain ⟨i, h2, h3⟩ := name_in ho (h1 o.tx ht.1 ht.2).symm
  exact ⟨i, h2, ho, h3.symm⟩
/-- The write that a read reads, in both. -/
theorem both_read {h g : List HOp} (hv : viewB h g = true) (hr : ∀ o ∈ h, rightB o = true) (hrg : ∀ o ∈ g, rightB o = true) {i j : Nat} {x : Int} (hl : (srcF (h.take i)).last x = (srcF (g.take j)).last x) :
    ((psF (h.take i)).vals x = 0 ∧ (psF (g.take j)).vals x = 0) ∨ ∃ (i' j' : Nat) (o' : HOp), i' < i ∧ j' < j ∧ sameAt h g i' j' o' ∧ (psF (h.take i)).vals x = wroteV (psF (h.take i')) o' ∧ (psF (g.take j)).vals x = wroteV (psF (g.take j')) o' := by
  rcases last_spec h x i with ⟨h1, h2⟩ | ⟨i', o, h1, h2, h3, h4, h5, h6⟩
  · rcases last_spec g x j with ⟨g1, g2⟩ | ⟨j', p, g1, g2, g3, g4, g5, g6⟩
    · exact .inl ⟨(vals_spec h x i).1 h2, (vals_spec g x j).1 g2⟩
    · exfalso
      rw [h1, g5] at hl
      have := rightB_get (hrg p (List.mem_of_getElem? g2))
      have h7 := congrArg Prod.fst hl
      simp only at h7
      omega
  · have hro := rightB_get (hr o (List.mem_of_getElem? h2))
    rcases last_spec g x j with ⟨g1, g2⟩ | ⟨j', p, g1, g2, g3, g4, g5, g6⟩
    · exfalso
      rw [h5, g1] at hl
      have h7 := congrArg Prod.fst hl
      simp only at h7
      omega
    · right
      rw [h5, g5] at hl
      have e1 := congrArg Prod.fst hl
      have e2 := congrArg Prod.snd hl
      simp only at e1 e2
      have hrp := rightB_get (hrg p (List.mem_of_getElem? g2))
      obtain ⟨k, q1, q2, q3⟩ := same_in hv g2 ⟨hrp.1, hrp.2.1⟩
      have hik : i' = k := name_inj h2 q1 e1 (by rw [← q3, ← e1]; rw [← e1] at e2; omega)
      subst hik
      rw [h2] at q1
      injection q1 with q1
      subst q1
      exact ⟨i', j', o, h1, g1, ⟨h2, g2, q3⟩, (vals_spec h x i).2 i' o h1 h2 h3 h4 h6, (vals_spec g x j).2 j' o g1 g2 g3 g4 g6⟩
theorem same_play {h g : List HOp} (hv : viewB h g = true) (hr : ∀ o ∈ h, rightB o = true) (hrg : ∀ o ∈ g, rightB o = true) : ∀ (n i j : Nat) (o : HOp), i < n → sameAt h g i j o → (psF (h.take i)).sum o.tx = (psF (g.take j)).sum o.tx ∧ (o.what = 1 → (psF (h.take i)).vals o.item = (psF (g.take j)).vals o.item)
  | 0, _, _, _, hi, _ => by omega
  | n + 1, i, j, o, hi, hs => by
    obtain ⟨s1, s2, s3⟩ := hs
    have hro := rightB_get (hr o (List.mem_of_getElem? s1))
    have hw : ∀ (i' j' : Nat) (o' : HOp), i' < i → sameAt h g i' j' o' → wroteV (psF (h.take i')) o' = wroteV (psF (g.take j')) o' := fun i' j' o' hlt hsa => by
      obtain ⟨e, _⟩ := same_play hv hr hrg n i' j' o' (by omega) hsa
      unfold wroteV
      rw [e, ps_cnt, ps_cnt, hsa.2.2]
    constructor
    · cases hc : cntT (h.take i) o.tx with
      | zero =>
        rw [first_own hc, first_own (by rw [s3]; exact hc)]
      | succ c =>
        obtain ⟨i', p, h1, h2, h3, h4, h5⟩ := prev_own hc
        obtain ⟨j', q, g1, g2, g3, g4, g5⟩ := prev_own (h := g) (t := o.tx) (k := j) (c := c) (by rw [s3]; exact hc)
        have hsq : sameAt h g i' j' q := by
          obtain ⟨k, q1, q2, q3⟩ := same_in hv g2 (by rw [g3]; exact ⟨hro.1, hro.2.1⟩)
          have hik : i' = k := name_inj h2 q1 (h3.trans g3.symm) (by rw [← q3, g3, g4, h3, h4])
          subst hik
          exact ⟨q1, q2, q3⟩
        have hqp : p = q := by
          have := hsq.1
          rw [h2] at this
          injection this
        subst hqp
        obtain ⟨e1, e2⟩ := same_play hv hr hrg n i' j' p (by omega) hsq
        rw [h3] at e1
        rw [h5, g5, psF_at h2, psF_at g2]
        unfold stepP
        by_cases hp1 : p.what = 1
        · rw [if_pos hp1, if_pos hp1]
          simp only
          rw [h3, upd_same, upd_same, e1, e2 hp1]
        · rw [if_neg hp1, if_neg hp1]
          split <;> exact e1
    · intro hw1
      rcases both_read hv hr hrg (view_read hv s1 s2 ⟨hro.1, hro.2.1⟩ s3 hw1) with ⟨h1, h2⟩ | ⟨i', j', o', h1, _, h3, h4, h5⟩
      · rw [h1, h2]
      · rw [h4, h5]; exact hw i' j' o' h1 h3
theorem lastL_at {h g : List HOp} (hl : lastL h = lastL g) {x : Int} (hx : 1 ≤ x ∧ x ≤ 6) : ((srcF h).last x).1 = ((srcF g).last x).1 := by
  have : x = 1 ∨ x = 2 ∨ x = 3 ∨ x = 4 ∨ x = 5 ∨ x = 6 := by omega
  unfold lastL at hl
  simp only [List.map_cons, List.map_nil, List.cons.injEq] at hl
  rcases this with e | e | e | e | e | e <;> rw [e] <;> simp [hl]
theorem view_vals {h g : List HOp} (hv : viewB h g = true) (hr : ∀ o ∈ h, rightB o = true) (hrg : ∀ o ∈ g, rightB o = true) {x : Int} (hx : 1 ≤ x ∧ x ≤ 6) : (psF h).vals x = (psF g).vals x := by
  have hw : ∀ (i' j' : Nat) (o' : HOp), sameAt h g i' j' o' → wroteV (psF (h.take i')) o' = wroteV (psF (g.take j')) o' := fun i' j' o' hsa => by
    obtain ⟨e, _⟩ := same_play hv hr hrg (i' + 1) i' j' o' (by omega) hsa
    unfold wroteV
    rw [e, ps_cnt, ps_cnt, hsa.2.2]
  have hth : h.take h.length = h := List.take_length
  have htg : g.take g.length = g := List.take_length
  obtain ⟨v1, v2, _⟩ := viewB_iff.1 hv
  have hl := lastL_at v2 hx
  have key : (srcF (h.take h.length)).last x = (srcF (g.take g.length)).last x := by
    rcases last_spec h x h.length with ⟨h1, h2⟩ | ⟨i, o, h1, h2, h3, h4, h5, h6⟩
    · rcases last_spec g x g.length with ⟨g1, g2⟩ | ⟨j, p, g1, g2, g3, g4, g5, g6⟩
      · rw [h1, g1]
      · exfalso
        rw [hth] at h1
        rw [htg] at g5
        rw [h1, g5] at hl
        have := rightB_get (hrg p (List.mem_of_getElem? g2))
        simp only at hl
        omega
    · have hro := rightB_get (hr o (List.mem_of_getElem? h2))
      rcases last_spec g x g.length with ⟨g1, g2⟩ | ⟨j, p, g1, g2, g3, g4, g5, g6⟩
      · exfalso
        rw [htg] at g1
        rw [hth] at h5
        rw [h5, g1] at hl
        simp only at hl
        omega
      · have hrp := rightB_get (hrg p (List.mem_of_getElem? g2))
        have e : o.tx = p.tx := by
          rw [hth] at h5
          rw [htg] at g5
          rw [h5, g5] at hl
          exact hl
        rw [h5, g5, e]
        -- the last write of that deal to that item, in both
        obtain ⟨k, q1, _, q3⟩ := same_in hv g2 ⟨hrp.1, hrp.2.1⟩
        have hki : k ≤ i := by
          rcases Nat.lt_or_ge i k with hlt | hge
          · exact absurd ⟨g3, g4⟩ (h6 k p hlt (List.getElem?_eq_some_iff.1 q1).1 q1)
          · exact hge
        obtain ⟨m, r1, r2⟩ := name_in h2 (v1 o.tx hro.1 hro.2.1)
        have hmj : m ≤ j := by
          rcases Nat.lt_or_ge j m with hlt | hge
          · exact absurd ⟨h3, h4⟩ (g6 m o hlt (List.getElem?_eq_some_iff.1 r1).1 r1)
          · exact hge
        have c1 := cntT_mono h hki p.tx
        have c2 := cntT_mono g hmj o.tx
        rw [e] at r2 c2
        congr 1
        omega
  rcases both_read hv hr hrg key with ⟨h1, h2⟩ | ⟨i', j', o', _, _, h3, h4, h5⟩
  · rw [hth] at h1; rw [htg] at h2; rw [h1, h2]
  · rw [hth] at h4; rw [htg] at h5; rw [h4, h5]; exact hw i' j' o' h3
def nums6 : List Int := [1, 2, 3, 4, 5, 6]
def nums7 : List Int := [0, 1, 2, 3, 4, 5, 6]
theorem getD_nums6 {α : Type} (f : Int → α) (d : α) {x : Int} (hx : 1 ≤ x ∧ x ≤ 6) : (nums6.map f).getD (x.toNat - 1) d = f x := by
  have : x = 1 ∨ x = 2 ∨ x = 3 ∨ x = 4 ∨ x = 5 ∨ x = 6 := by omega
  rcases this with e | e | e | e | e | e <;> rw [e] <;> rfl
theorem getD_nums7 {α : Type} (f : Int → α) (d : α) {x : Int} (hx : 1 ≤ x ∧ x ≤ 6) : (nums7.map f).getD x.toNat d = f x := by
  have : x = 1 ∨ x = 2 ∨ x = 3 ∨ x = 4 ∨ x = 5 ∨ x = 6 := by omega
  rcases this with e | e | e | e | e | e <;> rw [e] <;> rfl
theorem set_nums6 {α : Type} (f : Int → α) (v : α) {x : Int} (hx : 1 ≤ x ∧ x ≤ 6) : (nums6.map f).set (x.toNat - 1) v = nums6.map (upd f x v) := by
  have : x = 1 ∨ x = 2 ∨ x = 3 ∨ x = 4 ∨ x = 5 ∨ x = 6 := by omega
  rcases this with e | e | e | e | e | e <;> rw [e] <;> simp [nums6, upd]
theorem set_nums7 {α : Type} (f : Int → α) (v : α) {x : Int} (hx : 1 ≤ x ∧ x ≤ 6) : (nums7.map f).set x.toNat v = nums7.map (upd f x v) := by
  have : x = 1 ∨ x = 2 ∨ x = 3 ∨ x = 4 ∨ x = 5 ∨ x = 6 := by omega
  rcases this with e | e | e | e | e | e <;> rw [e] <;> simp [nums7, upd]
theorem playGo_ps : ∀ (r : List HOp) (s : PS) (seen : List Int), (∀ o ∈ r, rightB o = true) → (playGo (nums6.map s.vals) seen (nums7.map fun t => (s.cnt t, s.sum t)) r).1 = nums6.map (r.foldl stepP s).vals
  | [], _, _, _ => rfl
  | o :: t, s, seen, hr => by
    have hg := rightB_get (hr o List.mem_cons_self)
    have hrt : ∀ x ∈ t, rightB x = true := fun x hx => hr x (List.mem_cons_of_mem _ hx)
    have htx : 1 ≤ o.tx ∧ o.tx ≤ 6 := ⟨hg.1, hg.2.1⟩
    have hpair : ∀ c m : Int, upd (fun t => (s.cnt t, s.sum t)) o.tx (c, m) = fun t => (upd s.cnt o.tx c t, upd s.sum o.tx m t) := fun c m => by
      funext y
      unfold upd
      by_cases e : y = o.tx <;> simp [e]
    have hsum : upd s.sum o.tx (s.sum o.tx) = s.sum := by
      funext y
      unfold upd
      by_cases e : y = o.tx <;> simp [e]
    rw [playGo, List.foldl_cons, getD_nums7 _ _ htx]
    simp only
    by_cases h1 : o.what = 1
    · have hi := hg.2.2.2.2.1 (by omega)
      rw [show stepP s o = ⟨s.vals, upd s.cnt o.tx (s.cnt o.tx + 1), upd s.sum o.tx (s.sum o.tx + s.vals o.item)⟩ by unfold stepP; rw [if_pos h1], if_pos h1, getD_nums6 _ _ hi, set_nums7 _ _ htx, hpair]
      exact playGo_ps t ⟨s.vals, upd s.cnt o.tx (s.cnt o.tx + 1), upd s.sum o.tx (s.sum o.tx + s.vals o.item)⟩ _ hrt
    · rw [if_neg h1]
      by_cases h2 : o.what = 2
      · have hi := hg.2.2.2.2.1 (by omega)
        rw [show stepP s o = ⟨upd s.vals o.item (wroteV s o), upd s.cnt o.tx (s.cnt o.tx + 1), s.sum⟩ by unfold stepP; rw [if_neg h1, if_pos h2], if_pos h2, set_nums6 _ _ hi, set_nums7 _ _ htx, hpair, hsum]
        exact playGo_ps t ⟨upd s.vals o.item (wroteV s o), upd s.cnt o.tx (s.cnt o.tx + 1), s.sum⟩ _ hrt
      · rw [show stepP s o = ⟨s.vals, upd s.cnt o.tx (s.cnt o.tx + 1), s.sum⟩ by unfold stepP; rw [if_neg h1, if_neg h2], if_neg h2, set_nums7 _ _ htx, hpair, hsum]
        exact playGo_ps t ⟨s.vals, upd s.cnt o.tx (s.cnt o.tx + 1), s.sum⟩ _ hrt
theorem playF_ps {h : List HOp} (hr : ∀ o ∈ h, rightB o = true) : (playF h).1 = nums6.map (psF (doneL h)).vals :=
  playGo_ps (doneL h) ps0 [] fun o ho => hr o (List.mem_filter.1 ho).1
theorem view_play {h g : List HOp} (hr : ∀ o ∈ h, rightB o = true) (hrg : ∀ o ∈ g, rightB o = true) (hv : viewB (doneL h) (doneL g) = true) : (playF h).1 = (playF g).1 := by
  rw [playF_ps hr, playF_ps hrg]
  unfold nums6
  refine List.map_congr_left fun x hx => ?_
  refine view_vals hv (fun o ho => hr o (List.mem_filter.1 ho).1) (fun o ho => hrg o (List.mem_filter.1 ho).1) ?_
  simp at hx
  omega
end Go.Proofs.YtaaahfbcpgdoiaaGreatDoor


/-
  CONTRACTS of play.play, Values, Seen.
  CONTRACTS of view.look, Last.
  CONTRACTS of history.Done, view.Last; plain facts on what is done.
-/
import Derived.Test.YtbccnafdfeempaaGreatDoorQ3
import Derived.Deep.LoopGhost

namespace Go.Proofs.YtbccnafdfeempaaGreatDoor
open Go.RowKit

def playGo (vs seen : List Int) (ds : List (Int × Int)) : List HOp → List Int × List Int
  | [] => (vs, seen)
  | o :: t =>
    if o.what = 1 then playGo vs (seen ++ [vs.getD (o.item.toNat - 1) 0]) (ds.set o.tx.toNat ((ds.getD o.tx.toNat (0, 0)).1 + 1, (ds.getD o.tx.toNat (0, 0)).2 + vs.getD (o.item.toNat - 1) 0)) t
    else if o.what = 2 then playGo (vs.set (o.item.toNat - 1) ((7 * o.tx + ((ds.getD o.tx.toNat (0, 0)).1 + 1) + (ds.getD o.tx.toNat (0, 0)).2) % 1000003)) seen (ds.set o.tx.toNat ((ds.getD o.tx.toNat (0, 0)).1 + 1, (ds.getD o.tx.toNat (0, 0)).2)) t
    else playGo vs seen (ds.set o.tx.toNat ((ds.getD o.tx.toNat (0, 0)).1 + 1, (ds.getD o.tx.toNat (0, 0)).2)) t
def playF (h : List HOp) : List Int × List Int := playGo (List.replicate 6 0) [] (List.replicate 7 (0, 0)) (doneL h)

def dcells (ds : List (Int × Int)) : List Value := ds.flatMap fun d => [.int .i64 d.1, .int .i64 d.2]
theorem dcells_at {ds : List (Int × Int)} {k : Nat} {d : Int × Int} (hk : ds[k]? = some d) : (dcells ds)[k * 2]? = some (.int .i64 d.1) ∧ (dcells ds)[k * 2 + 1]? = some (.int .i64 d.2) := by
  induction ds generalizing k with
  | nil => simp at hk
  | cons p t ih =>
    have e : dcells (p :: t) = [.int .i64 p.1, .int .i64 p.2] ++ dcells t := rfl
    cases k with
    | zero =>
      obtain rfl : p = d := by simpa using hk
      rw [e]; simp
    | succ k =>
      have hk' := ih (k := k) (by simpa using hk)
      have e0 : (k + 1) * 2 = k * 2 + 2 := by omega
      rw [e, e0]
      refine ⟨?_, ?_⟩ <;> rw [List.getElem?_append_right (by simp)]
      · exact hk'.1
      · exact hk'.2
theorem dcells_set (ds : List (Int × Int)) (i : Nat) (d : Int × Int) : ((dcells ds).set (i * 2) (.int .i64 d.1)).set (i * 2 + 1) (.int .i64 d.2) = dcells (ds.set i d) := by
  induction ds generalizing i with
  | nil => rfl
  | cons p t ih =>
    have e : dcells (p :: t) = [.int .i64 p.1, .int .i64 p.2] ++ dcells t := rfl
    cases i with
    | zero => rfl
    | succ i =>
      have e2 : dcells ((p :: t).set (i + 1) d) = [.int .i64 p.1, .int .i64 p.2] ++ dcells (t.set i d) := rfl
      have e0 : (i + 1) * 2 = i * 2 + 2 := by omega
      rw [e, e2, ← ih, e0]
      simp
theorem dcells_set1 (ds : List (Int × Int)) (i : Nat) (d d' : Int × Int) (hi : ds[i]? = some d) (h2 : d'.2 = d.2) : (dcells ds).set (i * 2) (.int .i64 d'.1) = dcells (ds.set i d') := by
  rw [← dcells_set, h2]
  have := (dcells_at hi).2
  have hl : i * 2 + 1 < (dcells ds).length := (List.getElem?_eq_some_iff.1 this).1
  have h3 : ((dcells ds).set (i * 2) (Value.int IntKind.i64 d'.1))[i * 2 + 1]? = some (.int .i64 d.2) := by rw [List.getElem?_set_ne (by omega)]; exact this
  obtain ⟨h4, h5⟩ := List.getElem?_eq_some_iff.1 h3
  rw [← h5, List.set_getElem_self]

theorem bds_set {ds : List (Int × Int)} {k : Nat} {i : Nat} {d : Int × Int} (h : ∀ d ∈ ds, 0 ≤ d.1 ∧ d.1 ≤ k ∧ 0 ≤ d.2 ∧ d.2 ≤ k * 1000003) (hd : 0 ≤ d.1 ∧ d.1 ≤ (k + 1 : Nat) ∧ 0 ≤ d.2 ∧ d.2 ≤ (k + 1 : Nat) * 1000003) :
    ∀ d' ∈ ds.set i d, 0 ≤ d'.1 ∧ d'.1 ≤ (k + 1 : Nat) ∧ 0 ≤ d'.2 ∧ d'.2 ≤ (k + 1 : Nat) * 1000003 := by
  intro d' hd'
  rcases List.mem_or_eq_of_mem_set hd' with h1 | rfl
  · have := h d' h1; omega
  · exact hd
theorem make6 (w : World) : (Instr.makeSlice 24 (.int .i64 6) (.int .i64 6)).run Tryz.prog w = .ok (.slice (some ⟨w.heap.size, 0, none⟩) 6 6) (w.alloc (.cells #[.int .i64 0, .int .i64 0, .int .i64 0, .int .i64 0, .int .i64 0, .int .i64 0] 3)) := by kernel_rfl

theorem ne_errV {e : Int} (h : e ≠ 0) : errV e = .iface 50 (.int .i64 e) := if_neg h
theorem errV_zero : errV 0 = .nilIface := rfl

end Go.Proofs.YtbccnafdfeempaaGreatDoor


namespace Go.Proofs.YtbccnafdfeempaaGreatDoor
open Go.RowKit

def lookGo (i : Int) (last : List Int) (out : List (Int × Int)) : List HOp → List (Int × Int) × List Int
  | [] => (out, last)
  | o :: t =>
    if o.what = 1 then lookGo (i + 1) last (out ++ [(i, last.getD (o.item.toNat - 1) 0)]) t
    else if o.what = 2 then lookGo (i + 1) (last.set (o.item.toNat - 1) o.tx) out t
    else lookGo (i + 1) last out t
def lookF (h : List HOp) : List (Int × Int) × List Int := lookGo 0 (List.replicate 6 0) [] h

theorem dcells_append (a b : List (Int × Int)) : dcells (a ++ b) = dcells a ++ dcells b := by simp [dcells]
theorem oneD (l : List (Int × Int)) : ∀ u ∈ dcells l, u.oneCell' = true := by
  intro u hu
  simp only [dcells, List.mem_flatMap] at hu
  obtain ⟨o, _, ho⟩ := hu
  simp at ho
  rcases ho with rfl | rfl <;> rfl

end Go.Proofs.YtbccnafdfeempaaGreatDoor


namespace Go.Proofs.YtbccnafdfeempaaGreatDoor
open Go.RowKit

/-! ### What is done, plainly. -/
theorem flagsGo_get (h : List HOp) (ht : ∀ o ∈ h, 1 ≤ o.tx ∧ o.tx ≤ 6) : ∀ (es : List Bool), es.length = 7 → ∀ t : Nat, (flagsGo es h).getD t false = true ↔ (es.getD t false = true ∨ ∃ o ∈ h, o.tx.toNat = t ∧ o.what = 3) := by
  induction h with
  | nil => intro es _ t; simp [flagsGo]
  | cons o r ih =>
    intro es hes t
    have hto := ht o (by simp)
    rw [flagsGo, ih (fun x hx => ht x (by simp [hx])) _ (by simpa using hes)]
    simp only [List.getD_eq_getElem?_getD, List.mem_cons, exists_eq_or_imp]
    by_cases hx : o.tx.toNat = t
    · subst hx
      rw [List.getElem?_set_self (by omega)]
      simp [or_assoc]
    · rw [List.getElem?_set_ne hx]
      simp [hx]
theorem flagsF_get {h : List HOp} (ht : ∀ o ∈ h, 1 ≤ o.tx ∧ o.tx ≤ 6) (t : Nat) : (flagsF h).getD t false = true ↔ ∃ o ∈ h, o.tx.toNat = t ∧ o.what = 3 := by
  rw [flagsF, flagsGo_get h ht _ (by simp)]
  constructor
  · rintro (h1 | h1)
    · simp only [List.getD_eq_getElem?_getD, List.getElem?_replicate] at h1
      split at h1 <;> simp at h1
    · exact h1
  · exact .inr
theorem mem_doneL {h : List HOp} (ht : ∀ o ∈ h, 1 ≤ o.tx ∧ o.tx ≤ 6) {o : HOp} : o ∈ doneL h ↔ o ∈ h ∧ ∃ c ∈ h, c.tx = o.tx ∧ c.what = 3 := by
  rw [doneL, List.mem_filter, flagsF_get ht]
  constructor
  · rintro ⟨h1, c, hc, h2, h3⟩
    have := ht c hc; have := ht o h1
    exact ⟨h1, c, hc, by omega, h3⟩
  · rintro ⟨h1, c, hc, h2, h3⟩
    exact ⟨h1, c, hc, by rw [h2], h3⟩
theorem doneL_doneL {h : List HOp} (ht : ∀ o ∈ h, 1 ≤ o.tx ∧ o.tx ≤ 6) : doneL (doneL h) = doneL h := by
  have ht2 : ∀ o ∈ doneL h, 1 ≤ o.tx ∧ o.tx ≤ 6 := fun o ho => ht o ((mem_doneL ht).1 ho).1
  show (doneL h).filter _ = doneL h
  rw [List.filter_eq_self]
  intro o ho
  rw [flagsF_get ht2]
  obtain ⟨h1, c, hc, h2, h3⟩ := (mem_doneL ht).1 ho
  exact ⟨c, (mem_doneL ht).2 ⟨hc, c, hc, rfl, h3⟩, by rw [h2], h3⟩
theorem checkGo_filter (p : Nat → Bool) (h : List HOp) (ht : ∀ o ∈ h, 1 ≤ o.tx ∧ o.tx ≤ 6) : ∀ (es es' : List Bool) (i j : Nat), es.length = 7 → es'.length = 7 → (∀ t, p t = true → es'.getD t false = es.getD t false) →
    checkGo es i h = (0, 0) → checkGo es' j (h.filter fun o => p o.tx.toNat) = (0, 0) := by
  induction h with
  | nil => intros; rfl
  | cons o r ih =>
    intro es es' i j hl hl' hp hc
    have hto := ht o (by simp)
    have htr : ∀ o ∈ r, 1 ≤ o.tx ∧ o.tx ≤ 6 := fun x hx => ht x (by simp [hx])
    unfold checkGo at hc
    split at hc
    · simp at hc
    rename_i h1
    split at hc
    · simp at hc
    rename_i h2
    cases hpo : p o.tx.toNat
    · rw [List.filter_cons_of_neg (by simp [hpo])]
      refine ih htr _ es' _ j (by simpa using hl) hl' (fun t ht' => ?_) hc
      rw [hp t ht', List.getD_eq_getElem?_getD, List.getD_eq_getElem?_getD, List.getElem?_set_ne (by rintro rfl; rw [hpo] at ht'; cases ht')]
    · rw [List.filter_cons_of_pos (by simp [hpo])]
      unfold checkGo
      rw [if_neg h1, if_neg (by rw [hp _ hpo]; exact h2)]
      refine ih htr _ _ _ _ (by simpa using hl) (by simpa using hl') (fun t ht' => ?_) hc
      by_cases hx : o.tx.toNat = t
      · subst hx
        simp only [List.getD_eq_getElem?_getD]
        rw [List.getElem?_set_self (by omega), List.getElem?_set_self (by omega)]
      · simp only [List.getD_eq_getElem?_getD]
        rw [List.getElem?_set_ne hx, List.getElem?_set_ne hx]
        simpa only [List.getD_eq_getElem?_getD] using hp t ht'
theorem okH_filter {h : List HOp} (hk : okH h) (p : Nat → Bool) : okH (h.filter fun o => p o.tx.toNat) := by
  have := checkGo_filter p h (okH_tx hk) (List.replicate 7 false) (List.replicate 7 false) 0 0 (by simp) (by simp) (fun _ _ => rfl) (okH_go hk)
  unfold okH checkF
  rw [if_neg (by have := okH_len hk; have := List.length_filter_le (fun o : HOp => p o.tx.toNat) h; omega), this]
theorem okH_done {h : List HOp} (hk : okH h) : okH (doneL h) := okH_filter hk fun t => (flagsF h).getD t false
end Go.Proofs.YtbccnafdfeempaaGreatDoor

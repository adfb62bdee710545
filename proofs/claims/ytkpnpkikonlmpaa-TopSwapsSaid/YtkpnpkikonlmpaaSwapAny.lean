
/-
  CONTRACT of odds.Swap in one: the history with two ops that changed places, or the fault; such two keep all.
-/
import Derived.Test.YtkpnpkikonlmpaaSwap
import Derived.Test.YtkpnpkikonlmpaaM1

namespace Go.Proofs.Ytkpnpkikonlmpaa
open Go.RowKit

/-! ### The plain law: what two that change places make. -/
def swE (h : List HOp) (i : Int) : Int := if i < 0 ∨ (h.length : Int) - 1 ≤ i then 1 else
  match h[i.toNat]?, h[i.toNat + 1]? with
  | some a, some b => if a.tx = b.tx ∨ oddB a b = true then 7 else 0
  | _, _ => 0
def swL (h : List HOp) (i : Int) : List HOp := if swE h i = 0 then swapL h i.toNat else []
theorem sw_range {h : List HOp} {i : Int} (hi : i < 0 ∨ (h.length : Int) - 1 ≤ i) : swE h i = 1 ∧ swL h i = [] := by
  have e : swE h i = 1 := by unfold swE; rw [if_pos hi]
  exact ⟨e, by unfold swL; rw [e]; rfl⟩
theorem sw_clash {h : List HOp} {k : Nat} {a b : HOp} (ha : h[k]? = some a) (hb : h[k + 1]? = some b) (hc : a.tx = b.tx ∨ oddB a b = true) : swE h k = 7 ∧ swL h k = [] := by
  have hl := (List.getElem?_eq_some_iff.1 hb).1
  have e : swE h k = 7 := by
    unfold swE
    rw [if_neg (by omega), Int.toNat_natCast, ha, hb]
    simp only
    rw [if_pos hc]
  exact ⟨e, by unfold swL; rw [e]; rfl⟩
theorem sw_ok {h : List HOp} {k : Nat} {a b : HOp} (ha : h[k]? = some a) (hb : h[k + 1]? = some b) (hc : ¬ (a.tx = b.tx ∨ oddB a b = true)) : swE h k = 0 ∧ swL h k = (h.set k b).set (k + 1) a := by
  have hl := (List.getElem?_eq_some_iff.1 hb).1
  have e : swE h k = 0 := by
    unfold swE
    rw [if_neg (by omega), Int.toNat_natCast, ha, hb]
    simp only
    rw [if_neg hc]
  refine ⟨e, ?_⟩
  unfold swL
  rw [e, if_pos rfl, Int.toNat_natCast]
  unfold swapL
  rw [ha, hb]
theorem swap_any (A : Option Addr) (n cap : Nat) (h : List HOp) (i : Int) (w : World) (hr : Rd w w.heap.size 3 A n (cellsH h)) (hok : okH h) :
    Calls Try.prog 25 #[.slice A n cap, .int .i64 i] w fun e w' => ∃ A' m c', e = .returned (.tuple #[.slice A' m c', errV (swE h i)]) ∧ Rd w' w'.heap.size 3 A' m (cellsH (swL h i)) ∧ Below w.heap.size w w' := by
  have hl := hr.hlen
  by_cases hi : i < 0 ∨ (n : Int) - 1 ≤ i
  · obtain ⟨e1, e2⟩ := sw_range (h := h) (i := i) (by rw [hl]; exact hi)
    rw [e1, e2]
    refine (swap_range A n cap h i w hr hok hi).mono ?_
    rintro e w' ⟨rfl, hb⟩
    exact ⟨none, 0, 0, rfl, Rd.nil, hb⟩
  · obtain ⟨k, rfl⟩ : ∃ k : Nat, i = k := ⟨i.toNat, by omega⟩
    have hk : k + 1 < n := by omega
    have ha : h[k]? = some (h[k]'(by omega)) := List.getElem?_eq_getElem _
    have hb : h[k + 1]? = some (h[k + 1]'(by omega)) := List.getElem?_eq_getElem _
    generalize h[k]'(by omega) = a at *
    generalize h[k + 1]'(by omega) = b at *
    by_cases hc : a.tx = b.tx ∨ oddB a b = true
    · obtain ⟨e1, e2⟩ := sw_clash ha hb hc
      rw [e1, e2]
      refine (swap_clash A n cap h k w hr hok hk a b ha hb hc).mono ?_
      rintro e w' ⟨rfl, hb⟩
      exact ⟨none, 0, 0, rfl, Rd.nil, hb⟩
    · obtain ⟨e1, e2⟩ := sw_ok ha hb hc
      have e3 : swapL h k = (h.set k b).set (k + 1) a := by unfold swapL; rw [ha, hb]
      rw [e1, e2, errV_zero]
      refine (swap_ok A n cap h k w hr hok hk a b ha hb (fun e => hc (.inl e)) (by simpa using fun e => hc (.inr e))).mono ?_
      rintro e w' ⟨v, rfl, ho, hb'⟩
      obtain ⟨A', c', rfl⟩ := own_slice ho
      rw [e3] at ho
      exact ⟨_, _, _, rfl, rd_own ho, hb'⟩

theorem swL_sw {h : List HOp} {i : Int} (hs : swE h i = 0) : Sw h (swL h i) := by
  have hi : ¬ (i < 0 ∨ (h.length : Int) - 1 ≤ i) := fun hi => by rw [(sw_range hi).1] at hs; cases hs
  obtain ⟨k, rfl⟩ : ∃ k : Nat, i = k := ⟨i.toNat, by omega⟩
  have ha : h[k]? = some (h[k]'(by omega)) := List.getElem?_eq_getElem _
  have hb : h[k + 1]? = some (h[k + 1]'(by omega)) := List.getElem?_eq_getElem _
  generalize h[k]'(by omega) = a at *
  generalize h[k + 1]'(by omega) = b at *
  by_cases hc : a.tx = b.tx ∨ oddB a b = true
  · rw [(sw_clash ha hb hc).1] at hs; cases hs
  · obtain ⟨e1, e2⟩ := swap_lists ha hb
    rw [(sw_ok ha hb hc).2, e2]
    conv => lhs; rw [e1]
    exact Sw.one (fun e => hc (.inl e)) (by simpa using fun e => hc (.inr e))
end Go.Proofs.Ytkpnpkikonlmpaa

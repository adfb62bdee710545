
/-
  CONTRACTS of slices.ContainsFunc at numbers and at deals, valid.Since, snap.See, snap.May.
-/
import Derived.Test.YtfmdeahblaikoaaDoorValidH
import Derived.Test.YtfmdeahblaikoaaDoorVQ1
import Derived.Test.YtfmdeahblaikoaaDoorGraph
import Derived.Deep.RegionHeld3

namespace Go.Proofs.YtfmdeahblaikoaaDoor
open Go.RowKit

theorem Rd.plen {w : World} {B n : Nat} {A : Option Addr} {l : List Int} {g : Int → Nat} (h : Rd w B 1 A n (l.map fun t => .pointer (some ⟨g t, 0, none⟩))) : l.length = n := by
  have := h.1
  simpa using this
theorem Rd.ptr {w : World} {B n : Nat} {A : Option Addr} {l : List Int} {g : Int → Nat} (h : Rd w B 1 A n (l.map fun t => .pointer (some ⟨g t, 0, none⟩))) {k : Nat} (hk : k < n) :
    ∃ b off x, A = some ⟨b, off, none⟩ ∧ b < B ∧ l[k]? = some x ∧ w.cell? ⟨b, off + k, none⟩ = some (.pointer (some ⟨g x, 0, none⟩)) := by
  have hl := h.plen
  obtain ⟨b, off, e, hb, hc⟩ := h.2 (by omega)
  obtain ⟨x, hx⟩ : ∃ x, l[k]? = some x := ⟨_, List.getElem?_eq_getElem (by omega)⟩
  exact ⟨b, off, x, e, hb, hx, hc k _ (by rw [List.getElem?_map, hx]; rfl)⟩
/-- The types of this program's runs. -/
def vT (tk tl : TypeId) : VTy := ⟨87, 133, 3, 84, tk, tl⟩

/-! ### Since. -/
end Go.Proofs.YtfmdeahblaikoaaDoor

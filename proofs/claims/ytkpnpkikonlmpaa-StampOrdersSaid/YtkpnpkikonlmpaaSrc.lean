
/-
  CONTRACT of lanesame.Sources: whether two lists of sources are the same. A list of pairs read.
-/
import Derived.Test.YtkpnpkikonlmpaaSame
import Derived.Test.YtkpnpkikonlmpaaView
namespace Go.Proofs.Ytkpnpkikonlmpaa
open Go.RowKit

theorem dcells_length (l : List (Int × Int)) : (dcells l).length = l.length * 2 := by
  induction l with
  | nil => rfl
  | cons d t ih =>
    have e : dcells (d :: t) = [.int .i64 d.1, .int .i64 d.2] ++ dcells t := rfl
    rw [e, List.length_append, ih]; simp; omega
theorem Rd.dlen {w : World} {B n : Nat} {A : Option Addr} {l : List (Int × Int)} (h : Rd w B 2 A n (dcells l)) : l.length = n := by
  have hl := h.1
  rw [dcells_length] at hl
  omega
theorem Rd.pr {w : World} {B n : Nat} {A : Option Addr} {l : List (Int × Int)} (h : Rd w B 2 A n (dcells l)) {k : Nat} (hk : k < n) :
    ∃ b off d, A = some ⟨b, off, none⟩ ∧ b < B ∧ l[k]? = some d ∧ w.cell? ⟨b, off + k * 2, none⟩ = some (.int .i64 d.1) ∧ w.cell? ⟨b, off + k * 2 + 1, none⟩ = some (.int .i64 d.2) := by
  obtain ⟨b, off, e, hb, hc⟩ := h.2 (by omega)
  have hl := h.dlen
  have ho : l[k]? = some (l[k]'(by omega)) := List.getElem?_eq_getElem (by omega)
  obtain ⟨h0, h1⟩ := dcells_at ho
  exact ⟨b, off, _, e, hb, ho, hc _ _ h0, hc _ _ h1⟩

end Go.Proofs.Ytkpnpkikonlmpaa

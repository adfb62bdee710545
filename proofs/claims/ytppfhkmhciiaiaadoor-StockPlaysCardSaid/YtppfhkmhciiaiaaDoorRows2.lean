
/-
  AN ARGUMENT OPENED: a slice of slices of numbers, as it is read before the call.
-/
import Derived.Test.YtppfhkmhciiaiaaDoorOpen
import Derived.Deep.Matrix

namespace Go.Proofs.YtppfhkmhciiaiaaDoor
open Go.ChangeShapes Go.WideShapes Go.ChangeAt Go.RowKit Go.Deep

/-- Each of the n rows is a slice of numbers, all below block B. -/
def RdRows (w : World) (B : Nat) (A : Option Addr) (n : Nat) : Prop := 0 < n → ∃ b off, A = some ⟨b, off, none⟩ ∧ b < B ∧ ∀ r, r < n → ∃ A' L C, w.cell? ⟨b, off + r, none⟩ = some (.slice A' L C) ∧
  (0 < L → ∃ b' off', A' = some ⟨b', off', none⟩ ∧ b' < B ∧ ∀ j, j < L → ∃ x, w.cell? ⟨b', off' + j, none⟩ = some (.int .i64 x))
theorem RdRows.below {w w' : World} {B : Nat} {A : Option Addr} {n : Nat} (h : RdRows w B A n) (hb : Below B w w') : RdRows w' B A n := fun hn => by
  obtain ⟨b, off, e, hl, hr⟩ := h hn
  refine ⟨b, off, e, hl, fun r hrn => ?_⟩
  obtain ⟨A', L, C, h1, h2⟩ := hr r hrn
  refine ⟨A', L, C, (hb.cell (p := ⟨b, off + r, none⟩) hl).trans h1, fun hL => ?_⟩
  obtain ⟨b', off', e', hl', hx⟩ := h2 hL
  exact ⟨b', off', e', hl', fun j hj => (hx j hj).imp fun x hx => (hb.cell (p := ⟨b', off' + j, none⟩) hl').trans hx⟩

theorem add_one (b off i : Nat) : ((⟨b, off, none⟩ : Addr).add i) = ⟨b, off + i, none⟩ := by
  unfold Addr.add
  by_cases hi : i = 0 <;> simp [hi]

section
variable {H : Type} {enc : TypeId × Value → H} {P : Program} {W : World}
theorem open_rows {t e q : TypeId} (ht : P.underlying t = some (.slice e)) (he : P.underlying e = some (.slice q)) (hq : P.underlying q = some (.int .i64)) (ce : P.cellsOf e = 1) (cq : P.cellsOf q = 1)
    {base : Nat} {v : Value} {d : DataW H} {p : List MemPlace} (hv : Value.okWide P W .any base t v) (h : DataW.Trod enc P W 0 (fun _ => true) true t v d p) :
    ∃ A n c, v = .slice A n c ∧ RdRows W W.heap.size A n := by
  obtain ⟨A, n, c, rfl⟩ := okWide_slice ht hv
  obtain ⟨fuel, hf⟩ := h
  rcases open_int_rows ht he hq ce cq hf with ⟨hcs, _⟩ | ⟨a, len, cap, A2, L, C, Z, hcs, _, hlc, _, _, hrows⟩
  · simp [Value.cells] at hcs
    obtain ⟨rfl, rfl, rfl⟩ := hcs
    exact ⟨none, 0, 0, rfl, fun h => absurd h (by omega)⟩
  · simp [Value.cells] at hcs
    obtain ⟨rfl, rfl, rfl⟩ := hcs
    refine ⟨some a, n, c, rfl, fun hn => ?_⟩
    obtain ⟨h0, _⟩ := hrows 0 (by omega)
    have hs : a.spot = none := by
      have := spot_none h0
      simpa [Addr.add] using this
    obtain ⟨b, off, s⟩ := a
    simp only at hs
    subst hs
    refine ⟨b, off, rfl, ?_, fun r hr => ?_⟩
    · have := World.block_lt_of_cell? W _ h0
      simpa [Addr.add] using this
    · obtain ⟨h1, h2, h3, h4, _, h6, h7⟩ := hrows r (by omega)
      rw [add_one] at h1
      refine ⟨A2 r, L r, C r, h1, fun hL => ?_⟩
      cases hA : A2 r with
      | none => have := h6 hA; omega
      | some a' =>
        obtain ⟨_, hc⟩ := h7 a' hA
        have h00 := hc 0 (by omega)
        have hs' : a'.spot = none := by
          have := spot_none h00
          simpa [Addr.add] using this
        obtain ⟨b', off', s'⟩ := a'
        simp only at hs'
        subst hs'
        refine ⟨b', off', rfl, ?_, fun j hj => ⟨_, by rw [← add_one]; exact hc j (by omega)⟩⟩
        have := World.block_lt_of_cell? W _ h00
        simpa [Addr.add] using this
end
end Go.Proofs.YtppfhkmhciiaiaaDoor

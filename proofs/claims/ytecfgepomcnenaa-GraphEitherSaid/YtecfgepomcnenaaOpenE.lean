
/-
  ARGUMENTS OPENED: a slice of two-number structs (edges), as it is read before the call.
-/
import Derived.Test.YtecfgepomcnenaaOpen
import Derived.Test.YtecfgepomcnenaaGraph
namespace Go.Proofs.Ytecfgepomcnenaa
open Go.ChangeShapes Go.WideShapes Go.ChangeAt Go.RowKit Go.Deep

theorem dcells_len (l : List (Int × Int)) : (dcells l).length = l.length * 2 := by
  induction l with
  | nil => rfl
  | cons x r ih =>
    have e : dcells (x :: r) = [.int .i64 x.1, .int .i64 x.2] ++ dcells r := rfl
    rw [e, List.length_append, ih]; simp; omega
theorem dcells_get {h : List (Int × Int)} {w : World} {b off : Nat} (hc : ∀ i o, h[i]? = some o → w.cell? ⟨b, off + i * 2, none⟩ = some (.int .i64 o.1) ∧ w.cell? ⟨b, off + i * 2 + 1, none⟩ = some (.int .i64 o.2)) :
    ∀ j u, (dcells h)[j]? = some u → w.cell? ⟨b, off + j, none⟩ = some u := by
  intro j u hu
  have hj : j < h.length * 2 := by rw [← dcells_len]; exact (List.getElem?_eq_some_iff.1 hu).1
  have ho : h[j / 2]? = some (h[j / 2]'(by omega)) := List.getElem?_eq_getElem (by omega)
  obtain ⟨h0, h1⟩ := hc _ _ ho
  obtain ⟨k0, k1⟩ := dcells_at ho
  have hm : j % 2 = 0 ∨ j % 2 = 1 := by omega
  rcases hm with hm | hm
  · have e : j = j / 2 * 2 := by omega
    rw [e] at hu ⊢; rw [k0] at hu; rw [h0, ← hu]
  · have e : j = j / 2 * 2 + 1 := by omega
    rw [e] at hu ⊢; rw [k1] at hu; rw [← Nat.add_assoc, h1, ← hu]

section
variable {H : Type} {enc : TypeId × Value → H} {P : Program} {W : World}
theorem open_edges {t e ti : TypeId} {f0 f1 : Field} (ht : P.underlying t = some (.slice e)) (he : P.underlying e = some (.struct #[f0, f1])) (hi : P.underlying ti = some (.int .i64)) (h0 : f0.type = ti) (h1 : f1.type = ti)
    (hone : oneCellFields P #[f0, f1] = true) (hC : P.cellsOf e = 2) {base : Nat} {v : Value} {d : DataW H} {p : List MemPlace} (hv : Value.okWide P W .any base t v) (h : DataW.Trod enc P W 0 (fun _ => true) true t v d p)
    (hsz : ∀ elems spare, d = .slice elems spare → (elems.length + spare.length) * 16 ≤ reachBytes) :
    ∃ A n c l, v = .slice A n c ∧ Rd W W.heap.size 2 A n (dcells l) ∧ n * 16 ≤ 140737488351232 := by
  obtain ⟨A, n, c, rfl⟩ := okWide_slice ht hv
  obtain ⟨fuel, hf⟩ := h
  rcases open_slice ht hf with ⟨hcs, _⟩ | ⟨a, len, cap, m, k, D, Pl, hcs, _, hlc, hcm, hm, hx, hel⟩
  · simp [Value.cells] at hcs
    obtain ⟨rfl, rfl, rfl⟩ := hcs
    exact ⟨none, 0, 0, [], rfl, Rd.nil, by omega⟩
  · simp [Value.cells] at hcs
    obtain ⟨rfl, rfl, rfl⟩ := hcs
    simp only [if_true] at hm
    subst hm
    have hb : n * 16 ≤ 140737488351232 := by
      simp only [Prod.mk.injEq] at hx
      have := hsz _ _ hx.1
      simp only [List.length_map, List.length_range, reachBytes] at this
      omega
    have hcell : ∀ i, i < n → ∃ o : Int × Int, W.cell? ((a.add (i * 2)).add 0) = some (.int .i64 o.1) ∧ W.cell? ((a.add (i * 2)).add 1) = some (.int .i64 o.2) := by
      intro i hin
      obtain ⟨cs', hc, ht'⟩ := hel i (by omega)
      rw [hC] at hc
      obtain ⟨ys, n', _, _, hlen, hyl, hfs⟩ := DataW.trod_struct he ht'
      obtain ⟨_, hcl, hat⟩ := World.cells?_some hc
      have key : ∀ (j : Nat) (f : Field), (#[f0, f1] : Array Field)[j]? = some f → f.type = ti → ∃ x : Int, cs'[j]? = some (Value.int .i64 x) := by
        intro j f hj hft
        obtain ⟨ho, hk⟩ := hone_of hone j f hj
        have hjl : j < 2 := by simpa using (Array.getElem?_eq_some_iff.1 hj).1
        have h1 := hfs j f hj
        rw [ho, hk, hft] at h1
        have hone' : (cs'.drop j).take 1 = [cs'[j]'(by omega)] := by
          rw [List.drop_eq_getElem_cons (by omega)]; rfl
        rw [hone', List.getElem?_eq_getElem (by rw [hyl]; simpa using hjl)] at h1
        obtain ⟨x, hcx, _⟩ := DataW.trod_int hi h1
        simp only [List.cons.injEq, and_true] at hcx
        exact ⟨x, by rw [List.getElem?_eq_getElem (by omega), hcx]⟩
      obtain ⟨x0, e0⟩ := key 0 f0 rfl h0
      obtain ⟨x1, e1⟩ := key 1 f1 rfl h1
      exact ⟨⟨x0, x1⟩, (hat 0 (by omega)).trans e0, (hat 1 (by omega)).trans e1⟩
    obtain ⟨l, hll, hl⟩ := list_of n hcell
    refine ⟨some a, n, _, l, rfl, ⟨by rw [dcells_len, hll], fun hn => ?_⟩, hb⟩
    obtain ⟨o, ho, _⟩ := hcell 0 hn
    obtain ⟨b, off, s⟩ := a
    have hs : s = none := by
      have := spot_none ho
      simpa [Addr.add] using this
    subst hs
    have hbl := World.block_lt_of_cell? W _ ho
    rw [add_off] at hbl
    refine ⟨b, off, rfl, hbl, dcells_get fun i o hio => ?_⟩
    have := hl i o hio
    rw [add_off, add_off] at this
    exact this
end
end Go.Proofs.Ytecfgepomcnenaa

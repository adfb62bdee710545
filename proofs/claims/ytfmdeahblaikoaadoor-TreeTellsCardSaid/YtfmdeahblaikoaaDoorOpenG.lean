
/-
  ARGUMENTS OPENED: a slice of grips, as it is read before the call.
-/
import Derived.Test.YtfmdeahblaikoaaDoorOpen
import Derived.Test.YtfmdeahblaikoaaDoorTreeH

namespace Go.Proofs.YtfmdeahblaikoaaDoor
open Go.ChangeShapes Go.WideShapes Go.ChangeAt Go.RowKit Go.Deep

theorem cellsG_get {h : List GOp} {w : World} {b off : Nat} (hc : ∀ i o, h[i]? = some o → w.cell? ⟨b, off + i * 3, none⟩ = some (.int .i64 o.tx) ∧ w.cell? ⟨b, off + i * 3 + 1, none⟩ = some (.int .i64 o.item) ∧ w.cell? ⟨b, off + i * 3 + 2, none⟩ = some (.bool o.lock)) :
    ∀ j u, (cellsG h)[j]? = some u → w.cell? ⟨b, off + j, none⟩ = some u := by
  intro j u hu
  have hj : j < h.length * 3 := by rw [← cellsG_length]; exact (List.getElem?_eq_some_iff.1 hu).1
  have ho : h[j / 3]? = some (h[j / 3]'(by omega)) := List.getElem?_eq_getElem (by omega)
  obtain ⟨h0, h1, h2⟩ := hc _ _ ho
  obtain ⟨k0, k1, k2⟩ := cellsG_at ho
  have hm : j % 3 = 0 ∨ j % 3 = 1 ∨ j % 3 = 2 := by omega
  rcases hm with hm | hm | hm
  · have e : j = j / 3 * 3 := by omega
    rw [e] at hu ⊢; rw [k0] at hu; rw [h0, ← hu]
  · have e : j = j / 3 * 3 + 1 := by omega
    rw [e] at hu ⊢; rw [k1] at hu; rw [← Nat.add_assoc, h1, ← hu]
  · have e : j = j / 3 * 3 + 2 := by omega
    rw [e] at hu ⊢; rw [k2] at hu; rw [← Nat.add_assoc, h2, ← hu]

section
variable {H : Type} {enc : TypeId × Value → H} {P : Program} {W : World}
theorem open_gripsc {t e ti tb : TypeId} {f0 f1 f2 : Field} (ht : P.underlying t = some (.slice e)) (he : P.underlying e = some (.struct #[f0, f1, f2])) (hi : P.underlying ti = some (.int .i64)) (hbo : P.underlying tb = some .bool) (h0 : f0.type = ti) (h1 : f1.type = ti) (h2 : f2.type = tb)
    (hone : oneCellFields P #[f0, f1, f2] = true) (hC : P.cellsOf e = 3) {base : Nat} {v : Value} {d : DataW H} {p : List MemPlace} (hv : Value.okWide P W .any base t v) (h : DataW.Trod enc P W 0 (fun _ => true) true t v d p)
    (hsz : ∀ elems spare, d = .slice elems spare → (elems.length + spare.length) * 24 ≤ reachBytes) :
    ∃ A n c l, v = .slice A n c ∧ Rd W W.heap.size 3 A n (cellsG l) ∧ n * 24 ≤ 140737488351232 ∧ n ≤ c := by
  obtain ⟨A, n, c, rfl⟩ := okWide_slice ht hv
  obtain ⟨fuel, hf⟩ := h
  rcases open_slice ht hf with ⟨hcs, _⟩ | ⟨a, len, cap, m, k, D, Pl, hcs, _, hlc, hcm, hm, hx, hel⟩
  · simp [Value.cells] at hcs
    obtain ⟨rfl, rfl, rfl⟩ := hcs
    exact ⟨none, 0, 0, [], rfl, Rd.nil, by omega, by omega⟩
  · simp [Value.cells] at hcs
    obtain ⟨rfl, rfl, rfl⟩ := hcs
    simp only [if_true] at hm
    subst hm
    have hb : n * 24 ≤ 140737488351232 := by
      simp only [Prod.mk.injEq] at hx
      have := hsz _ _ hx.1
      simp only [List.length_map, List.length_range, reachBytes] at this
      omega
    have hcell : ∀ i, i < n → ∃ o : GOp, W.cell? ((a.add (i * 3)).add 0) = some (.int .i64 o.tx) ∧ W.cell? ((a.add (i * 3)).add 1) = some (.int .i64 o.item) ∧ W.cell? ((a.add (i * 3)).add 2) = some (.bool o.lock) := by
      intro i hin
      obtain ⟨cs', hc, ht'⟩ := hel i (by omega)
      rw [hC] at hc
      obtain ⟨ys, n', _, _, hlen, hyl, hfs⟩ := DataW.trod_struct he ht'
      obtain ⟨_, hcl, hat⟩ := World.cells?_some hc
      have key : ∀ (j : Nat) (f : Field), (#[f0, f1, f2] : Array Field)[j]? = some f → f.type = ti → ∃ x : Int, cs'[j]? = some (Value.int .i64 x) := by
        intro j f hj hft
        obtain ⟨ho, hk⟩ := hone_of hone j f hj
        have hjl : j < 3 := by simpa using (Array.getElem?_eq_some_iff.1 hj).1
        have h1 := hfs j f hj
        rw [ho, hk, hft] at h1
        have hone' : (cs'.drop j).take 1 = [cs'[j]'(by omega)] := by
          rw [List.drop_eq_getElem_cons (by omega)]; rfl
        rw [hone', List.getElem?_eq_getElem (by rw [hyl]; simpa using hjl)] at h1
        obtain ⟨x, hcx, _⟩ := DataW.trod_int hi h1
        simp only [List.cons.injEq, and_true] at hcx
        exact ⟨x, by rw [List.getElem?_eq_getElem (by omega), hcx]⟩
      obtain ⟨x0, e0⟩ := key 0 f0 rfl h0
      obtain ⟨x1, e1⟩ := key 1 f1 rfl h1
      have key2 : ∃ x : Bool, cs'[2]? = some (Value.bool x) := by
        obtain ⟨ho, hk⟩ := hone_of hone 2 f2 rfl
        have hq := hfs 2 f2 rfl
        rw [ho, hk, h2] at hq
        have hone' : (cs'.drop 2).take 1 = [cs'[2]'(by omega)] := by
          rw [List.drop_eq_getElem_cons (by omega)]; rfl
        rw [hone', List.getElem?_eq_getElem (by rw [hyl]; simp)] at hq
        obtain ⟨x, hcx, _⟩ := DataW.trod_bool hbo hq
        simp only [List.cons.injEq, and_true] at hcx
        exact ⟨x, by rw [List.getElem?_eq_getElem (by omega), hcx]⟩
      obtain ⟨x2, e2⟩ := key2
      exact ⟨⟨x0, x1, x2⟩, (hat 0 (by omega)).trans e0, (hat 1 (by omega)).trans e1, (hat 2 (by omega)).trans e2⟩
    obtain ⟨l, hll, hl⟩ := list_of n hcell
    refine ⟨some a, n, _, l, rfl, ⟨by rw [cellsG_length, hll], fun hn => ?_⟩, hb, by omega⟩
    obtain ⟨o, ho, _, _⟩ := hcell 0 hn
    obtain ⟨b, off, s⟩ := a
    have hs : s = none := by
      have := spot_none ho
      simpa [Addr.add] using this
    subst hs
    have hbl := World.block_lt_of_cell? W _ ho
    rw [add_off] at hbl
    refine ⟨b, off, rfl, hbl, cellsG_get fun i o hio => ?_⟩
    have := hl i o hio
    rw [add_off, add_off, add_off] at this
    exact this
end
end Go.Proofs.YtfmdeahblaikoaaDoor

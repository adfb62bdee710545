
/-
  THE ROW's LAST STEP where of the world behind the call 'Below' alone is known (turned from the guide's own last step).
  ARGUMENTS OPENED: a slice of three-number structs, of numbers, as it is read before the call.
-/
import Derived.Test.YtaaahfbcpgdoiaaGreatDoorQ0
import Derived.ProofKit
import Derived.OpenShut
import Derived.ChangeSame
import Derived.Deep.Slices
import Derived.Deep.Fields
import Derived.SizedLaws

namespace Go.Proofs.YtaaahfbcpgdoiaaGreatDoor
open Go.ChangeShapes Go.WideShapes Go.ChangeAt Go.RowKit
section
variable {H : Type} {enc : TypeId × Value → H} {P : Program}
theorem post_below {f : Func} {s : ChangeSpec} {apart fresh handsOn again : Bool} {W W' : World} {args : Array Value} {v : Value} {ds gs : List (DataW H)} {before pa pv : List MemPlace}
    (hW : DataW.Whole enc P f.params.toList s.vars apart W args.toList ds gs before) (hb : Below W.heap.size W W') (hps : before = pa ++ pv)
    (hres : ∀ (b : Nat) (sp : Nat → Bool) (hd : Bool), DataW.TrodAll enc P W' b sp hd f.resultTypes.toList (v.resultList f.resultTypes.size) (s.fn H (ds ++ gs)).results [])
    (hargs : ∀ sp : Nat → Bool, (∀ p ∈ before, sp p.block = true) → DataW.TrodAll enc P W' 0 sp true f.params.toList args.toList (s.fn H (ds ++ gs)).args pa)
    (hvars : ∀ sp : Nat → Bool, (∀ p ∈ before, sp p.block = true) → DataW.TrodVars enc P W' sp s.vars (s.fn H (ds ++ gs)).vars pv)
    (hok : ∀ (j : Nat) (t : TypeId) (r : Value), f.resultTypes[j]? = some t → (v.resultList f.resultTypes.size)[j]? = some r → Value.okWide P W' .any 0 t r) :
    s.post enc P f apart fresh handsOn again W args v W' := by
  have hlt : ∀ p ∈ before, p.block < W.heap.size := fun p hp => hW.lt p hp
  have hold : ∀ p ∈ before, (fun b => decide (b < W.heap.size)) p.block = true := fun p hp => by simpa using hlt p hp
  subst hps
  refine ⟨ds, gs, pa ++ pv, [], pa, pv, hW, hres _ _ _, hargs _ hold, hvars _ hold, World.keptBut_mono (fun p hp => ⟨hp, .inr (List.mem_append.1 hp)⟩) (hb.frame (· ∈ pa ++ pv)), fun _ => ⟨hok, ?_⟩⟩
  obtain ⟨_, _, _, _, _, hz, hn⟩ := hW
  refine ⟨_, _, ([] ++ pa) ++ pv, ⟨[] ++ pa, pv, trodAll_append (hargs _ (fun _ _ => rfl)) (hres _ _ _), hvars _ (fun _ _ => rfl), rfl, fun b off hp => ?_, fun ha => ?_⟩, fun p hp _ => ?_⟩
  · have hin : MemPlace.cell b off ∈ pa ++ pv := by simpa using hp
    rw [hb.frozen (hlt _ hin)]
    exact hz b off hin
  · simpa using hn ha
  · simpa using hp
end
end Go.Proofs.YtaaahfbcpgdoiaaGreatDoor


namespace Go.Proofs.YtaaahfbcpgdoiaaGreatDoor
open Go.ChangeShapes Go.WideShapes Go.ChangeAt Go.RowKit Go.Deep

theorem list_of {α : Type} {Q : Nat → α → Prop} (n : Nat) (h : ∀ i, i < n → ∃ o, Q i o) : ∃ l : List α, l.length = n ∧ ∀ i o, l[i]? = some o → Q i o := by
  induction n with
  | zero => exact ⟨[], rfl, by simp⟩
  | succ n ih =>
    obtain ⟨l, hl, hq⟩ := ih fun i hi => h i (by omega)
    obtain ⟨o, ho⟩ := h n (by omega)
    refine ⟨l ++ [o], by simp [hl], fun i x hx => ?_⟩
    rcases Nat.lt_or_ge i n with hi | hi
    · rw [List.getElem?_append_left (by omega)] at hx; exact hq i x hx
    · rw [List.getElem?_append_right (by omega), hl] at hx
      rcases Nat.eq_zero_or_pos (i - n) with h0 | h0
      · obtain rfl : i = n := by omega
        simp at hx; subst hx; exact ho
      · rw [List.getElem?_eq_none (by simp; omega)] at hx; cases hx

theorem spot_none {w : World} {a : Addr} {v : Value} (h : w.cell? a = some v) : a.spot = none := by
  unfold World.cell? at h
  split at h
  · split at h
    · cases h
    · rename_i hs; cases hx : a.spot <;> simp_all
  · cases h

theorem cellsH_get {h : List HOp} {w : World} {b off : Nat} (hc : ∀ i o, h[i]? = some o → w.cell? ⟨b, off + i * 3, none⟩ = some (.int .i64 o.tx) ∧ w.cell? ⟨b, off + i * 3 + 1, none⟩ = some (.int .i64 o.what) ∧ w.cell? ⟨b, off + i * 3 + 2, none⟩ = some (.int .i64 o.item)) :
    ∀ j u, (cellsH h)[j]? = some u → w.cell? ⟨b, off + j, none⟩ = some u := by
  intro j u hu
  have hj : j < h.length * 3 := by rw [← cellsH_length]; exact (List.getElem?_eq_some_iff.1 hu).1
  have ho : h[j / 3]? = some (h[j / 3]'(by omega)) := List.getElem?_eq_getElem (by omega)
  obtain ⟨h0, h1, h2⟩ := hc _ _ ho
  obtain ⟨k0, k1, k2⟩ := cellsH_at ho
  have hm : j % 3 = 0 ∨ j % 3 = 1 ∨ j % 3 = 2 := by omega
  rcases hm with hm | hm | hm
  · have e : j = j / 3 * 3 := by omega
    rw [e] at hu ⊢; rw [k0] at hu; rw [h0, ← hu]
  · have e : j = j / 3 * 3 + 1 := by omega
    rw [e] at hu ⊢; rw [k1] at hu; rw [← Nat.add_assoc, h1, ← hu]
  · have e : j = j / 3 * 3 + 2 := by omega
    rw [e] at hu ⊢; rw [k2] at hu; rw [← Nat.add_assoc, h2, ← hu]

theorem add_off (b off i j : Nat) : ((⟨b, off, none⟩ : Addr).add i).add j = ⟨b, off + i + j, none⟩ := by
  unfold Addr.add
  by_cases hi : i = 0 <;> by_cases hj : j = 0 <;> simp [hi, hj]

section
variable {H : Type} {enc : TypeId × Value → H} {P : Program} {W : World}
theorem open_opsc {t e ti : TypeId} {f0 f1 f2 : Field} (ht : P.underlying t = some (.slice e)) (he : P.underlying e = some (.struct #[f0, f1, f2])) (hi : P.underlying ti = some (.int .i64)) (h0 : f0.type = ti) (h1 : f1.type = ti) (h2 : f2.type = ti)
    (hone : oneCellFields P #[f0, f1, f2] = true) (hC : P.cellsOf e = 3) {base : Nat} {v : Value} {d : DataW H} {p : List MemPlace} (hv : Value.okWide P W .any base t v) (h : DataW.Trod enc P W 0 (fun _ => true) true t v d p)
    (hsz : ∀ elems spare, d = .slice elems spare → (elems.length + spare.length) * 24 ≤ reachBytes) :
    ∃ A n c l, v = .slice A n c ∧ Rd W W.heap.size 3 A n (cellsH l) ∧ n * 24 ≤ 140737488351232 ∧ n ≤ c := by
  obtain ⟨A, n, c, rfl⟩ := okWide_slice ht hv
  obtain ⟨fuel, hf⟩ := h
  rcases open_slice ht hf with ⟨hcs, _⟩ | ⟨a, len, cap, m, k, D, Pl, hcs, _, hlc, hcm, hm, hx, hel⟩
  · simp [Value.cells] at hcs
    obtain ⟨rfl, rfl, rfl⟩ := hcs
    exact ⟨none, 0, 0, [], rfl, Rd.nil, by omega, by omega⟩
  · simp [Value.cells] at hcs
    obtain ⟨rfl, rfl, rfl⟩ := hcs
    simp only [if_true] at hm
    subst hm
    have hb : n * 24 ≤ 140737488351232 := by
      simp only [Prod.mk.injEq] at hx
      have := hsz _ _ hx.1
      simp only [List.length_map, List.length_range, reachBytes] at this
      omega
    have hcell : ∀ i, i < n → ∃ o : HOp, W.cell? ((a.add (i * 3)).add 0) = some (.int .i64 o.tx) ∧ W.cell? ((a.add (i * 3)).add 1) = some (.int .i64 o.what) ∧ W.cell? ((a.add (i * 3)).add 2) = some (.int .i64 o.item) := by
      intro i hin
      obtain ⟨cs', hc, ht'⟩ := hel i (by omega)
      rw [hC] at hc
      obtain ⟨ys, n', _, _, hlen, hyl, hfs⟩ := DataW.trod_struct he ht'
      obtain ⟨_, hcl, hat⟩ := World.cells?_some hc
      have key : ∀ (j : Nat) (f : Field), (#[f0, f1, f2] : Array Field)[j]? = some f → f.type = ti → ∃ x : Int, cs'[j]? = some (Value.int .i64 x) := by
        intro j f hj hft
        obtain ⟨ho, hk⟩ := hone_of hone j f hj
        have hjl : j < 3 := by simpa using (Array.getElem?_eq_some_iff.1 hj).1
        have h1 := hfs j f hj
        rw [ho, hk, hft] at h1
        have hone' : (cs'.drop j).take 1 = [cs'[j]'(by omega)] := by
          rw [List.drop_eq_getElem_cons (by omega)]; rfl
        rw [hone', List.getElem?_eq_getElem (by rw [hyl]; simpa using hjl)] at h1
        obtain ⟨x, hcx, _⟩ := DataW.trod_int hi h1
        simp only [List.cons.injEq, and_true] at hcx
        exact ⟨x, by rw [List.getElem?_eq_getElem (by omega), hcx]⟩
      obtain ⟨x0, e0⟩ := key 0 f0 rfl h0
      obtain ⟨x1, e1⟩ := key 1 f1 rfl h1
      obtain ⟨x2, e2⟩ := key 2 f2 rfl h2
      exact ⟨⟨x0, x1, x2⟩, (hat 0 (by omega)).trans e0, (hat 1 (by omega)).trans e1, (hat 2 (by omega)).trans e2⟩
    obtain ⟨l, hll, hl⟩ := list_of n hcell
    refine ⟨some a, n, _, l, rfl, ⟨by rw [cellsH_length, hll], fun hn => ?_⟩, hb, by omega⟩
    obtain ⟨o, ho, _, _⟩ := hcell 0 hn
    obtain ⟨b, off, s⟩ := a
    have hs : s = none := by
      have := spot_none ho
      simpa [Addr.add] using this
    subst hs
    have hbl := World.block_lt_of_cell? W _ ho
    rw [add_off] at hbl
    refine ⟨b, off, rfl, hbl, cellsH_get fun i o hio => ?_⟩
    have := hl i o hio
    rw [add_off, add_off, add_off] at this
    exact this
theorem open_ops {t e ti : TypeId} {f0 f1 f2 : Field} (ht : P.underlying t = some (.slice e)) (he : P.underlying e = some (.struct #[f0, f1, f2])) (hi : P.underlying ti = some (.int .i64)) (h0 : f0.type = ti) (h1 : f1.type = ti) (h2 : f2.type = ti)
    (hone : oneCellFields P #[f0, f1, f2] = true) (hC : P.cellsOf e = 3) {base : Nat} {v : Value} {d : DataW H} {p : List MemPlace} (hv : Value.okWide P W .any base t v) (h : DataW.Trod enc P W 0 (fun _ => true) true t v d p)
    (hsz : ∀ elems spare, d = .slice elems spare → (elems.length + spare.length) * 24 ≤ reachBytes) :
    ∃ A n c l, v = .slice A n c ∧ Rd W W.heap.size 3 A n (cellsH l) ∧ n * 24 ≤ 140737488351232 := by
  obtain ⟨A, n, c, l, h1, h2, h3, _⟩ := open_opsc ht he hi h0 h1 h2 hone hC hv h hsz
  exact ⟨A, n, c, l, h1, h2, h3⟩
theorem open_isc {t e : TypeId} (ht : P.underlying t = some (.slice e)) (he : P.underlying e = some (.int .i64)) (hC : P.cellsOf e = 1) {base : Nat} {v : Value} {d : DataW H} {p : List MemPlace} (hv : Value.okWide P W .any base t v) (h : DataW.Trod enc P W 0 (fun _ => true) true t v d p)
    (hsz : ∀ elems spare, d = .slice elems spare → (elems.length + spare.length) * 8 ≤ reachBytes) :
    ∃ A n c l, v = .slice A n c ∧ Rd W W.heap.size 1 A n (cellsI l) ∧ n * 8 ≤ 140737488351232 ∧ n ≤ c := by
  obtain ⟨A, n, c, rfl⟩ := okWide_slice ht hv
  obtain ⟨fuel, hf⟩ := h
  rcases open_slice ht hf with ⟨hcs, _⟩ | ⟨a, len, cap, m, k, D, Pl, hcs, _, hlc, hcm, hm, hx, hel⟩
  · simp [Value.cells] at hcs
    obtain ⟨rfl, rfl, rfl⟩ := hcs
    exact ⟨none, 0, 0, [], rfl, Rd.nil, by omega, by omega⟩
  · simp [Value.cells] at hcs
    obtain ⟨rfl, rfl, rfl⟩ := hcs
    simp only [if_true] at hm
    subst hm
    have hb : n * 8 ≤ 140737488351232 := by
      simp only [Prod.mk.injEq] at hx
      have := hsz _ _ hx.1
      simp only [List.length_map, List.length_range, reachBytes] at this
      omega
    have hcell : ∀ i, i < n → ∃ x : Int, W.cell? ((a.add (i * 1)).add 0) = some (.int .i64 x) := by
      intro i hin
      obtain ⟨cs', hc, ht'⟩ := hel i (by omega)
      rw [hC] at hc
      obtain ⟨_, hcl, hat⟩ := World.cells?_some hc
      obtain ⟨x, hcx, _⟩ := DataW.trod_int he ht'
      exact ⟨x, (hat 0 (by omega)).trans (by rw [hcx]; rfl)⟩
    obtain ⟨l, hll, hl⟩ := list_of n hcell
    refine ⟨some a, n, _, l, rfl, ⟨by rw [cellsI, List.length_map, hll]; omega, fun hn => ?_⟩, hb, by omega⟩
    obtain ⟨x, hx0⟩ := hcell 0 hn
    obtain ⟨b, off, s⟩ := a
    have hs : s = none := by
      have := spot_none hx0
      simpa [Addr.add] using this
    subst hs
    have hbl := World.block_lt_of_cell? W _ hx0
    rw [add_off] at hbl
    refine ⟨b, off, rfl, hbl, fun j u hu => ?_⟩
    rw [cellsI, List.getElem?_map] at hu
    cases hlj : l[j]? with
    | none => rw [hlj] at hu; cases hu
    | some x =>
      rw [hlj] at hu
      have := hl j x hlj
      rw [add_off, Nat.mul_one, Nat.add_zero] at this
      rw [this]; exact hu
theorem open_is {t e : TypeId} (ht : P.underlying t = some (.slice e)) (he : P.underlying e = some (.int .i64)) (hC : P.cellsOf e = 1) {base : Nat} {v : Value} {d : DataW H} {p : List MemPlace} (hv : Value.okWide P W .any base t v) (h : DataW.Trod enc P W 0 (fun _ => true) true t v d p)
    (hsz : ∀ elems spare, d = .slice elems spare → (elems.length + spare.length) * 8 ≤ reachBytes) :
    ∃ A n c l, v = .slice A n c ∧ Rd W W.heap.size 1 A n (cellsI l) ∧ n * 8 ≤ 140737488351232 := by
  obtain ⟨A, n, c, l, h1, h2, h3, _⟩ := open_isc ht he hC hv h hsz
  exact ⟨A, n, c, l, h1, h2, h3⟩
end

/-- The row's last step where slices are among the arguments: below the heap's old size nothing has turned. -/
theorem post_slices {H : Type} {enc : TypeId × Value → H} {P : Program} {f : Func} {s : ChangeSpec} {apart fresh handsOn : Bool} {W W' : World} {args : Array Value} {v : Value} {ds gs : List (DataW H)} {before pa pv : List MemPlace}
    (hW : DataW.Whole enc P f.params.toList s.vars apart W args.toList ds gs before) (hb : Below W.heap.size W W') (hps : before = pa ++ pv)
    (hres : ∀ (b : Nat) (sp : Nat → Bool) (hd : Bool), DataW.TrodAll enc P W' b sp hd f.resultTypes.toList (v.resultList f.resultTypes.size) (s.fn H (ds ++ gs)).results [])
    (hargs : DataW.TrodAll enc P W' 0 (fun b => decide (b < W.heap.size)) true f.params.toList args.toList (s.fn H (ds ++ gs)).args pa)
    (hvars : DataW.TrodVars enc P W' (fun b => decide (b < W.heap.size)) s.vars (s.fn H (ds ++ gs)).vars pv) :
    s.post enc P f apart fresh handsOn false W args v W' := by
  subst hps
  exact ⟨ds, gs, pa ++ pv, [], pa, pv, hW, hres _ _ _, hargs, hvars, World.keptBut_mono (fun p hp => ⟨hp, .inr (List.mem_append.1 hp)⟩) (hb.frame (· ∈ pa ++ pv)), fun h => by cases h⟩
theorem laidOut : laidOutB Tryz.prog = true := by kernel_rfl
end Go.Proofs.YtaaahfbcpgdoiaaGreatDoor

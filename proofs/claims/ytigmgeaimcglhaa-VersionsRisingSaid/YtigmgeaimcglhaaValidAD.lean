
/-
  PLAIN LAWS: what was seen, deal by deal; who is done is right; as if one behind the other (valid).
-/
import Derived.Test.YtigmgeaimcglhaaValidAC
import Derived.Test.YtigmgeaimcglhaaN1

namespace Go.Proofs.Ytigmgeaimcglhaa
open Go.RowKit

theorem flat_none : ∀ {ds : List Dl} {t : Int}, (∀ d ∈ ds, ∀ x ∈ d.seen, x.tx = d.tx) → t ∉ ds.map (·.tx) → ownL (ds.flatMap (·.seen)) t = []
  | [], _, _, _ => rfl
  | d :: ds, t, hs, hn => by
    rw [List.map_cons, List.mem_cons, not_or] at hn
    rw [List.flatMap_cons, ownL_append, flat_none (fun x hx => hs x (List.mem_cons_of_mem _ hx)) hn.2, List.append_nil]
    unfold ownL
    refine List.filter_eq_nil_iff.2 fun x hx => ?_
    rw [decide_eq_true_eq, hs d List.mem_cons_self x hx]
    exact fun e => hn.1 e.symm
theorem flat_own : ∀ {ds : List Dl}, (ds.map (·.tx)).Nodup → (∀ d ∈ ds, ∀ x ∈ d.seen, x.tx = d.tx) → ∀ d ∈ ds, ownL (ds.flatMap (·.seen)) d.tx = d.seen
  | [], _, _, _, h => by cases h
  | e :: ds, hn, hs, d, hd => by
    rw [List.map_cons, List.nodup_cons] at hn
    rw [List.flatMap_cons, ownL_append]
    have hself : ∀ y : Dl, (∀ x ∈ y.seen, x.tx = y.tx) → ownL y.seen y.tx = y.seen := fun y hy => List.filter_eq_self.2 fun x hx => by simpa using hy x hx
    rcases List.mem_cons.1 hd with rfl | hd
    · rw [hself d (hs d List.mem_cons_self), flat_none (fun x hx => hs x (List.mem_cons_of_mem _ hx)) hn.1, List.append_nil]
    · rw [flat_own hn.2 (fun x hx => hs x (List.mem_cons_of_mem _ hx)) d hd]
      have : ownL e.seen d.tx = [] := by
        unfold ownL
        refine List.filter_eq_nil_iff.2 fun x hx => ?_
        rw [decide_eq_true_eq, hs e List.mem_cons_self x hx]
        exact fun h => hn.1 (by rw [h]; exact List.mem_map.2 ⟨d, hd, rfl⟩)
      rw [this, List.nil_append]
theorem byL_of_byD {l seen : List HOp} : ∀ (q : List Dl) (la : List Int) {x : List Int}, (∀ d ∈ q, ownL seen d.tx = d.seen) → byD l q la = some x → byL l seen (q.map (·.tx)) la = some x
  | [], _, _, _, h => h
  | d :: q, la, x, hq, h => by
    rw [byD] at h
    rw [List.map_cons, byL]
    split at h
    · rename_i h1
      rw [if_pos (by rw [h1]; exact (hq d List.mem_cons_self).symm)]
      exact byL_of_byD q _ (fun d hd => hq d (List.mem_cons_of_mem _ hd)) h
    · cases h
theorem byL_done {l : List HOp} {s : VSt} (hn : (s.ds.map (·.tx)).Nodup) (hs : ∀ t ∈ s.dn, t ∈ s.ds.map (·.tx)) (hdn : s.dn.Nodup) (hseen : ∀ d ∈ s.ds, ∀ x ∈ d.seen, x.tx = d.tx) {q : List Dl} (hq : ∀ d ∈ q, d ∈ doneD s) {la x : List Int} (hB : byD l q la = some x) : byL l (seenOf s) (q.map (·.tx)) la = some x := by
  refine byL_of_byD q la (fun d hd => ?_) hB
  exact flat_own (by rw [doneD_txs hn hs]; exact hdn) (fun d hd => hseen d (doneD_mem hn hs hd).1) d (hq d hd)
/-- What holds of whoever is done. -/
theorem vdone_right {l : List HOp} (hk : okH l) {s : VSt} {k : Nat} (hok : VOk k s) (hs : ∀ t ∈ s.dn, t ∈ s.ds.map (·.tx)) (hdn : s.dn.Nodup) (hcom : ∀ t ∈ s.dn, (⟨t, 3, 0⟩ : HOp) ∈ l) : (∀ t ∈ s.dn, endGo t l = 3) ∧ s.dn.length ≤ 6 := by
  refine ⟨fun t ht => ?_, ?_⟩
  · have := endGo_is hk (hcom t ht) (by show (3 : Int) ≤ 3; decide)
    exact this
  · have : OrdOk s.dn := ⟨hdn, fun t ht => by
      obtain ⟨d, hd, rfl⟩ := List.mem_map.1 (hs t ht)
      exact (hok.deals d hd).tx⟩
    exact this.len
theorem valid_serialL {l : List HOp} (hk : okH l) : byL l (seenOf (playV validR l)) (playV validR l).dn [0, 0, 0, 0, 0, 0] = some (playV validR l).last ∧ (playV validR l).dn.Nodup ∧ (∀ t ∈ (playV validR l).dn, endGo t l = 3) ∧ (playV validR l).dn.length ≤ 6 := by
  have I := valid_serial hk
  have h1 := byL_done (l := l) I.nodup I.dnds I.dnN I.seen (q := doneD (playV validR l)) (fun _ h => h) I.by_
  rw [doneD_txs I.nodup I.dnds] at h1
  exact ⟨h1, I.dnN, vdone_right hk I.ok I.dnds I.dnN fun t ht => by
    obtain ⟨j, _, h⟩ := I.com t ht
    exact List.mem_of_getElem? h⟩
theorem seenOf_len {k : Nat} {s : VSt} (hok : VOk k s) (hs : ∀ t ∈ s.dn, t ∈ s.ds.map (·.tx)) (hn : (s.ds.map (·.tx)).Nodup) : (seenOf s).length ≤ s.dn.length * k := by
  have key : ∀ ds : List Dl, (∀ d ∈ ds, d.seen.length ≤ k) → (ds.flatMap (·.seen)).length ≤ ds.length * k := by
    intro ds
    induction ds with
    | nil => intro _; simp
    | cons d ds ih =>
      intro h
      have h1 := h d List.mem_cons_self
      have h2 := ih fun x hx => h x (List.mem_cons_of_mem _ hx)
      rw [List.flatMap_cons, List.length_append, List.length_cons, Nat.succ_mul]; omega
  have h1 := key (doneD s) fun d hd => (hok.deals d (doneD_mem hn hs hd).1).seen
  have h2 : (doneD s).length = s.dn.length := by unfold doneD; rw [List.length_map]
  rw [h2] at h1
  exact h1
end Go.Proofs.Ytigmgeaimcglhaa

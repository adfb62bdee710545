
/-
  PLAIN LAWS: what a run keeps in bounds; the rules of valid, snap.
-/
import Derived.Test.YtigmgeaimcglhaaValidP
import Derived.Test.YtigmgeaimcglhaaN1

namespace Go.Proofs.Ytigmgeaimcglhaa
open Go.RowKit

/-- What holds of each deal of a run, of so many ops. -/
structure DOk (k : Nat) (d : Dl) : Prop where
  seen : d.seen.length ≤ k
  wrote : d.wrote.length ≤ k
  items : ∀ i ∈ d.wrote, 1 ≤ i ∧ i ≤ 6
  snap : d.snap.length = 6
  tx : 1 ≤ d.tx ∧ d.tx ≤ 6
  began : 0 ≤ d.began ∧ d.began < k
  ended : -1 ≤ d.ended ∧ d.ended < k
structure VOk (k : Nat) (s : VSt) : Prop where
  dn : s.dn.length ≤ k
  last : s.last.length = 6
  looks : s.looks.length ≤ k
  deals : ∀ d ∈ s.ds, DOk k d
theorem DOk.mono {k : Nat} {d : Dl} (h : DOk k d) : DOk (k + 1) d :=
  ⟨Nat.le_succ_of_le h.seen, Nat.le_succ_of_le h.wrote, h.items, h.snap, h.tx, ⟨h.began.1, by have := h.began.2; omega⟩, ⟨h.ended.1, by have := h.ended.2; omega⟩⟩
theorem vok00 : VOk 0 vs00 := ⟨Nat.le_refl _, rfl, Nat.le_refl _, fun _ h => by cases h⟩
theorem VOk.put {k : Nat} {s : VSt} (h : VOk k s) {d : Dl} (hd : DOk (k + 1) d) : VOk (k + 1) { s with ds := dput s.ds d } :=
  ⟨Nat.le_succ_of_le h.dn, h.last, Nat.le_succ_of_le h.looks, fun e he => by
    rcases mem_dput he with rfl | he
    · exact hd
    · exact (h.deals e he).mono⟩
theorem begD_ok {k : Nat} {s : VSt} (h : VOk k s) {tx : Int} (ht : 1 ≤ tx ∧ tx ≤ 6) : DOk (k + 1) (begD s k tx) ∧ (begD s k tx).seen.length ≤ k ∧ (begD s k tx).wrote.length ≤ k ∧ (begD s k tx).tx = tx := by
  unfold begD
  cases hd : dget s.ds tx with
  | none => exact ⟨⟨Nat.zero_le _, Nat.zero_le _, fun _ hi => (by cases hi), h.last, ht, ⟨by simp, by simp; omega⟩, ⟨by simp, by simp; omega⟩⟩, Nat.zero_le _, Nat.zero_le _, rfl⟩
  | some d =>
    obtain ⟨h1, h2⟩ := dget_tx hd
    exact ⟨(h.deals d h2).mono, (h.deals d h2).seen, (h.deals d h2).wrote, h1⟩
theorem begD_tx (s : VSt) (k : Nat) (tx : Int) : (begD s k tx).tx = tx := by
  unfold begD
  cases hd : dget s.ds tx with
  | none => rfl
  | some d => exact (dget_tx hd).1
theorem openS_ok {k : Nat} {s : VSt} (h : VOk k s) {tx : Int} (ht : 1 ≤ tx ∧ tx ≤ 6) : VOk (k + 1) (openS s k tx) := h.put (begD_ok h ht).1
theorem openS_get (s : VSt) (k : Nat) (tx : Int) : dget (openS s k tx).ds tx = some (begD s k tx) := by
  show dget (dput s.ds (begD s k tx)) tx = _
  rw [dget_put, if_pos (begD_tx s k tx)]
theorem openS_dput (s : VSt) (k : Nat) (tx : Int) (d : Dl) (hd : d.tx = tx) : dput (openS s k tx).ds d = dput s.ds d := dput_put _ ((begD_tx s k tx).trans hd.symm)
theorem openS_mem (s : VSt) (k : Nat) (tx : Int) : tx ∈ (openS s k tx).ds.map (·.tx) := List.mem_map.2 ⟨_, mem_dput_self _ _, begD_tx s k tx⟩
theorem openS_has {s : VSt} {k : Nat} {tx : Int} {d : Dl} (h : dget s.ds tx = some d) : openS s k tx = s ∧ begD s k tx = d := by
  have h1 : begD s k tx = d := by unfold begD; rw [h]; rfl
  refine ⟨?_, h1⟩
  unfold openS
  rw [h1]
  have key : ∀ (l : List Dl), dget l tx = some d → dput l d = l := by
    intro l
    induction l with
    | nil => intro h; cases h
    | cons x t ih =>
      intro h
      rw [dget] at h
      have hdt : d.tx = tx := by
        split at h
        · rename_i hx; cases h; exact hx
        · exact (dget_tx h).1
      split at h
      · rename_i hx
        cases h
        rw [dput, if_pos rfl]
      · rename_i hx
        rw [dput, if_neg (fun e => hx (e.trans hdt)), ih h]
  rw [key s.ds h]
theorem openS_new {s : VSt} {k : Nat} {tx : Int} (h : dget s.ds tx = none) : begD s k tx = ⟨tx, k, -1, [], [], s.last⟩ ∧ tx ∉ s.ds.map (·.tx) := by
  refine ⟨by unfold begD; rw [h]; rfl, fun hm => ?_⟩
  have key : ∀ (l : List Dl), tx ∈ l.map (·.tx) → dget l tx ≠ none := by
    intro l
    induction l with
    | nil => intro hm; cases hm
    | cons x t ih =>
      intro hm
      rw [dget]
      split
      · simp
      · rename_i hx
        rcases List.mem_cons.1 hm with e | e
        · exact absurd e.symm hx
        · exact ih e
  exact key _ hm h
theorem vstep_ok {R : VRules} (hR : ∀ s d i, (R.look s d i).length ≤ s.looks.length + 1) {k : Nat} {o : HOp} {s : VSt} (h : VOk k s) (ho : rightB o = true) : VOk (k + 1) (vstep R k o s) := by
  obtain ⟨t1, t2, _, _, t5, _⟩ := rightB_get ho
  obtain ⟨d1, d2, d3, d4⟩ := begD_ok h ⟨t1, t2⟩
  have hs := openS_ok h ⟨t1, t2⟩
  have hds : ∀ d, DOk (k + 1) d → d.tx = o.tx → ∀ e ∈ dput (openS s k o.tx).ds d, DOk (k + 1) e := fun d hd hdt e he => by
    rw [openS_dput _ _ _ _ hdt] at he
    rcases mem_dput he with rfl | he
    · exact hd
    · exact (h.deals e he).mono
  unfold vstep
  simp only
  have hdn : s.dn.length ≤ k := h.dn
  have hlo : s.looks.length ≤ k := h.looks
  split
  · rename_i h1
    split
    · exact ⟨hs.dn, hs.last, hs.looks, hds _ ⟨by simp; omega, d1.wrote, d1.items, d1.snap, d1.tx, d1.began, d1.ended⟩ d4⟩
    · refine ⟨hs.dn, hs.last, ?_, hds _ ⟨by simp; omega, d1.wrote, d1.items, d1.snap, d1.tx, d1.began, d1.ended⟩ d4⟩
      have := hR (openS s k o.tx) (begD s k o.tx) o.item
      have e : (openS s k o.tx).looks = s.looks := rfl
      rw [e] at this
      simp only
      omega
  · split
    · rename_i h1 h2
      refine ⟨hs.dn, hs.last, hs.looks, hds _ ⟨d1.seen, by simp; omega, fun i hi => ?_, d1.snap, d1.tx, d1.began, d1.ended⟩ d4⟩
      rcases List.mem_append.1 hi with hi | hi
      · exact d1.items i hi
      · rw [List.mem_singleton.1 hi]
        exact t5 (by omega)
    · split
      · split
        · refine ⟨?_, ?_, hs.looks, hds _ ⟨d1.seen, d1.wrote, d1.items, d1.snap, d1.tx, d1.began, ⟨by show (-1 : Int) ≤ (k : Int); omega, by show (k : Int) < ((k + 1 : Nat) : Int); omega⟩⟩ d4⟩
          · show ((openS s k o.tx).dn ++ [o.tx]).length ≤ k + 1
            rw [List.length_append, List.length_singleton]
            exact Nat.succ_le_succ hdn
          · show (setsL _ _ _).length = 6
            rw [setsL_len]; exact h.last
        · exact hs
      · exact hs

/-! ### The rules. -/
def sameLook (s : VSt) (_ : Dl) (_ : Int) : List HOp := s.looks
def validR : VRules := ⟨fun s _ i => s.last.getD (i.toNat - 1) 0, sameLook, fun s d => !sinceD d.began (doneD s) (readD d)⟩
def snapR : VRules := ⟨fun _ d i => d.snap.getD (i.toNat - 1) 0, sameLook, fun s d => !sinceD d.began (doneD s) fun i => decide (i ∈ d.wrote)⟩
end Go.Proofs.Ytigmgeaimcglhaa

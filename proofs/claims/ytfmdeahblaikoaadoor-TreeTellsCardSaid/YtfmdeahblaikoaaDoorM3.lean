
/-
  CONTRACTS of slices.Equal at numbers, history.DealsOf, serial.Along.
  CONTRACT of serial.Serial: the ops of what is done along an order, or the fault.
-/
import Derived.Test.YtfmdeahblaikoaaDoorGraph
import Derived.Test.YtfmdeahblaikoaaDoorOwn
import Derived.Test.YtfmdeahblaikoaaDoorSerialP
import Derived.Test.YtfmdeahblaikoaaDoorDone
import Derived.Test.YtfmdeahblaikoaaDoorSorted

namespace Go.Proofs.YtfmdeahblaikoaaDoor
open Go.RowKit Go.Shelf

/-! ### Deals. -/
def uniqL (acc : List Int) : List HOp → List Int
  | [] => acc
  | o :: t => uniqL (if o.tx ∈ acc then acc else acc ++ [o.tx]) t
theorem uniqL_step {acc : List Int} {o : HOp} {l t : List HOp} (e : l = o :: t) : uniqL acc l = uniqL (if o.tx ∈ acc then acc else acc ++ [o.tx]) t := by rw [e, uniqL]
theorem uniqL_nodup : ∀ {l : List HOp} {acc : List Int}, acc.Nodup → (uniqL acc l).Nodup
  | [], _, h => h
  | o :: t, acc, h => by
    rw [uniqL]
    refine uniqL_nodup ?_
    split
    · exact h
    · rename_i hn
      exact List.nodup_append.2 ⟨h, by simp, fun x hx y hy hxy => hn (by rw [List.mem_singleton] at hy; rw [← hy, ← hxy]; exact hx)⟩
theorem mem_uniqL {x : Int} : ∀ {l : List HOp} {acc : List Int}, x ∈ uniqL acc l ↔ x ∈ acc ∨ ∃ o ∈ l, o.tx = x
  | [], acc => by simp [uniqL]
  | o :: t, acc => by
    rw [uniqL, mem_uniqL]
    split
    · rename_i hm
      constructor
      · rintro (h | ⟨y, h1, h2⟩)
        · exact .inl h
        · exact .inr ⟨y, List.mem_cons_of_mem _ h1, h2⟩
      · rintro (h | ⟨y, h1, h2⟩)
        · exact .inl h
        · rcases List.mem_cons.1 h1 with e | e
          · exact .inl (by rw [← h2, e]; exact hm)
          · exact .inr ⟨y, e, h2⟩
    · constructor
      · rintro (h | ⟨y, h1, h2⟩)
        · rcases List.mem_append.1 h with h | h
          · exact .inl h
          · exact .inr ⟨o, List.mem_cons_self, (List.mem_singleton.1 h).symm⟩
        · exact .inr ⟨y, List.mem_cons_of_mem _ h1, h2⟩
      · rintro (h | ⟨y, h1, h2⟩)
        · exact .inl (List.mem_append_left _ h)
        · rcases List.mem_cons.1 h1 with e | e
          · exact .inl (List.mem_append_right _ (by rw [← h2, e]; exact List.mem_singleton.2 rfl))
          · exact .inr ⟨y, e, h2⟩
theorem sort_uniq (h : List HOp) : sortI (uniqL [] h) = dealsL h := by
  unfold dealsL
  refine sortS_eq sloI ?_ fun x => ?_
  · have h1 := sortI_up (uniqL [] h)
    have h2 : (sortI (uniqL [] h)).Nodup := (List.mergeSort_perm _ _).nodup_iff.2 (uniqL_nodup List.nodup_nil)
    have h3 := h1.and h2
    exact h3.imp fun {a b} ⟨g1, g2⟩ => by simp [ltI] at g1 ⊢; omega
  · rw [sortI_mem, mem_uniqL, List.mem_map]
    simp
/-! ### Along an order. -/
theorem alongL_snoc (D : List HOp) {o : List Int} {k : Nat} {x : Int} (h : o[k]? = some x) : alongL D (o.take (k + 1)) = alongL D (o.take k) ++ ownL D x := by
  rw [List.take_add_one, h, alongL_append]
  simp [alongL]
end Go.Proofs.YtfmdeahblaikoaaDoor


namespace Go.Proofs.YtfmdeahblaikoaaDoor
open Go.RowKit Go.Shelf

def serE (h : List HOp) (o : List Int) : Int := if (checkF h).2 ≠ 0 then (checkF h).2 else if sortI o = dealsL (doneL h) then 0 else 3
def serL (h : List HOp) (o : List Int) : List HOp := if serE h o = 0 then alongL (doneL h) o else []
theorem dealsL_len {D : List HOp} (ht : ∀ o ∈ D, 1 ≤ o.tx ∧ o.tx ≤ 6) : (dealsL D).length ≤ 6 := by
  have := nodup_sub_len (dealsL D) [1, 2, 3, 4, 5, 6] (dealsL_nodup D) fun x hx => by
    obtain ⟨o, h1, rfl⟩ := mem_dealsL.1 hx
    have := ht o h1
    simp
    omega
  simpa using this
theorem serL_len {h : List HOp} {o : List Int} (hk : okH h) (hs : serE h o = 0) : o.length ≤ 6 := by
  unfold serE at hs
  rw [if_neg (fun e => e hk)] at hs
  split at hs
  · rename_i e
    have h1 := dealsL_len (done_tx (okH_tx hk))
    rw [← e, sortI_len] at h1
    exact h1
  · cases hs
end Go.Proofs.YtfmdeahblaikoaaDoor

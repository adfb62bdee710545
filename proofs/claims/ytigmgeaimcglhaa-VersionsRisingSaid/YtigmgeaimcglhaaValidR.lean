
/-
  PLAIN LAW: by what was when it began, who only reads is always done.
-/
import Derived.Test.YtigmgeaimcglhaaValidQ

namespace Go.Proofs.Ytigmgeaimcglhaa
open Go.RowKit

theorem vstep_dn {R : VRules} {k : Nat} {o : HOp} {s : VSt} {t : Int} (h : t ∈ s.dn) : t ∈ (vstep R k o s).dn := by
  unfold vstep
  simp only
  split
  · split
    · exact h
    · exact h
  · split
    · exact h
    · split
      · split
        · exact List.mem_append_left _ h
        · exact h
      · exact h
theorem vrun_dn {R : VRules} {t : Int} : ∀ (l : List HOp) (k : Nat) (s : VSt), t ∈ s.dn → t ∈ (vrun R k l s).dn
  | [], _, _, h => h
  | _ :: l, k, _, h => vrun_dn l (k + 1) _ (vstep_dn h)
/-- Of a deal nothing was written. -/
def NoW (s : VSt) (tx : Int) : Prop := ∀ d ∈ s.ds, d.tx = tx → d.wrote = []
theorem begD_now {s : VSt} {tx : Int} (h : NoW s tx) (k : Nat) : (begD s k tx).wrote = [] := by
  unfold begD
  cases hd : dget s.ds tx with
  | none => rfl
  | some d => exact h d (dget_tx hd).2 (dget_tx hd).1
theorem NoW.put {s : VSt} {tx : Int} (h : NoW s tx) {d : Dl} (hd : d.tx = tx → d.wrote = []) (s' : VSt) (e : s'.ds = dput s.ds d) : NoW s' tx := fun x hx ht => by
  rw [e] at hx
  rcases mem_dput hx with rfl | hx
  · exact hd ht
  · exact h x hx ht
theorem vstep_now {R : VRules} {k : Nat} {o : HOp} {s : VSt} {tx : Int} (h : NoW s tx) (ho : o.tx = tx → o.what ≠ 2) : NoW (vstep R k o s) tx := by
  have hb : (begD s k o.tx).tx = tx → (begD s k o.tx).wrote = [] := fun e => by
    rw [begD_tx] at e
    rw [e]; exact begD_now h k
  have ho1 : NoW (openS s k o.tx) tx := h.put hb _ rfl
  unfold vstep
  simp only
  split
  · split
    · exact ho1.put (d := { begD s k o.tx with seen := (begD s k o.tx).seen ++ [⟨o.tx, o.item, o.tx⟩] }) hb _ rfl
    · exact ho1.put (d := { begD s k o.tx with seen := (begD s k o.tx).seen ++ [⟨o.tx, o.item, R.see (openS s k o.tx) (begD s k o.tx) o.item⟩] }) hb _ rfl
  · split
    · rename_i h1 h2
      exact ho1.put (d := { begD s k o.tx with wrote := (begD s k o.tx).wrote ++ [o.item] }) (fun e => absurd h2 (ho ((begD_tx s k o.tx).symm.trans e))) _ rfl
    · split
      · split
        · exact ho1.put (d := { begD s k o.tx with ended := k }) hb _ rfl
        · exact ho1
      · exact ho1
theorem vstep_commit {R : VRules} {k : Nat} {o : HOp} {s : VSt} (ho : o.what = 3) (hm : R.may (openS s k o.tx) (begD s k o.tx) = true) : o.tx ∈ (vstep R k o s).dn := by
  unfold vstep
  simp only
  rw [if_neg (by omega), if_neg (by omega), if_pos ho, if_pos hm]
  exact List.mem_append_right _ List.mem_cons_self
theorem snap_may_now (s : VSt) {d : Dl} (h : d.wrote = []) : snapR.may s d = true := by
  show (!sinceD d.began (doneD s) fun i => decide (i ∈ d.wrote)) = true
  rw [h]
  unfold sinceD
  simp
theorem snap_reader {tx : Int} : ∀ (l : List HOp) (k : Nat) (s : VSt), NoW s tx → (∀ o ∈ l, o.tx = tx → o.what ≠ 2) → (∃ o ∈ l, o.tx = tx ∧ o.what = 3) → tx ∈ (vrun snapR k l s).dn
  | [], _, _, _, _, h => by obtain ⟨_, h, _⟩ := h; cases h
  | o :: l, k, s, hs, hw, hc => by
    show tx ∈ (vrun snapR (k + 1) l (vstep snapR k o s)).dn
    by_cases h3 : o.tx = tx ∧ o.what = 3
    · obtain ⟨rfl, h3⟩ := h3
      exact vrun_dn l _ _ (vstep_commit h3 (snap_may_now _ (begD_now hs k)))
    · refine snap_reader l (k + 1) _ (vstep_now hs (hw o List.mem_cons_self)) (fun x hx => hw x (List.mem_cons_of_mem _ hx)) ?_
      obtain ⟨x, hx, h1, h2⟩ := hc
      rcases List.mem_cons.1 hx with rfl | hx
      · exact absurd ⟨h1, h2⟩ h3
      · exact ⟨x, hx, h1, h2⟩
end Go.Proofs.Ytigmgeaimcglhaa

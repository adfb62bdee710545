
/-
  PLAIN LAWS: what a run keeps in bounds; the rules of valid, snap.
  PLAIN LAWS: a deal's ops, what it saw and what it wrote; deals one behind the other.
  PLAIN LAW: what is looked at when it ends goes as if deals came one behind the other, as they end.
  PLAIN LAW: by what was when it began, who only reads is always done.
-/
import Derived.Test.YtaaahfbcpgdoiaaGreatDoorQ35
import Derived.Test.YtaaahfbcpgdoiaaGreatDoorQ23
import Derived.Test.YtaaahfbcpgdoiaaGreatDoorQ9

namespace Go.Proofs.YtaaahfbcpgdoiaaGreatDoor
open Go.RowKit

/-- What holds of each deal of a run, of so many ops. -/
structure DOk (k : Nat) (d : Dl) : Prop where
  seen : d.seen.length ≤ k
  wrote : d.wrote.length ≤ k
  items : ∀ i ∈ d.wrote, 1 ≤ i ∧ i ≤ 6
  snap : d.snap.length = 6
  tx : 1 ≤ d.tx ∧ d.tx ≤ 6
  began : 0 ≤ d.began ∧ d.began < k
  ended : -1 ≤ d.ended ∧ d.ended < k
structure VOk (k : Nat) (s : VSt) : Prop where
  dn : s.dn.length ≤ k
  last : s.last.length = 6
  looks : s.looks.length ≤ k
  deals : ∀ d ∈ s.ds, DOk k d
theorem DOk.mono {k : Nat} {d : Dl} (h : DOk k d) : DOk (k + 1) d :=
  ⟨Nat.le_succ_of_le h.seen, Nat.le_succ_of_le h.wrote, h.items, h.snap, h.tx, ⟨h.began.1, by have := h.began.2; omega⟩, ⟨h.ended.1, by have := h.ended.2; omega⟩⟩
theorem vok00 : VOk 0 vs00 := ⟨Nat.le_refl _, rfl, Nat.le_refl _, fun _ h => by cases h⟩
theorem VOk.put {k : Nat} {s : VSt} (h : VOk k s) {d : Dl} (hd : DOk (k + 1) d) : VOk (k + 1) { s with ds := dput s.ds d } :=
  ⟨Nat.le_succ_of_le h.dn, h.last, Nat.le_succ_of_le h.looks, fun e he => by
    rcases mem_dput he with rfl | he
    · exact hd
    · exact (h.deals e he).mono⟩
theorem begD_ok {k : Nat} {s : VSt} (h : VOk k s) {tx : Int} (ht : 1 ≤ tx ∧ tx ≤ 6) : DOk (k + 1) (begD s k tx) ∧ (begD s k tx).seen.length ≤ k ∧ (begD s k tx).wrote.length ≤ k ∧ (begD s k tx).tx = tx := by
  unfold begD
  cases hd : dget s.ds tx with
  | none => exact ⟨⟨Nat.zero_le _, Nat.zero_le _, fun _ hi => (by cases hi), h.last, ht, ⟨by simp, by simp; omega⟩, ⟨by simp, by simp; omega⟩⟩, Nat.zero_le _, Nat.zero_le _, rfl⟩
  | some d =>
    obtain ⟨h1, h2⟩ := dget_tx hd
    exact ⟨(h.deals d h2).mono, (h.deals d h2).seen, (h.deals d h2).wrote, h1⟩
theorem begD_tx (s : VSt) (k : Nat) (tx : Int) : (begD s k tx).tx = tx := by
  unfold begD
  cases hd : dget s.ds tx with
  | none => rfl
  | some d => exact (dget_tx hd).1
theorem openS_ok {k : Nat} {s : VSt} (h : VOk k s) {tx : Int} (ht : 1 ≤ tx ∧ tx ≤ 6) : VOk (k + 1) (openS s k tx) := h.put (begD_ok h ht).1
theorem openS_get (s : VSt) (k : Nat) (tx : Int) : dget (openS s k tx).ds tx = some (begD s k tx) := by
  show dget (dput s.ds (begD s k tx)) tx = _
  rw [dget_put, if_pos (begD_tx s k tx)]
theorem openS_dput (s : VSt) (k : Nat) (tx : Int) (d : Dl) (hd : d.tx = tx) : dput (openS s k tx).ds d = dput s.ds d := dput_put _ ((begD_tx s k tx).trans hd.symm)
theorem openS_mem (s : VSt) (k : Nat) (tx : Int) : tx ∈ (openS s k tx).ds.map (·.tx) := List.mem_map.2 ⟨_, mem_dput_self _ _, begD_tx s k tx⟩
theorem openS_has {s : VSt} {k : Nat} {tx : Int} {d : Dl} (h : dget s.ds tx = some d) : openS s k tx = s ∧ begD s k tx = d := by
  have h1 : begD s k tx = d := by unfold begD; rw [h]; rfl
  refine ⟨?_, h1⟩
  unfold openS
  rw [h1]
  have key : ∀ (l : List Dl), dget l tx = some d → dput l d = l := by
    intro l
    induction l with
    | nil => intro h; cases h
    | cons x t ih =>
      intro h
      rw [dget] at h
      have hdt : d.tx = tx := by
        split at h
        · rename_i hx; cases h; exact hx
        · exact (dget_tx h).1
      split at h
      · rename_i hx
        cases h
        rw [dput, if_pos rfl]
      · rename_i hx
        rw [dput, if_neg (fun e => hx (e.trans hdt)), ih h]
  rw [key s.ds h]
theorem openS_new {s : VSt} {k : Nat} {tx : Int} (h : dget s.ds tx = none) : begD s k tx = ⟨tx, k, -1, [], [], s.last⟩ ∧ tx ∉ s.ds.map (·.tx) := by
  refine ⟨by unfold begD; rw [h]; rfl, fun hm => ?_⟩
  have key : ∀ (l : List Dl), tx ∈ l.map (·.tx) → dget l tx ≠ none := by
    intro l
    induction l with
    | nil => intro hm; cases hm
    | cons x t ih =>
      intro hm
      rw [dget]
      split
      · simp
      · rename_i hx
        rcases List.mem_cons.1 hm with e | e
        · exact absurd e.symm hx
        · exact ih e
  exact key _ hm h
theorem vstep_ok {R : VRules} (hR : ∀ s d i, (R.look s d i).length ≤ s.looks.length + 1) {k : Nat} {o : HOp} {s : VSt} (h : VOk k s) (ho : rightB o = true) : VOk (k + 1) (vstep R k o s) := by
  obtain ⟨t1, t2, _, _, t5, _⟩ := rightB_get ho
  obtain ⟨d1, d2, d3, d4⟩ := begD_ok h ⟨t1, t2⟩
  have hs := openS_ok h ⟨t1, t2⟩
  have hds : ∀ d, DOk (k + 1) d → d.tx = o.tx → ∀ e ∈ dput (openS s k o.tx).ds d, DOk (k + 1) e := fun d hd hdt e he => by
    rw [openS_dput _ _ _ _ hdt] at he
    rcases mem_dput he with rfl | he
    · exact hd
    · exact (h.deals e he).mono
  unfold vstep
  simp only
  have hdn : s.dn.length ≤ k := h.dn
  have hlo : s.looks.length ≤ k := h.looks
  split
  · rename_i h1
    split
    · exact ⟨hs.dn, hs.last, hs.looks, hds _ ⟨by simp; omega, d1.wrote, d1.items, d1.snap, d1.tx, d1.began, d1.ended⟩ d4⟩
    · refine ⟨hs.dn, hs.last, ?_, hds _ ⟨by simp; omega, d1.wrote, d1.items, d1.snap, d1.tx, d1.began, d1.ended⟩ d4⟩
      have := hR (openS s k o.tx) (begD s k o.tx) o.item
      have e : (openS s k o.tx).looks = s.looks := rfl
      rw [e] at this
      simp only
      omega
  · split
    · rename_i h1 h2
      refine ⟨hs.dn, hs.last, hs.looks, hds _ ⟨d1.seen, by simp; omega, fun i hi => ?_, d1.snap, d1.tx, d1.began, d1.ended⟩ d4⟩
      rcases List.mem_append.1 hi with hi | hi
      · exact d1.items i hi
      · rw [List.mem_singleton.1 hi]
        exact t5 (by omega)
    · split
      · split
        · refine ⟨?_, ?_, hs.looks, hds _ ⟨d1.seen, d1.wrote, d1.items, d1.snap, d1.tx, d1.began, ⟨by show (-1 : Int) ≤ (k : Int); omega, by show (k : Int) < ((k + 1 : Nat) : Int); omega⟩⟩ d4⟩
          · show ((openS s k o.tx).dn ++ [o.tx]).length ≤ k + 1
            rw [List.length_append, List.length_singleton]
            exact Nat.succ_le_succ hdn
          · show (setsL _ _ _).length = 6
            rw [setsL_len]; exact h.last
        · exact hs
      · exact hs

/-! ### The rules. -/
def sameLook (s : VSt) (_ : Dl) (_ : Int) : List HOp := s.looks
def validR : VRules := ⟨fun s _ i => s.last.getD (i.toNat - 1) 0, sameLook, fun s d => !sinceD d.began (doneD s) (readD d)⟩
def snapR : VRules := ⟨fun _ d i => d.snap.getD (i.toNat - 1) 0, sameLook, fun s d => !sinceD d.began (doneD s) fun i => decide (i ∈ d.wrote)⟩
end Go.Proofs.YtaaahfbcpgdoiaaGreatDoor


namespace Go.Proofs.YtaaahfbcpgdoiaaGreatDoor
open Go.RowKit

/-- A deal's ops, what it saw (each item that it had not written itself, and from whom, as something says), and what it wrote. -/
inductive Runs (tx : Int) (P : Int → Int → Prop) : List HOp → List HOp → List Int → Prop
  | nil : Runs tx P [] [] []
  | own {ops seen wrote} (i : Int) (h : Runs tx P ops seen wrote) (hi : i ∈ wrote) : Runs tx P (ops ++ [⟨tx, 1, i⟩]) (seen ++ [⟨tx, i, tx⟩]) wrote
  | other {ops seen wrote} (i f : Int) (h : Runs tx P ops seen wrote) (hi : i ∉ wrote) (hP : P i f) : Runs tx P (ops ++ [⟨tx, 1, i⟩]) (seen ++ [⟨tx, i, f⟩]) wrote
  | write {ops seen wrote} (i : Int) (h : Runs tx P ops seen wrote) : Runs tx P (ops ++ [⟨tx, 2, i⟩]) seen (wrote ++ [i])
  | skip {ops seen wrote} (w i : Int) (h : Runs tx P ops seen wrote) (hw : 3 ≤ w) : Runs tx P (ops ++ [⟨tx, w, i⟩]) seen wrote
theorem Runs.mono {tx : Int} {P P' : Int → Int → Prop} {ops seen : List HOp} {wrote : List Int} (h : Runs tx P ops seen wrote) : (∀ i f, ⟨tx, i, f⟩ ∈ seen → P i f → P' i f) → Runs tx P' ops seen wrote := by
  induction h with
  | nil => exact fun _ => .nil
  | own i _ hi ih => exact fun hp => .own i (ih fun i f hm => hp i f (List.mem_append_left _ hm)) hi
  | other i f _ hi hP ih => exact fun hp => .other i f (ih fun i f hm => hp i f (List.mem_append_left _ hm)) hi (hp i f (List.mem_append_right _ List.mem_cons_self) hP)
  | write i _ ih => exact fun hp => .write i (ih hp)
  | skip w i _ hw ih => exact fun hp => .skip w i (ih hp) hw
/-- One deal behind the others: who wrote each item last, and what it sees. -/
def simStep (tx : Int) (p : List Int × List HOp) (o : HOp) : List Int × List HOp :=
  if o.what = 2 then (p.1.set (o.item.toNat - 1) tx, p.2) else if o.what = 1 then (p.1, p.2 ++ [⟨tx, o.item, p.1.getD (o.item.toNat - 1) 0⟩]) else p
def simL (tx : Int) (la : List Int) (ops : List HOp) : List Int × List HOp := ops.foldl (simStep tx) (la, [])
/-- Deals one behind the other. -/
def byL (l seen : List HOp) : List Int → List Int → Option (List Int)
  | [], la => some la
  | tx :: t, la => if (simL tx la (ownL l tx)).2 = seen.filter (fun s => decide (s.tx = tx)) then byL l seen t (simL tx la (ownL l tx)).1 else none
theorem byL_snoc (l seen : List HOp) (tx : Int) : ∀ (o : List Int) (la : List Int), byL l seen (o ++ [tx]) la = (byL l seen o la).bind fun la => if (simL tx la (ownL l tx)).2 = seen.filter (fun s => decide (s.tx = tx)) then some (simL tx la (ownL l tx)).1 else none
  | [], la => by simp [byL]
  | t :: o, la => by
    rw [List.cons_append, byL, byL]
    split
    · exact byL_snoc l seen tx o _
    · rfl
theorem setsL_snoc (tx i : Int) : ∀ (l m : List Int), setsL tx (l ++ [i]) m = (setsL tx l m).set (i.toNat - 1) tx
  | [], m => rfl
  | j :: t, m => by rw [List.cons_append, setsL, setsL, setsL_snoc tx i t]
/-- Of what a deal wrote itself it is the last; all else is as it was. -/
theorem setsL_get {tx : Int} {la : List Int} (hla : la.length = 6) : ∀ {l : List Int}, (∀ i ∈ l, 1 ≤ i ∧ i ≤ 6) → ∀ {i : Int}, 1 ≤ i → i ≤ 6 → (setsL tx l la).getD (i.toNat - 1) 0 = if i ∈ l then tx else la.getD (i.toNat - 1) 0 := by
  intro l hl i hi hi2
  have key : ∀ (r : List Int), (∀ j ∈ r, 1 ≤ j ∧ j ≤ 6) → (setsL tx r.reverse la).getD (i.toNat - 1) 0 = if i ∈ r then tx else la.getD (i.toNat - 1) 0 := by
    intro r
    induction r with
    | nil => intro _; simp [setsL]
    | cons j t ih =>
      intro hr
      have hj := hr j List.mem_cons_self
      rw [List.reverse_cons, setsL_snoc]
      by_cases e : i = j
      · subst e
        rw [if_pos List.mem_cons_self]
        have hlen : (setsL tx t.reverse la).length = 6 := by rw [setsL_len]; exact hla
        rw [List.getD_eq_getElem?_getD, List.getElem?_set_self (by rw [hlen]; omega)]
        rfl
      · rw [List.getD_eq_getElem?_getD, List.getElem?_set_ne (by omega), ← List.getD_eq_getElem?_getD, ih fun x hx => hr x (List.mem_cons_of_mem _ hx)]
        by_cases h : i ∈ t
        · rw [if_pos h, if_pos (List.mem_cons_of_mem _ h)]
        · rw [if_neg h, if_neg (by simp [e, h])]
  have := key l.reverse (fun j hj => hl j (List.mem_reverse.1 hj))
  rw [List.reverse_reverse] at this
  rw [this]
  simp
/-- Who saw what was last, of whom it had not written itself, goes as one behind the others. -/
theorem Runs.sim {tx : Int} {la : List Int} (hla : la.length = 6) {ops seen : List HOp} {wrote : List Int} (h : Runs tx (fun i f => f = la.getD (i.toNat - 1) 0) ops seen wrote) : (∀ o ∈ ops, o.what < 3 → 1 ≤ o.item ∧ o.item ≤ 6) → (∀ i ∈ wrote, 1 ≤ i ∧ i ≤ 6) → simL tx la ops = (setsL tx wrote la, seen) := by
  induction h with
  | nil => intro _ _; rfl
  | own i h hi ih =>
    intro h1 h2
    have hr := h1 ⟨tx, 1, i⟩ (List.mem_append_right _ List.mem_cons_self) (by show (1 : Int) < 3; decide)
    unfold simL at ih ⊢
    rw [List.foldl_append, ih (fun o ho => h1 o (List.mem_append_left _ ho)) h2]
    show (_, _) = _
    dsimp only
    rw [setsL_get hla h2 hr.1 hr.2, if_pos hi]
  | other i f h hi hP ih =>
    intro h1 h2
    have hr := h1 ⟨tx, 1, i⟩ (List.mem_append_right _ List.mem_cons_self) (by show (1 : Int) < 3; decide)
    unfold simL at ih ⊢
    rw [List.foldl_append, ih (fun o ho => h1 o (List.mem_append_left _ ho)) h2]
    show (_, _) = _
    dsimp only
    rw [setsL_get hla h2 hr.1 hr.2, if_neg hi, hP]
  | write i h ih =>
    intro h1 h2
    unfold simL at ih ⊢
    rw [List.foldl_append, ih (fun o ho => h1 o (List.mem_append_left _ ho)) (fun j hj => h2 j (List.mem_append_left _ hj)), setsL_snoc]
    rfl
  | skip w i h hw ih =>
    intro h1 h2
    unfold simL at ih ⊢
    rw [List.foldl_append, ih (fun o ho => h1 o (List.mem_append_left _ ho)) h2]
    show simStep tx _ _ = _
    unfold simStep
    rw [if_neg (by simp only; omega), if_neg (by simp only; omega)]
end Go.Proofs.YtaaahfbcpgdoiaaGreatDoor


namespace Go.Proofs.YtaaahfbcpgdoiaaGreatDoor
open Go.RowKit

theorem mem_dputN : ∀ {l : List Dl} {d e : Dl}, (l.map (·.tx)).Nodup → e ∈ dput l d → e = d ∨ (e ∈ l ∧ e.tx ≠ d.tx)
  | [], d, e, _, h => by simp only [dput, List.mem_singleton] at h; exact .inl h
  | x :: t, d, e, hn, h => by
    rw [List.map_cons, List.nodup_cons] at hn
    rw [dput] at h
    split at h
    · rename_i hx
      rcases List.mem_cons.1 h with h | h
      · exact .inl h
      · exact .inr ⟨List.mem_cons_of_mem _ h, fun e' => hn.1 (by rw [hx, ← e']; exact List.mem_map.2 ⟨e, h, rfl⟩)⟩
    · rename_i hx
      rcases List.mem_cons.1 h with h | h
      · exact .inr ⟨by rw [h]; exact List.mem_cons_self, by rw [h]; exact hx⟩
      · rcases mem_dputN hn.2 h with h | ⟨h, h2⟩
        · exact .inl h
        · exact .inr ⟨List.mem_cons_of_mem _ h, h2⟩
theorem mem_dput_ne : ∀ {l : List Dl} {d e : Dl}, e ∈ l → e.tx ≠ d.tx → e ∈ dput l d
  | x :: t, d, e, h, hne => by
    rw [dput]
    split
    · rename_i hx
      rcases List.mem_cons.1 h with rfl | h
      · exact absurd hx hne
      · exact List.mem_cons_of_mem _ h
    · rcases List.mem_cons.1 h with rfl | h
      · exact List.mem_cons_self
      · exact List.mem_cons_of_mem _ (mem_dput_ne h hne)
theorem ownL_at {l : List HOp} {k : Nat} {o : HOp} (ho : l[k]? = some o) (t : Int) : ownL (l.take (k + 1)) t = if o.tx = t then ownL (l.take k) t ++ [o] else ownL (l.take k) t := by
  rw [takeSnoc ho]
  unfold ownL
  rw [List.filter_append]
  by_cases h : o.tx = t
  · simp [h]
  · simp [h]
/-- Deals one behind the other, by what they saw. -/
def byD (l : List HOp) : List Dl → List Int → Option (List Int)
  | [], la => some la
  | d :: t, la => if (simL d.tx la (ownL l d.tx)).2 = d.seen then byD l t (simL d.tx la (ownL l d.tx)).1 else none
theorem byD_snoc (l : List HOp) (d : Dl) : ∀ (o : List Dl) (la lb : List Int), byD l o la = some lb → (simL d.tx lb (ownL l d.tx)).2 = d.seen → byD l (o ++ [d]) la = some (simL d.tx lb (ownL l d.tx)).1
  | [], la, lb, h, h2 => by
    cases h
    rw [List.nil_append, byD, if_pos h2]; rfl
  | x :: o, la, lb, h, h2 => by
    rw [byD] at h
    rw [List.cons_append, byD]
    split at h
    · rename_i hx
      rw [if_pos hx]
      exact byD_snoc l d o _ _ h h2
    · cases h
/-- What was seen of an item is what is last, or one that ended since wrote it. -/
def Pv (s : VSt) (d : Dl) (i f : Int) : Prop := f ≠ d.tx ∧ 1 ≤ i ∧ i ≤ 6 ∧ (f = s.last.getD (i.toNat - 1) 0 ∨ ∃ e ∈ s.ds, e.tx ∈ s.dn ∧ e.ended > d.began ∧ i ∈ e.wrote)
structure InvV (l : List HOp) (k : Nat) (s : VSt) : Prop where
  ok : VOk k s
  nodup : (s.ds.map (·.tx)).Nodup
  own : ∀ t, t ∉ s.ds.map (·.tx) → ownL (l.take k) t = []
  runs : ∀ d ∈ s.ds, d.tx ∉ s.dn → Runs d.tx (Pv s d) (ownL (l.take k) d.tx) d.seen d.wrote
  dnds : ∀ t ∈ s.dn, t ∈ s.ds.map (·.tx)
  dnN : s.dn.Nodup
  com : ∀ t ∈ s.dn, ∃ j, j < k ∧ l[j]? = some ⟨t, 3, 0⟩
  lastd : ∀ x ∈ s.last, x = 0 ∨ x ∈ s.dn
  seen : ∀ d ∈ s.ds, ∀ x ∈ d.seen, x.tx = d.tx
  by_ : byD l (doneD s) [0, 0, 0, 0, 0, 0] = some s.last
theorem inv0 (l : List HOp) : InvV l 0 vs00 :=
  ⟨vok00, List.nodup_nil, fun t _ => by rw [List.take_zero]; rfl, fun _ h => (by cases h), fun _ h => (by cases h), List.nodup_nil, fun _ h => (by cases h), fun x hx => .inl (by simpa [vs00] using hx), fun _ h => (by cases h), rfl⟩
theorem setsL_mem {tx x : Int} : ∀ {r l : List Int}, x ∈ setsL tx r l → x = tx ∨ x ∈ l
  | [], _, h => .inr h
  | i :: t, l, h => by
    rcases setsL_mem (r := t) h with h | h
    · exact .inl h
    · rcases List.mem_or_eq_of_mem_set h with h | h
      · exact .inr h
      · exact .inl h
theorem doneD_put {s : VSt} {d : Dl} (hd : d.tx ∉ s.dn) (s' : VSt) (e1 : s'.ds = dput s.ds d) (e2 : s'.dn = s.dn) : doneD s' = doneD s := by
  unfold doneD
  rw [e2]
  refine List.map_congr_left fun t ht => ?_
  rw [e1, dget_put, if_neg (fun e => hd (by rw [e]; exact ht))]
theorem mem_doneD {s : VSt} (hn : (s.ds.map (·.tx)).Nodup) {e : Dl} (he : e ∈ s.ds) (ht : e.tx ∈ s.dn) : e ∈ doneD s :=
  List.mem_map.2 ⟨e.tx, ht, by rw [dget_mem hn he]; rfl⟩
theorem getD_last {l : List Int} (i : Nat) : l.getD i 0 = 0 ∨ l.getD i 0 ∈ l := by
  rw [List.getD_eq_getElem?_getD]
  cases h : l[i]? with
  | none => exact .inl rfl
  | some v => exact .inr (List.mem_of_getElem? h)
theorem own_full {l : List HOp} {m : Nat} {t : Int} (h : ∀ j x, l[j]? = some x → x.tx = t → j < m) : ownL (l.take m) t = ownL l t := by
  have e : ownL l t = ownL (l.take m) t ++ ownL (l.drop m) t := by rw [← ownL_append, List.take_append_drop]
  rw [e]
  have : ownL (l.drop m) t = [] := by
    unfold ownL
    refine List.filter_eq_nil_iff.2 fun x hx => ?_
    obtain ⟨j, hj⟩ := List.mem_iff_getElem?.1 hx
    rw [List.getElem?_drop] at hj
    intro ht
    have := h _ x hj (by simpa using ht)
    omega
  rw [this, List.append_nil]
theorem rightB_end {o : HOp} (h : rightB o = true) (h3 : o.what = 3) : o = ⟨o.tx, 3, 0⟩ := by
  obtain ⟨_, _, _, _, _, h6⟩ := rightB_get h
  obtain ⟨a, b, c⟩ := o
  simp only at h3 h6 ⊢
  rw [h3, h6 (by omega)]
theorem inv_step {l : List HOp} (hk : okH l) {k : Nat} {o : HOp} (ho : l[k]? = some o) {s : VSt} (I : InvV l k s) : InvV l (k + 1) (vstep validR k o s) := by
  have hr := okH_right hk o (List.mem_of_getElem? ho)
  obtain ⟨t1, t2, w1, w4, h5, h6⟩ := rightB_get hr
  have hnd : o.tx ∉ s.dn := fun h => by
    obtain ⟨j, hj, hx⟩ := I.com _ h
    have := end_at hk ho j _ hx rfl (by show (3 : Int) ≤ 3; decide)
    omega
  have hok := vstep_ok (R := validR) (fun s _ _ => Nat.le_succ _) I.ok hr
  have hown : ∀ t, t ≠ o.tx → ownL (l.take (k + 1)) t = ownL (l.take k) t := fun t h => by rw [ownL_at ho, if_neg (fun e => h e.symm)]
  have hown1 : ownL (l.take (k + 1)) o.tx = ownL (l.take k) o.tx ++ [o] := by rw [ownL_at ho, if_pos rfl]
  have hcom : ∀ t ∈ s.dn, ∃ j, j < k + 1 ∧ l[j]? = some ⟨t, 3, 0⟩ := fun t h => by
    obtain ⟨j, hj, hx⟩ := I.com t h
    exact ⟨j, by omega, hx⟩
  -- the deal of the op, as it is now
  obtain ⟨d1, d2, d3, d4⟩ := begD_ok (k := k) I.ok ⟨t1, t2⟩
  have hruns : Runs o.tx (Pv s (begD s k o.tx)) (ownL (l.take k) o.tx) (begD s k o.tx).seen (begD s k o.tx).wrote ∧ ∀ x ∈ (begD s k o.tx).seen, x.tx = o.tx := by
    cases hd : dget s.ds o.tx with
    | none =>
      obtain ⟨e1, e2⟩ := openS_new (k := k) hd
      rw [e1, I.own _ e2]
      exact ⟨.nil, fun _ h => by cases h⟩
    | some d =>
      obtain ⟨_, e2⟩ := openS_has (k := k) hd
      obtain ⟨g1, g2⟩ := dget_tx hd
      rw [e2]
      have := I.runs d g2 (by rw [g1]; exact hnd)
      have h2 := I.seen d g2
      rw [g1] at this h2
      exact ⟨this, h2⟩
  obtain ⟨hrun, hseen⟩ := hruns
  -- the deals behind any put of that deal
  have hmem : ∀ (d' : Dl), d'.tx = o.tx → ∀ e ∈ dput (openS s k o.tx).ds d', e = d' ∨ (e ∈ s.ds ∧ e.tx ≠ o.tx) := fun d' hdt e he => by
    rw [openS_dput _ _ _ _ hdt] at he
    rcases mem_dputN I.nodup he with h | ⟨h, h2⟩
    · exact .inl h
    · exact .inr ⟨h, by rw [← hdt]; exact h2⟩
  have hkeep : ∀ (d' : Dl), d'.tx = o.tx → ∀ e ∈ s.ds, e.tx ≠ o.tx → e ∈ dput (openS s k o.tx).ds d' := fun d' hdt e he hne => by
    rw [openS_dput _ _ _ _ hdt]
    exact mem_dput_ne he (by rw [hdt]; exact hne)
  have hnodup : ∀ (d' : Dl), d'.tx = o.tx → ((dput (openS s k o.tx).ds d').map (·.tx)).Nodup := fun d' hdt => by
    rw [openS_dput _ _ _ _ hdt]; exact dput_nodup I.nodup _
  have htxs : ∀ (d' : Dl), d'.tx = o.tx → ∀ t, t ∈ (dput (openS s k o.tx).ds d').map (·.tx) ↔ t ∈ s.ds.map (·.tx) ∨ t = o.tx := fun d' hdt t => by
    rw [openS_dput _ _ _ _ hdt, dput_txs, hdt]
    split
    · rename_i h
      exact ⟨.inl, fun h2 => h2.elim id fun e => by rw [e]; exact h⟩
    · rw [List.mem_append, List.mem_singleton]
  -- a state in which the deal alone changed
  have hput : ∀ (d' : Dl) (s' : VSt), d'.tx = o.tx → d'.began = (begD s k o.tx).began → s'.ds = dput (openS s k o.tx).ds d' → s'.dn = s.dn → s'.last = s.last → VOk (k + 1) s' →
      (∀ P' : Int → Int → Prop, (∀ i f, Pv s (begD s k o.tx) i f → P' i f) → (∀ i, P' i (s.last.getD (i.toNat - 1) 0) ∨ ¬(1 ≤ i ∧ i ≤ 6)) → Runs o.tx P' (ownL (l.take k) o.tx ++ [o]) d'.seen d'.wrote) → (∀ x ∈ d'.seen, x.tx = o.tx) → InvV l (k + 1) s' := by
    intro d' s' hdt hbg e1 e2 e3 hok' hR hS
    have hPv : ∀ d i f, d.tx ≠ o.tx ∨ d.began = (begD s k o.tx).began → ∀ d'' : Dl, d''.tx = d.tx → d''.began = d.began → Pv s d i f → Pv s' d'' i f := by
      intro d i f _ d'' g1 g2 ⟨p1, p2, p3, p4⟩
      refine ⟨by rw [g1]; exact p1, p2, p3, ?_⟩
      rw [e3]
      rcases p4 with p4 | ⟨e, q1, q2, q3, q4⟩
      · exact .inl p4
      · exact .inr ⟨e, by rw [e1]; exact hkeep d' hdt e q1 (fun h => hnd (by rw [← h]; exact q2)), by rw [e2]; exact q2, by rw [g2]; exact q3, q4⟩
    refine ⟨hok', by rw [e1]; exact hnodup d' hdt, ?_, ?_, ?_, by rw [e2]; exact I.dnN, by rw [e2]; exact hcom, by rw [e2, e3]; exact I.lastd, ?_, ?_⟩
    · intro t ht
      rw [e1, htxs d' hdt] at ht
      rw [hown t (fun e => ht (.inr e))]
      exact I.own t (fun e => ht (.inl e))
    · intro d hd hdn
      rw [e1] at hd
      rw [e2] at hdn
      rcases hmem d' hdt d hd with rfl | ⟨hd2, hne⟩
      · rw [hdt, hown1]
        refine hR _ (fun i f hp => ?_) (fun i => ?_)
        · exact hPv (begD s k o.tx) i f (.inr rfl) d (hdt.trans d4.symm) hbg hp
        · by_cases hi : 1 ≤ i ∧ i ≤ 6
          · refine .inl ⟨?_, hi.1, hi.2, .inl (by rw [e3])⟩
            rw [hdt]
            rcases getD_last (l := s.last) (i.toNat - 1) with h | h
            · rw [h]; omega
            · rcases I.lastd _ h with h2 | h2
              · rw [h2]; omega
              · exact fun e => hnd (by rw [← e]; exact h2)
          · exact .inr hi
      · rw [hown _ hne]
        exact (I.runs d hd2 hdn).mono fun i f _ hp => hPv d i f (.inl hne) d rfl rfl hp
    · intro t ht
      rw [e2] at ht
      rw [e1, htxs d' hdt]
      exact .inl (I.dnds t ht)
    · intro d hd x hx
      rw [e1] at hd
      rcases hmem d' hdt d hd with rfl | ⟨hd2, hne⟩
      · rw [hdt]; exact hS x hx
      · exact I.seen d hd2 x hx
    · rw [e3, doneD_put (s := s) (d := d') (by rw [hdt]; exact hnd) s' (by rw [e1, openS_dput _ _ _ _ hdt]) e2]
      exact I.by_
  revert hok
  unfold vstep
  simp only
  split
  · rename_i h1
    have hit := h5 (by omega)
    have hoe : o = ⟨o.tx, 1, o.item⟩ := by
      obtain ⟨a, b, c⟩ := o
      simp only at h1 ⊢
      rw [h1]
    split
    · rename_i hin
      intro hok
      refine hput { begD s k o.tx with seen := (begD s k o.tx).seen ++ [⟨o.tx, o.item, o.tx⟩] } _ d4 rfl rfl rfl rfl hok (fun P' hp _ => ?_) (fun x hx => ?_)
      · have := Runs.own o.item (hrun.mono fun i f _ h => hp i f h) hin
        rw [← hoe] at this
        exact this
      · rcases List.mem_append.1 hx with hx | hx
        · exact hseen x hx
        · rw [List.mem_singleton.1 hx]
    · rename_i hin
      intro hok
      refine hput { begD s k o.tx with seen := (begD s k o.tx).seen ++ [⟨o.tx, o.item, s.last.getD (o.item.toNat - 1) 0⟩] } _ d4 rfl rfl rfl rfl hok (fun P' hp hl => ?_) (fun x hx => ?_)
      · have := Runs.other o.item (s.last.getD (o.item.toNat - 1) 0) (hrun.mono fun i f _ h => hp i f h) hin ((hl o.item).resolve_right (fun h => h hit))
        rw [← hoe] at this
        exact this
      · rcases List.mem_append.1 hx with hx | hx
        · exact hseen x hx
        · rw [List.mem_singleton.1 hx]
  · split
    · rename_i h1 h2
      have hoe : o = ⟨o.tx, 2, o.item⟩ := by
        obtain ⟨a, b, c⟩ := o
        simp only at h2 ⊢
        rw [h2]
      intro hok
      refine hput { begD s k o.tx with wrote := (begD s k o.tx).wrote ++ [o.item] } _ d4 rfl rfl rfl rfl hok (fun P' hp hl => ?_) hseen
      have := Runs.write o.item (hrun.mono fun i f _ h => hp i f h)
      rw [← hoe] at this
      exact this
    · rename_i h1 h2
      have hskip : ∀ P' : Int → Int → Prop, (∀ i f, Pv s (begD s k o.tx) i f → P' i f) → Runs o.tx P' (ownL (l.take k) o.tx ++ [o]) (begD s k o.tx).seen (begD s k o.tx).wrote := fun P' hp => by
        have := Runs.skip o.what o.item (hrun.mono fun i f _ h => hp i f h) (by omega)
        exact this
      have hsame : VOk (k + 1) (openS s k o.tx) → InvV l (k + 1) (openS s k o.tx) := fun hok =>
        hput (begD s k o.tx) _ d4 rfl (by rw [openS_dput _ _ _ _ d4]; rfl) rfl rfl hok (fun P' hp _ => hskip P' hp) hseen
      split
      · rename_i h3
        split
        · rename_i hm
          intro hok
          have hm2 : sinceD (begD s k o.tx).began (doneD s) (readD (begD s k o.tx)) = false := by
            have h := hm
            change (!sinceD (begD s k o.tx).began (doneD (openS s k o.tx)) (readD (begD s k o.tx))) = true at h
            rw [doneD_put (s := s) (d := begD s k o.tx) (by rw [d4]; exact hnd) (openS s k o.tx) rfl rfl] at h
            simpa using h
          have hR : Runs o.tx (fun i f => f = s.last.getD (i.toNat - 1) 0) (ownL (l.take k) o.tx ++ [o]) (begD s k o.tx).seen (begD s k o.tx).wrote := by
            have := Runs.skip (P := fun i f => f = s.last.getD (i.toNat - 1) 0) o.what o.item (hrun.mono fun i f hm3 ⟨p1, p2, p3, p4⟩ => by
              rcases p4 with p4 | ⟨e, q1, q2, q3, q4⟩
              · exact p4
              · exfalso
                have h := List.any_eq_false.1 hm2 e (mem_doneD I.nodup q1 q2)
                apply h
                rw [Bool.and_eq_true]
                refine ⟨decide_eq_true q3, List.any_eq_true.2 ⟨i, q4, ?_⟩⟩
                refine List.any_eq_true.2 ⟨_, hm3, ?_⟩
                simp only [decide_true, Bool.true_and, Bool.not_eq_true', decide_eq_false_iff_not]
                exact p1) (by omega)
            exact this
          have hfull : ownL l o.tx = ownL (l.take k) o.tx ++ [o] := by
            rw [← hown1]
            refine (own_full fun j x hx ht => ?_).symm
            have := end_at hk hx k o ho ht.symm (by omega)
            omega
          have hsim := Runs.sim (la := s.last) I.ok.last hR (fun x hx hw => by
            have hxl : x ∈ l := by
              rw [← hfull] at hx
              exact (List.mem_filter.1 hx).1
            exact (rightB_get (okH_right hk x hxl)).2.2.2.2.1 hw) d1.items
          have hdn2 : ∀ t, t ∈ s.dn ++ [o.tx] ↔ t ∈ s.dn ∨ t = o.tx := fun t => by rw [List.mem_append, List.mem_singleton]
          have hdt : ({ begD s k o.tx with ended := (k : Int) } : Dl).tx = o.tx := d4
          refine ⟨hok, hnodup _ hdt, ?_, ?_, ?_, ?_, ?_, ?_, ?_, ?_⟩
          · intro t ht
            have ht2 : ¬(t ∈ s.ds.map (·.tx) ∨ t = o.tx) := fun h => ht ((htxs _ hdt t).2 h)
            rw [hown t (fun e => ht2 (.inr e))]
            exact I.own t (fun e => ht2 (.inl e))
          · intro d hd hdn
            have hdn3 := fun h => hdn ((hdn2 d.tx).2 h)
            rcases hmem _ hdt d hd with rfl | ⟨hd2, hne⟩
            · exact absurd (.inr hdt) hdn3
            · rw [hown _ hne]
              refine (I.runs d hd2 (fun h => hdn3 (.inl h))).mono fun i f _ ⟨p1, p2, p3, p4⟩ => ⟨p1, p2, p3, ?_⟩
              rcases p4 with p4 | ⟨e, q1, q2, q3, q4⟩
              · by_cases hi : i ∈ (begD s k o.tx).wrote
                · exact .inr ⟨_, mem_dput_self _ _, (hdn2 _).2 (.inr hdt), (I.ok.deals d hd2).began.2, hi⟩
                · refine .inl ?_
                  show f = (setsL o.tx (begD s k o.tx).wrote s.last).getD _ 0
                  rw [setsL_get I.ok.last d1.items p2 p3, if_neg hi]; exact p4
              · exact .inr ⟨e, hkeep _ hdt e q1 (fun h => hnd (by rw [← h]; exact q2)), (hdn2 _).2 (.inl q2), q3, q4⟩
          · intro t ht
            refine (htxs _ hdt t).2 ?_
            rcases (hdn2 t).1 ht with h | h
            · exact .inl (I.dnds t h)
            · exact .inr h
          · exact List.nodup_append.2 ⟨I.dnN, by simp, fun x hx y hy e => hnd (by rw [List.mem_singleton] at hy; rw [← hy, ← e]; exact hx)⟩
          · intro t ht
            rcases (hdn2 t).1 ht with h | h
            · exact hcom t h
            · exact ⟨k, by omega, by rw [h, ho]; exact congrArg some (rightB_end hr h3)⟩
          · intro x hx
            rcases setsL_mem hx with h | h
            · exact .inr ((hdn2 x).2 (.inr h))
            · rcases I.lastd x h with h | h
              · exact .inl h
              · exact .inr ((hdn2 x).2 (.inl h))
          · intro d hd x hx
            rcases hmem _ hdt d hd with rfl | ⟨hd2, hne⟩
            · rw [hdt]; exact hseen x hx
            · exact I.seen d hd2 x hx
          · have e1 : doneD { openS s k o.tx with ds := dput (openS s k o.tx).ds { begD s k o.tx with ended := (k : Int) }, dn := (openS s k o.tx).dn ++ [o.tx], last := setsL o.tx (begD s k o.tx).wrote (openS s k o.tx).last } = doneD s ++ [{ begD s k o.tx with ended := (k : Int) }] := by
              unfold doneD
              show (s.dn ++ [o.tx]).map _ = _
              rw [List.map_append]
              congr 1
              · refine List.map_congr_left fun t ht => ?_
                rw [openS_dput _ _ _ _ hdt, dget_put, if_neg (fun e => hnd (by rw [← hdt, e]; exact ht))]
              · show [(dget (dput (openS s k o.tx).ds { begD s k o.tx with ended := (k : Int) }) o.tx).getD _] = [_]
                rw [dget_put, if_pos hdt]; rfl
            rw [e1]
            have h := byD_snoc l { begD s k o.tx with ended := (k : Int) } (doneD s) _ _ I.by_ (by
              rw [hdt, hfull, hsim])
            rw [h, hdt, hfull, hsim]
            rfl
        · exact hsame
      · exact hsame
theorem inv_run {l : List HOp} (hk : okH l) : ∀ (r : List HOp) (k : Nat) (s : VSt), r = l.drop k → k ≤ l.length → InvV l k s → InvV l l.length (vrun validR k r s)
  | [], k, s, hr, hkl, I => by
    have hl : l.length = k := by
      have := congrArg List.length hr
      rw [List.length_nil, List.length_drop] at this; omega
    rw [hl]; exact I
  | o :: t, k, s, hr, hkl, I => by
    have ho : l[k]? = some o := by
      have := congrArg (·[0]?) hr
      rw [List.getElem?_drop] at this
      simpa using this.symm
    have ht : t = l.drop (k + 1) := by
      have h := drop_at ho
      rw [← hr] at h
      exact (List.cons.inj h).2
    exact inv_run hk t (k + 1) _ ht (List.getElem?_eq_some_iff.1 ho).1 (inv_step hk ho I)
/-- What is looked at when it ends goes as if deals came one behind the other, as they end. -/
theorem valid_serial {l : List HOp} (hk : okH l) : InvV l l.length (playV validR l) := inv_run hk l 0 vs00 rfl (Nat.zero_le _) (inv0 l)
end Go.Proofs.YtaaahfbcpgdoiaaGreatDoor


namespace Go.Proofs.YtaaahfbcpgdoiaaGreatDoor
open Go.RowKit

theorem vstep_dn {R : VRules} {k : Nat} {o : HOp} {s : VSt} {t : Int} (h : t ∈ s.dn) : t ∈ (vstep R k o s).dn := by
  unfold vstep
  simp only
  split
  · split
    · exact h
    · exact h
  · split
    · exact h
    · split
      · split
        · exact List.mem_append_left _ h
        · exact h
      · exact h
theorem vrun_dn {R : VRules} {t : Int} : ∀ (l : List HOp) (k : Nat) (s : VSt), t ∈ s.dn → t ∈ (vrun R k l s).dn
  | [], _, _, h => h
  | _ :: l, k, _, h => vrun_dn l (k + 1) _ (vstep_dn h)
/-- Of a deal nothing was written. -/
def NoW (s : VSt) (tx : Int) : Prop := ∀ d ∈ s.ds, d.tx = tx → d.wrote = []
theorem begD_now {s : VSt} {tx : Int} (h : NoW s tx) (k : Nat) : (begD s k tx).wrote = [] := by
  unfold begD
  cases hd : dget s.ds tx with
  | none => rfl
  | some d => exact h d (dget_tx hd).2 (dget_tx hd).1
theorem NoW.put {s : VSt} {tx : Int} (h : NoW s tx) {d : Dl} (hd : d.tx = tx → d.wrote = []) (s' : VSt) (e : s'.ds = dput s.ds d) : NoW s' tx := fun x hx ht => by
  rw [e] at hx
  rcases mem_dput hx with rfl | hx
  · exact hd ht
  · exact h x hx ht
theorem vstep_now {R : VRules} {k : Nat} {o : HOp} {s : VSt} {tx : Int} (h : NoW s tx) (ho : o.tx = tx → o.what ≠ 2) : NoW (vstep R k o s) tx := by
  have hb : (begD s k o.tx).tx = tx → (begD s k o.tx).wrote = [] := fun e => by
    rw [begD_tx] at e
    rw [e]; exact begD_now h k
  have ho1 : NoW (openS s k o.tx) tx := h.put hb _ rfl
  unfold vstep
  simp only
  split
  · split
    · exact ho1.put (d := { begD s k o.tx with seen := (begD s k o.tx).seen ++ [⟨o.tx, o.item, o.tx⟩] }) hb _ rfl
    · exact ho1.put (d := { begD s k o.tx with seen := (begD s k o.tx).seen ++ [⟨o.tx, o.item, R.see (openS s k o.tx) (begD s k o.tx) o.item⟩] }) hb _ rfl
  · split
    · rename_i h1 h2
      exact ho1.put (d := { begD s k o.tx with wrote := (begD s k o.tx).wrote ++ [o.item] }) (fun e => absurd h2 (ho ((begD_tx s k o.tx).symm.trans e))) _ rfl
    · split
      · split
        · exact ho1.put (d := { begD s k o.tx with ended := k }) hb _ rfl
        · exact ho1
      · exact ho1
theorem vstep_commit {R : VRules} {k : Nat} {o : HOp} {s : VSt} (ho : o.what = 3) (hm : R.may (openS s k o.tx) (begD s k o.tx) = true) : o.tx ∈ (vstep R k o s).dn := by
  unfold vstep
  simp only
  rw [if_neg (by omega), if_neg (by omega), if_pos ho, if_pos hm]
  exact List.mem_append_right _ List.mem_cons_self
theorem snap_may_now (s : VSt) {d : Dl} (h : d.wrote = []) : snapR.may s d = true := by
  show (!sinceD d.began (doneD s) fun i => decide (i ∈ d.wrote)) = true
  rw [h]
  unfold sinceD
  simp
theorem snap_reader {tx : Int} : ∀ (l : List HOp) (k : Nat) (s : VSt), NoW s tx → (∀ o ∈ l, o.tx = tx → o.what ≠ 2) → (∃ o ∈ l, o.tx = tx ∧ o.what = 3) → tx ∈ (vrun snapR k l s).dn
  | [], _, _, _, _, h => by obtain ⟨_, h, _⟩ := h; cases h
  | o :: l, k, s, hs, hw, hc => by
    show tx ∈ (vrun snapR (k + 1) l (vstep snapR k o s)).dn
    by_cases h3 : o.tx = tx ∧ o.what = 3
    · obtain ⟨rfl, h3⟩ := h3
      exact vrun_dn l _ _ (vstep_commit h3 (snap_may_now _ (begD_now hs k)))
    · refine snap_reader l (k + 1) _ (vstep_now hs (hw o List.mem_cons_self)) (fun x hx => hw x (List.mem_cons_of_mem _ hx)) ?_
      obtain ⟨x, hx, h1, h2⟩ := hc
      rcases List.mem_cons.1 hx with rfl | hx
      · exact absurd ⟨h1, h2⟩ h3
      · exact ⟨x, hx, h1, h2⟩
end Go.Proofs.YtaaahfbcpgdoiaaGreatDoor

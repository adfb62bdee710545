
/-
  PLAIN LAW: what is looked at when it ends goes as if deals came one behind the other, as they end.
-/
import Derived.Test.YtigmgeaimcglhaaValidS
import Derived.Test.YtigmgeaimcglhaaEndAt

namespace Go.Proofs.Ytigmgeaimcglhaa
open Go.RowKit

theorem mem_dputN : ∀ {l : List Dl} {d e : Dl}, (l.map (·.tx)).Nodup → e ∈ dput l d → e = d ∨ (e ∈ l ∧ e.tx ≠ d.tx)
  | [], d, e, _, h => by simp only [dput, List.mem_singleton] at h; exact .inl h
  | x :: t, d, e, hn, h => by
    rw [List.map_cons, List.nodup_cons] at hn
    rw [dput] at h
    split at h
    · rename_i hx
      rcases List.mem_cons.1 h with h | h
      · exact .inl h
      · exact .inr ⟨List.mem_cons_of_mem _ h, fun e' => hn.1 (by rw [hx, ← e']; exact List.mem_map.2 ⟨e, h, rfl⟩)⟩
    · rename_i hx
      rcases List.mem_cons.1 h with h | h
      · exact .inr ⟨by rw [h]; exact List.mem_cons_self, by rw [h]; exact hx⟩
      · rcases mem_dputN hn.2 h with h | ⟨h, h2⟩
        · exact .inl h
        · exact .inr ⟨List.mem_cons_of_mem _ h, h2⟩
theorem mem_dput_ne : ∀ {l : List Dl} {d e : Dl}, e ∈ l → e.tx ≠ d.tx → e ∈ dput l d
  | x :: t, d, e, h, hne => by
    rw [dput]
    split
    · rename_i hx
      rcases List.mem_cons.1 h with rfl | h
      · exact absurd hx hne
      · exact List.mem_cons_of_mem _ h
    · rcases List.mem_cons.1 h with rfl | h
      · exact List.mem_cons_self
      · exact List.mem_cons_of_mem _ (mem_dput_ne h hne)
theorem ownL_at {l : List HOp} {k : Nat} {o : HOp} (ho : l[k]? = some o) (t : Int) : ownL (l.take (k + 1)) t = if o.tx = t then ownL (l.take k) t ++ [o] else ownL (l.take k) t := by
  rw [takeSnoc ho]
  unfold ownL
  rw [List.filter_append]
  by_cases h : o.tx = t
  · simp [h]
  · simp [h]
/-- Deals one behind the other, by what they saw. -/
def byD (l : List HOp) : List Dl → List Int → Option (List Int)
  | [], la => some la
  | d :: t, la => if (simL d.tx la (ownL l d.tx)).2 = d.seen then byD l t (simL d.tx la (ownL l d.tx)).1 else none
theorem byD_snoc (l : List HOp) (d : Dl) : ∀ (o : List Dl) (la lb : List Int), byD l o la = some lb → (simL d.tx lb (ownL l d.tx)).2 = d.seen → byD l (o ++ [d]) la = some (simL d.tx lb (ownL l d.tx)).1
  | [], la, lb, h, h2 => by
    cases h
    rw [List.nil_append, byD, if_pos h2]; rfl
  | x :: o, la, lb, h, h2 => by
    rw [byD] at h
    rw [List.cons_append, byD]
    split at h
    · rename_i hx
      rw [if_pos hx]
      exact byD_snoc l d o _ _ h h2
    · cases h
/-- What was seen of an item is what is last, or one that ended since wrote it. -/
def Pv (s : VSt) (d : Dl) (i f : Int) : Prop := f ≠ d.tx ∧ 1 ≤ i ∧ i ≤ 6 ∧ (f = s.last.getD (i.toNat - 1) 0 ∨ ∃ e ∈ s.ds, e.tx ∈ s.dn ∧ e.ended > d.began ∧ i ∈ e.wrote)
structure InvV (l : List HOp) (k : Nat) (s : VSt) : Prop where
  ok : VOk k s
  nodup : (s.ds.map (·.tx)).Nodup
  own : ∀ t, t ∉ s.ds.map (·.tx) → ownL (l.take k) t = []
  runs : ∀ d ∈ s.ds, d.tx ∉ s.dn → Runs d.tx (Pv s d) (ownL (l.take k) d.tx) d.seen d.wrote
  dnds : ∀ t ∈ s.dn, t ∈ s.ds.map (·.tx)
  dnN : s.dn.Nodup
  com : ∀ t ∈ s.dn, ∃ j, j < k ∧ l[j]? = some ⟨t, 3, 0⟩
  lastd : ∀ x ∈ s.last, x = 0 ∨ x ∈ s.dn
  seen : ∀ d ∈ s.ds, ∀ x ∈ d.seen, x.tx = d.tx
  by_ : byD l (doneD s) [0, 0, 0, 0, 0, 0] = some s.last
theorem inv0 (l : List HOp) : InvV l 0 vs00 :=
  ⟨vok00, List.nodup_nil, fun t _ => by rw [List.take_zero]; rfl, fun _ h => (by cases h), fun _ h => (by cases h), List.nodup_nil, fun _ h => (by cases h), fun x hx => .inl (by simpa [vs00] using hx), fun _ h => (by cases h), rfl⟩
theorem setsL_mem {tx x : Int} : ∀ {r l : List Int}, x ∈ setsL tx r l → x = tx ∨ x ∈ l
  | [], _, h => .inr h
  | i :: t, l, h => by
    rcases setsL_mem (r := t) h with h | h
    · exact .inl h
    · rcases List.mem_or_eq_of_mem_set h with h | h
      · exact .inr h
      · exact .inl h
theorem doneD_put {s : VSt} {d : Dl} (hd : d.tx ∉ s.dn) (s' : VSt) (e1 : s'.ds = dput s.ds d) (e2 : s'.dn = s.dn) : doneD s' = doneD s := by
  unfold doneD
  rw [e2]
  refine List.map_congr_left fun t ht => ?_
  rw [e1, dget_put, if_neg (fun e => hd (by rw [e]; exact ht))]
theorem mem_doneD {s : VSt} (hn : (s.ds.map (·.tx)).Nodup) {e : Dl} (he : e ∈ s.ds) (ht : e.tx ∈ s.dn) : e ∈ doneD s :=
  List.mem_map.2 ⟨e.tx, ht, by rw [dget_mem hn he]; rfl⟩
theorem getD_last {l : List Int} (i : Nat) : l.getD i 0 = 0 ∨ l.getD i 0 ∈ l := by
  rw [List.getD_eq_getElem?_getD]
  cases h : l[i]? with
  | none => exact .inl rfl
  | some v => exact .inr (List.mem_of_getElem? h)
theorem own_full {l : List HOp} {m : Nat} {t : Int} (h : ∀ j x, l[j]? = some x → x.tx = t → j < m) : ownL (l.take m) t = ownL l t := by
  have e : ownL l t = ownL (l.take m) t ++ ownL (l.drop m) t := by rw [← ownL_append, List.take_append_drop]
  rw [e]
  have : ownL (l.drop m) t = [] := by
    unfold ownL
    refine List.filter_eq_nil_iff.2 fun x hx => ?_
    obtain ⟨j, hj⟩ := List.mem_iff_getElem?.1 hx
    rw [List.getElem?_drop] at hj
    intro ht
    have := h _ x hj (by simpa using ht)
    omega
  rw [this, List.append_nil]
theorem rightB_end {o : HOp} (h : rightB o = true) (h3 : o.what = 3) : o = ⟨o.tx, 3, 0⟩ := by
  obtain ⟨_, _, _, _, _, h6⟩ := rightB_get h
  obtain ⟨a, b, c⟩ := o
  simp only at h3 h6 ⊢
  rw [h3, h6 (by omega)]
theorem inv_step {l : List HOp} (hk : okH l) {k : Nat} {o : HOp} (ho : l[k]? = some o) {s : VSt} (I : InvV l k s) : InvV l (k + 1) (vstep validR k o s) := by
  have hr := okH_right hk o (List.mem_of_getElem? ho)
  obtain ⟨t1, t2, w1, w4, h5, h6⟩ := rightB_get hr
  have hnd : o.tx ∉ s.dn := fun h => by
    obtain ⟨j, hj, hx⟩ := I.com _ h
    have := end_at hk ho j _ hx rfl (by show (3 : Int) ≤ 3; decide)
    omega
  have hok := vstep_ok (R := validR) (fun s _ _ => Nat.le_succ _) I.ok hr
  have hown : ∀ t, t ≠ o.tx → ownL (l.take (k + 1)) t = ownL (l.take k) t := fun t h => by rw [ownL_at ho, if_neg (fun e => h e.symm)]
  have hown1 : ownL (l.take (k + 1)) o.tx = ownL (l.take k) o.tx ++ [o] := by rw [ownL_at ho, if_pos rfl]
  have hcom : ∀ t ∈ s.dn, ∃ j, j < k + 1 ∧ l[j]? = some ⟨t, 3, 0⟩ := fun t h => by
    obtain ⟨j, hj, hx⟩ := I.com t h
    exact ⟨j, by omega, hx⟩
  -- the deal of the op, as it is now
  obtain ⟨d1, d2, d3, d4⟩ := begD_ok (k := k) I.ok ⟨t1, t2⟩
  have hruns : Runs o.tx (Pv s (begD s k o.tx)) (ownL (l.take k) o.tx) (begD s k o.tx).seen (begD s k o.tx).wrote ∧ ∀ x ∈ (begD s k o.tx).seen, x.tx = o.tx := by
    cases hd : dget s.ds o.tx with
    | none =>
      obtain ⟨e1, e2⟩ := openS_new (k := k) hd
      rw [e1, I.own _ e2]
      exact ⟨.nil, fun _ h => by cases h⟩
    | some d =>
      obtain ⟨_, e2⟩ := openS_has (k := k) hd
      obtain ⟨g1, g2⟩ := dget_tx hd
      rw [e2]
      have := I.runs d g2 (by rw [g1]; exact hnd)
      have h2 := I.seen d g2
      rw [g1] at this h2
      exact ⟨this, h2⟩
  obtain ⟨hrun, hseen⟩ := hruns
  -- the deals behind any put of that deal
  have hmem : ∀ (d' : Dl), d'.tx = o.tx → ∀ e ∈ dput (openS s k o.tx).ds d', e = d' ∨ (e ∈ s.ds ∧ e.tx ≠ o.tx) := fun d' hdt e he => by
    rw [openS_dput _ _ _ _ hdt] at he
    rcases mem_dputN I.nodup he with h | ⟨h, h2⟩
    · exact .inl h
    · exact .inr ⟨h, by rw [← hdt]; exact h2⟩
  have hkeep : ∀ (d' : Dl), d'.tx = o.tx → ∀ e ∈ s.ds, e.tx ≠ o.tx → e ∈ dput (openS s k o.tx).ds d' := fun d' hdt e he hne => by
    rw [openS_dput _ _ _ _ hdt]
    exact mem_dput_ne he (by rw [hdt]; exact hne)
  have hnodup : ∀ (d' : Dl), d'.tx = o.tx → ((dput (openS s k o.tx).ds d').map (·.tx)).Nodup := fun d' hdt => by
    rw [openS_dput _ _ _ _ hdt]; exact dput_nodup I.nodup _
  have htxs : ∀ (d' : Dl), d'.tx = o.tx → ∀ t, t ∈ (dput (openS s k o.tx).ds d').map (·.tx) ↔ t ∈ s.ds.map (·.tx) ∨ t = o.tx := fun d' hdt t => by
    rw [openS_dput _ _ _ _ hdt, dput_txs, hdt]
    split
    · rename_i h
      exact ⟨.inl, fun h2 => h2.elim id fun e => by rw [e]; exact h⟩
    · rw [List.mem_append, List.mem_singleton]
  -- a state in which the deal alone changed
  have hput : ∀ (d' : Dl) (s' : VSt), d'.tx = o.tx → d'.began = (begD s k o.tx).began → s'.ds = dput (openS s k o.tx).ds d' → s'.dn = s.dn → s'.last = s.last → VOk (k + 1) s' →
      (∀ P' : Int → Int → Prop, (∀ i f, Pv s (begD s k o.tx) i f → P' i f) → (∀ i, P' i (s.last.getD (i.toNat - 1) 0) ∨ ¬(1 ≤ i ∧ i ≤ 6)) → Runs o.tx P' (ownL (l.take k) o.tx ++ [o]) d'.seen d'.wrote) → (∀ x ∈ d'.seen, x.tx = o.tx) → InvV l (k + 1) s' := by
    intro d' s' hdt hbg e1 e2 e3 hok' hR hS
    have hPv : ∀ d i f, d.tx ≠ o.tx ∨ d.began = (begD s k o.tx).began → ∀ d'' : Dl, d''.tx = d.tx → d''.began = d.began → Pv s d i f → Pv s' d'' i f := by
      intro d i f _ d'' g1 g2 ⟨p1, p2, p3, p4⟩
      refine ⟨by rw [g1]; exact p1, p2, p3, ?_⟩
      rw [e3]
      rcases p4 with p4 | ⟨e, q1, q2, q3, q4⟩
      · exact .inl p4
      · exact .inr ⟨e, by rw [e1]; exact hkeep d' hdt e q1 (fun h => hnd (by rw [← h]; exact q2)), by rw [e2]; exact q2, by rw [g2]; exact q3, q4⟩
    refine ⟨hok', by rw [e1]; exact hnodup d' hdt, ?_, ?_, ?_, by rw [e2]; exact I.dnN, by rw [e2]; exact hcom, by rw [e2, e3]; exact I.lastd, ?_, ?_⟩
    · intro t ht
      rw [e1, htxs d' hdt] at ht
      rw [hown t (fun e => ht (.inr e))]
      exact I.own t (fun e => ht (.inl e))
    · intro d hd hdn
      rw [e1] at hd
      rw [e2] at hdn
      rcases hmem d' hdt d hd with rfl | ⟨hd2, hne⟩
      · rw [hdt, hown1]
        refine hR _ (fun i f hp => ?_) (fun i => ?_)
        · exact hPv (begD s k o.tx) i f (.inr rfl) d (hdt.trans d4.symm) hbg hp
        · by_cases hi : 1 ≤ i ∧ i ≤ 6
          · refine .inl ⟨?_, hi.1, hi.2, .inl (by rw [e3])⟩
            rw [hdt]
            rcases getD_last (l := s.last) (i.toNat - 1) with h | h
            · rw [h]; omega
            · rcases I.lastd _ h with h2 | h2
              · rw [h2]; omega
              · exact fun e => hnd (by rw [← e]; exact h2)
          · exact .inr hi
      · rw [hown _ hne]
        exact (I.runs d hd2 hdn).mono fun i f _ hp => hPv d i f (.inl hne) d rfl rfl hp
    · intro t ht
      rw [e2] at ht
      rw [e1, htxs d' hdt]
      exact .inl (I.dnds t ht)
    · intro d hd x hx
      rw [e1] at hd
      rcases hmem d' hdt d hd with rfl | ⟨hd2, hne⟩
      · rw [hdt]; exact hS x hx
      · exact I.seen d hd2 x hx
    · rw [e3, doneD_put (s := s) (d := d') (by rw [hdt]; exact hnd) s' (by rw [e1, openS_dput _ _ _ _ hdt]) e2]
      exact I.by_
  revert hok
  unfold vstep
  simp only
  split
  · rename_i h1
    have hit := h5 (by omega)
    have hoe : o = ⟨o.tx, 1, o.item⟩ := by
      obtain ⟨a, b, c⟩ := o
      simp only at h1 ⊢
      rw [h1]
    split
    · rename_i hin
      intro hok
      refine hput { begD s k o.tx with seen := (begD s k o.tx).seen ++ [⟨o.tx, o.item, o.tx⟩] } _ d4 rfl rfl rfl rfl hok (fun P' hp _ => ?_) (fun x hx => ?_)
      · have := Runs.own o.item (hrun.mono fun i f _ h => hp i f h) hin
        rw [← hoe] at this
        exact this
      · rcases List.mem_append.1 hx with hx | hx
        · exact hseen x hx
        · rw [List.mem_singleton.1 hx]
    · rename_i hin
      intro hok
      refine hput { begD s k o.tx with seen := (begD s k o.tx).seen ++ [⟨o.tx, o.item, s.last.getD (o.item.toNat - 1) 0⟩] } _ d4 rfl rfl rfl rfl hok (fun P' hp hl => ?_) (fun x hx => ?_)
      · have := Runs.other o.item (s.last.getD (o.item.toNat - 1) 0) (hrun.mono fun i f _ h => hp i f h) hin ((hl o.item).resolve_right (fun h => h hit))
        rw [← hoe] at this
        exact this
      · rcases List.mem_append.1 hx with hx | hx
        · exact hseen x hx
        · rw [List.mem_singleton.1 hx]
  · split
    · rename_i h1 h2
      have hoe : o = ⟨o.tx, 2, o.item⟩ := by
        obtain ⟨a, b, c⟩ := o
        simp only at h2 ⊢
        rw [h2]
      intro hok
      refine hput { begD s k o.tx with wrote := (begD s k o.tx).wrote ++ [o.item] } _ d4 rfl rfl rfl rfl hok (fun P' hp hl => ?_) hseen
      have := Runs.write o.item (hrun.mono fun i f _ h => hp i f h)
      rw [← hoe] at this
      exact this
    · rename_i h1 h2
      have hskip : ∀ P' : Int → Int → Prop, (∀ i f, Pv s (begD s k o.tx) i f → P' i f) → Runs o.tx P' (ownL (l.take k) o.tx ++ [o]) (begD s k o.tx).seen (begD s k o.tx).wrote := fun P' hp => by
        have := Runs.skip o.what o.item (hrun.mono fun i f _ h => hp i f h) (by omega)
        exact this
      have hsame : VOk (k + 1) (openS s k o.tx) → InvV l (k + 1) (openS s k o.tx) := fun hok =>
        hput (begD s k o.tx) _ d4 rfl (by rw [openS_dput _ _ _ _ d4]; rfl) rfl rfl hok (fun P' hp _ => hskip P' hp) hseen
      split
      · rename_i h3
        split
        · rename_i hm
          intro hok
          have hm2 : sinceD (begD s k o.tx).began (doneD s) (readD (begD s k o.tx)) = false := by
            have h := hm
            change (!sinceD (begD s k o.tx).began (doneD (openS s k o.tx)) (readD (begD s k o.tx))) = true at h
            rw [doneD_put (s := s) (d := begD s k o.tx) (by rw [d4]; exact hnd) (openS s k o.tx) rfl rfl] at h
            simpa using h
          have hR : Runs o.tx (fun i f => f = s.last.getD (i.toNat - 1) 0) (ownL (l.take k) o.tx ++ [o]) (begD s k o.tx).seen (begD s k o.tx).wrote := by
            have := Runs.skip (P := fun i f => f = s.last.getD (i.toNat - 1) 0) o.what o.item (hrun.mono fun i f hm3 ⟨p1, p2, p3, p4⟩ => by
              rcases p4 with p4 | ⟨e, q1, q2, q3, q4⟩
              · exact p4
              · exfalso
                have h := List.any_eq_false.1 hm2 e (mem_doneD I.nodup q1 q2)
                apply h
                rw [Bool.and_eq_true]
                refine ⟨decide_eq_true q3, List.any_eq_true.2 ⟨i, q4, ?_⟩⟩
                refine List.any_eq_true.2 ⟨_, hm3, ?_⟩
                simp only [decide_true, Bool.true_and, Bool.not_eq_true', decide_eq_false_iff_not]
                exact p1) (by omega)
            exact this
          have hfull : ownL l o.tx = ownL (l.take k) o.tx ++ [o] := by
            rw [← hown1]
            refine (own_full fun j x hx ht => ?_).symm
            have := end_at hk hx k o ho ht.symm (by omega)
            omega
          have hsim := Runs.sim (la := s.last) I.ok.last hR (fun x hx hw => by
            have hxl : x ∈ l := by
              rw [← hfull] at hx
              exact (List.mem_filter.1 hx).1
            exact (rightB_get (okH_right hk x hxl)).2.2.2.2.1 hw) d1.items
          have hdn2 : ∀ t, t ∈ s.dn ++ [o.tx] ↔ t ∈ s.dn ∨ t = o.tx := fun t => by rw [List.mem_append, List.mem_singleton]
          have hdt : ({ begD s k o.tx with ended := (k : Int) } : Dl).tx = o.tx := d4
          refine ⟨hok, hnodup _ hdt, ?_, ?_, ?_, ?_, ?_, ?_, ?_, ?_⟩
          · intro t ht
            have ht2 : ¬(t ∈ s.ds.map (·.tx) ∨ t = o.tx) := fun h => ht ((htxs _ hdt t).2 h)
            rw [hown t (fun e => ht2 (.inr e))]
            exact I.own t (fun e => ht2 (.inl e))
          · intro d hd hdn
            have hdn3 := fun h => hdn ((hdn2 d.tx).2 h)
            rcases hmem _ hdt d hd with rfl | ⟨hd2, hne⟩
            · exact absurd (.inr hdt) hdn3
            · rw [hown _ hne]
              refine (I.runs d hd2 (fun h => hdn3 (.inl h))).mono fun i f _ ⟨p1, p2, p3, p4⟩ => ⟨p1, p2, p3, ?_⟩
              rcases p4 with p4 | ⟨e, q1, q2, q3, q4⟩
              · by_cases hi : i ∈ (begD s k o.tx).wrote
                · exact .inr ⟨_, mem_dput_self _ _, (hdn2 _).2 (.inr hdt), (I.ok.deals d hd2).began.2, hi⟩
                · refine .inl ?_
                  show f = (setsL o.tx (begD s k o.tx).wrote s.last).getD _ 0
                  rw [setsL_get I.ok.last d1.items p2 p3, if_neg hi]; exact p4
              · exact .inr ⟨e, hkeep _ hdt e q1 (fun h => hnd (by rw [← h]; exact q2)), (hdn2 _).2 (.inl q2), q3, q4⟩
          · intro t ht
            refine (htxs _ hdt t).2 ?_
            rcases (hdn2 t).1 ht with h | h
            · exact .inl (I.dnds t h)
            · exact .inr h
          · exact List.nodup_append.2 ⟨I.dnN, by simp, fun x hx y hy e => hnd (by rw [List.mem_singleton] at hy; rw [← hy, ← e]; exact hx)⟩
          · intro t ht
            rcases (hdn2 t).1 ht with h | h
            · exact hcom t h
            · exact ⟨k, by omega, by rw [h, ho]; exact congrArg some (rightB_end hr h3)⟩
          · intro x hx
            rcases setsL_mem hx with h | h
            · exact .inr ((hdn2 x).2 (.inr h))
            · rcases I.lastd x h with h | h
              · exact .inl h
              · exact .inr ((hdn2 x).2 (.inl h))
          · intro d hd x hx
            rcases hmem _ hdt d hd with rfl | ⟨hd2, hne⟩
            · rw [hdt]; exact hseen x hx
            · exact I.seen d hd2 x hx
          · have e1 : doneD { openS s k o.tx with ds := dput (openS s k o.tx).ds { begD s k o.tx with ended := (k : Int) }, dn := (openS s k o.tx).dn ++ [o.tx], last := setsL o.tx (begD s k o.tx).wrote (openS s k o.tx).last } = doneD s ++ [{ begD s k o.tx with ended := (k : Int) }] := by
              unfold doneD
              show (s.dn ++ [o.tx]).map _ = _
              rw [List.map_append]
              congr 1
              · refine List.map_congr_left fun t ht => ?_
                rw [openS_dput _ _ _ _ hdt, dget_put, if_neg (fun e => hnd (by rw [← hdt, e]; exact ht))]
              · show [(dget (dput (openS s k o.tx).ds { begD s k o.tx with ended := (k : Int) }) o.tx).getD _] = [_]
                rw [dget_put, if_pos hdt]; rfl
            rw [e1]
            have h := byD_snoc l { begD s k o.tx with ended := (k : Int) } (doneD s) _ _ I.by_ (by
              rw [hdt, hfull, hsim])
            rw [h, hdt, hfull, hsim]
            rfl
        · exact hsame
      · exact hsame
theorem inv_run {l : List HOp} (hk : okH l) : ∀ (r : List HOp) (k : Nat) (s : VSt), r = l.drop k → k ≤ l.length → InvV l k s → InvV l l.length (vrun validR k r s)
  | [], k, s, hr, hkl, I => by
    have hl : l.length = k := by
      have := congrArg List.length hr
      rw [List.length_nil, List.length_drop] at this; omega
    rw [hl]; exact I
  | o :: t, k, s, hr, hkl, I => by
    have ho : l[k]? = some o := by
      have := congrArg (·[0]?) hr
      rw [List.getElem?_drop] at this
      simpa using this.symm
    have ht : t = l.drop (k + 1) := by
      have h := drop_at ho
      rw [← hr] at h
      exact (List.cons.inj h).2
    exact inv_run hk t (k + 1) _ ht (List.getElem?_eq_some_iff.1 ho).1 (inv_step hk ho I)
/-- What is looked at when it ends goes as if deals came one behind the other, as they end. -/
theorem valid_serial {l : List HOp} (hk : okH l) : InvV l l.length (playV validR l) := inv_run hk l 0 vs00 rfl (Nat.zero_le _) (inv0 l)
end Go.Proofs.Ytigmgeaimcglhaa

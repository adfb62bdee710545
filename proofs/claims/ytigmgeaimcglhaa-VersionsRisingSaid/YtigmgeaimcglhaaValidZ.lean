
/-
  PLAIN LAWS: with versions: by their numbers (verR, InvM, ver_serial, ver_reader).
-/
import Derived.Test.YtigmgeaimcglhaaValidY
import Derived.Test.YtigmgeaimcglhaaValidR

namespace Go.Proofs.Ytigmgeaimcglhaa
open Go.RowKit

/-- Of those of lesser numbers that wrote an item the greatest. -/
def whoV (done : List Dl) (item below : Int) : Int := done.foldl (fun f d => if decide (d.tx < below) && decide (item ∈ d.wrote) then max f d.tx else f) 0
/-- With versions: a look is (item, from, by). -/
def verR : VRules := ⟨fun s d i => whoV (doneD s) i d.tx, fun s d i => s.looks ++ [⟨i, whoV (doneD s) i d.tx, d.tx⟩], fun s d => !s.looks.any fun q => decide (q.tx ∈ d.wrote) && decide (q.item > d.tx) && decide (q.what < d.tx)⟩
theorem whoV_snoc (l : List Dl) (d : Dl) (item below : Int) : whoV (l ++ [d]) item below = if decide (d.tx < below) && decide (item ∈ d.wrote) then max (whoV l item below) d.tx else whoV l item below := by unfold whoV; rw [List.foldl_append]; rfl
theorem whoV_spec (l : List Dl) (item below : Int) : (∀ d ∈ l, 1 ≤ d.tx) → (∀ d ∈ l, d.tx < below → item ∈ d.wrote → d.tx ≤ whoV l item below) ∧ (whoV l item below = 0 ∨ ∃ d ∈ l, d.tx = whoV l item below ∧ d.tx < below ∧ item ∈ d.wrote) := by
  induction l using snocRec with
  | nil => intro _; exact ⟨fun _ h => (by cases h), .inl rfl⟩
  | snoc l d ih =>
    intro h
    obtain ⟨h1, h2⟩ := ih fun x hx => h x (List.mem_append_left _ hx)
    rw [whoV_snoc]
    by_cases hc : d.tx < below ∧ item ∈ d.wrote
    · rw [decide_eq_true hc.1, decide_eq_true hc.2, Bool.and_self, if_pos rfl]
      refine ⟨fun x hx hb hi => ?_, ?_⟩
      · rcases List.mem_append.1 hx with hx | hx
        · have := h1 x hx hb hi; omega
        · rw [List.mem_singleton.1 hx]; omega
      · by_cases hm : whoV l item below ≤ d.tx
        · exact .inr ⟨d, by simp, by omega, hc.1, hc.2⟩
        · rcases h2 with h2 | ⟨x, hx, h3, h4⟩
          · have := h d (by simp); omega
          · exact .inr ⟨x, by simp [hx], by omega, h4⟩
    · have : (decide (d.tx < below) && decide (item ∈ d.wrote)) = false := by
        rw [Bool.and_eq_false_iff, decide_eq_false_iff_not, decide_eq_false_iff_not]
        by_cases hb : d.tx < below
        · exact .inr fun e => hc ⟨hb, e⟩
        · exact .inl hb
      rw [this, if_neg (by simp)]
      refine ⟨fun x hx hb hi => ?_, ?_⟩
      · rcases List.mem_append.1 hx with hx | hx
        · exact h1 x hx hb hi
        · rw [List.mem_singleton.1 hx] at hb hi; exact absurd ⟨hb, hi⟩ hc
      · rcases h2 with h2 | ⟨x, hx, h3⟩
        · exact .inl h2
        · exact .inr ⟨x, by simp [hx], h3⟩
/-- What a look found is still the greatest number below. -/
structure LookOk (ds : List Dl) (q : HOp) : Prop where
  top : ∀ e ∈ ds, e.tx < q.item → q.tx ∈ e.wrote → e.tx ≤ q.what
  is : q.what = 0 ∨ ∃ e ∈ ds, e.tx = q.what ∧ e.tx < q.item ∧ q.tx ∈ e.wrote
/-- A run with versions: its state, behind so many ops. -/
structure InvM (l : List HOp) (k : Nat) (s : VSt) : Prop where
  ok : VOk k s
  nodup : (s.ds.map (·.tx)).Nodup
  own : ∀ t, t ∉ s.ds.map (·.tx) → ownL (l.take k) t = []
  runs : ∀ d ∈ s.ds, Runs d.tx (fun i f => (⟨i, f, d.tx⟩ : HOp) ∈ s.looks) (ownL (l.take k) d.tx) d.seen d.wrote
  seen : ∀ d ∈ s.ds, ∀ x ∈ d.seen, x.tx = d.tx
  dnds : ∀ t ∈ s.dn, t ∈ s.ds.map (·.tx)
  dnN : s.dn.Nodup
  com : ∀ t ∈ s.dn, ∃ j : Nat, j < k ∧ l[j]? = some ⟨t, 3, 0⟩
  looks : ∀ q ∈ s.looks, LookOk (doneD s) q
theorem invM0 (l : List HOp) : InvM l 0 vs00 :=
  ⟨vok00, List.nodup_nil, fun t _ => by rw [List.take_zero]; rfl, fun _ h => (by cases h), fun _ h => (by cases h), fun _ h => (by cases h), List.nodup_nil, fun _ h => (by cases h), fun _ h => (by cases h)⟩
theorem invM_step {l : List HOp} (hk : okH l) {k : Nat} {o : HOp} (ho : l[k]? = some o) {s : VSt} (I : InvM l k s) : InvM l (k + 1) (vstep verR k o s) := by
  have hr := okH_right hk o (List.mem_of_getElem? ho)
  obtain ⟨t1, t2, w1, w4, h5, h6⟩ := rightB_get hr
  have hnd : o.tx ∉ s.dn := fun h => by
    obtain ⟨j, hj, hx⟩ := I.com _ h
    have := end_at hk ho j _ hx rfl (by show (3 : Int) ≤ 3; decide)
    omega
  have hok := vstep_ok (R := verR) (fun s d i => by show (s.looks ++ [_]).length ≤ _; simp) I.ok hr
  have hown : ∀ t, t ≠ o.tx → ownL (l.take (k + 1)) t = ownL (l.take k) t := fun t h => by rw [ownL_at ho, if_neg (fun e => h e.symm)]
  have hown1 : ownL (l.take (k + 1)) o.tx = ownL (l.take k) o.tx ++ [o] := by rw [ownL_at ho, if_pos rfl]
  obtain ⟨d1, d2, d3, d4⟩ := begD_ok (k := k) I.ok ⟨t1, t2⟩
  have hbeg : Runs o.tx (fun i f => (⟨i, f, o.tx⟩ : HOp) ∈ s.looks) (ownL (l.take k) o.tx) (begD s k o.tx).seen (begD s k o.tx).wrote ∧ ∀ x ∈ (begD s k o.tx).seen, x.tx = o.tx := by
    cases hd : dget s.ds o.tx with
    | none =>
      obtain ⟨e1, e2⟩ := openS_new (k := k) hd
      rw [e1, I.own _ e2]
      exact ⟨.nil, fun _ h => by cases h⟩
    | some d =>
      obtain ⟨_, e2⟩ := openS_has (k := k) hd
      obtain ⟨g1, g2⟩ := dget_tx hd
      rw [e2]
      have h1 := I.runs d g2
      have h2 := I.seen d g2
      rw [g1] at h1 h2
      exact ⟨h1, h2⟩
  obtain ⟨hrun, hseen⟩ := hbeg
  have hmem : ∀ (d' : Dl), d'.tx = o.tx → ∀ e ∈ dput (openS s k o.tx).ds d', e = d' ∨ (e ∈ s.ds ∧ e.tx ≠ o.tx) := fun d' hdt e he => by
    rw [openS_dput _ _ _ _ hdt] at he
    rcases mem_dputN I.nodup he with h | ⟨h, h2⟩
    · exact .inl h
    · exact .inr ⟨h, by rw [← hdt]; exact h2⟩
  have hnodup : ∀ (d' : Dl), d'.tx = o.tx → ((dput (openS s k o.tx).ds d').map (·.tx)).Nodup := fun d' hdt => by
    rw [openS_dput _ _ _ _ hdt]; exact dput_nodup I.nodup _
  have htxs : ∀ (d' : Dl), d'.tx = o.tx → ∀ t, t ∈ (dput (openS s k o.tx).ds d').map (·.tx) ↔ t ∈ s.ds.map (·.tx) ∨ t = o.tx := fun d' hdt t => by
    rw [openS_dput _ _ _ _ hdt, dput_txs, hdt]
    split
    · rename_i h
      exact ⟨.inl, fun h2 => h2.elim id fun e => by rw [e]; exact h⟩
    · rw [List.mem_append, List.mem_singleton]
  have hcom : ∀ t ∈ s.dn, ∃ j : Nat, j < k + 1 ∧ l[j]? = some ⟨t, 3, 0⟩ := fun t h => by
    obtain ⟨j, hj, hx⟩ := I.com t h
    exact ⟨j, by omega, hx⟩
  have hopen : doneD (openS s k o.tx) = doneD s := doneD_put (s := s) (d := begD s k o.tx) (by rw [d4]; exact hnd) _ rfl rfl
  have hdtx : ∀ d ∈ doneD s, 1 ≤ d.tx := fun d hd => ((I.ok.deals d (doneD_mem I.nodup I.dnds hd).1).tx).1
  have hput : ∀ (d' : Dl) (s' : VSt), d'.tx = o.tx → s'.ds = dput (openS s k o.tx).ds d' → s'.dn = s.dn → VOk (k + 1) s' → (∀ q ∈ s.looks, q ∈ s'.looks) → (∀ q ∈ s'.looks, LookOk (doneD s) q) →
      Runs o.tx (fun i f => (⟨i, f, o.tx⟩ : HOp) ∈ s'.looks) (ownL (l.take k) o.tx ++ [o]) d'.seen d'.wrote → (∀ x ∈ d'.seen, x.tx = o.tx) → InvM l (k + 1) s' := by
    intro d' s' hdt e1 e2 hok' hq hq2 hR hS
    have hdone : doneD s' = doneD s := doneD_put (s := s) (d := d') (by rw [hdt]; exact hnd) s' (by rw [e1, openS_dput _ _ _ _ hdt]) e2
    refine ⟨hok', by rw [e1]; exact hnodup d' hdt, ?_, ?_, ?_, ?_, by rw [e2]; exact I.dnN, by rw [e2]; exact hcom, by rw [hdone]; exact hq2⟩
    · intro t ht
      rw [e1, htxs d' hdt] at ht
      rw [hown t (fun e => ht (.inr e))]
      exact I.own t (fun e => ht (.inl e))
    · intro d hd
      rw [e1] at hd
      rcases hmem d' hdt d hd with rfl | ⟨hd2, hne⟩
      · rw [hdt, hown1]; exact hR
      · rw [hown _ hne]; exact (I.runs d hd2).mono fun i f _ h => hq _ h
    · intro d hd x hx
      rw [e1] at hd
      rcases hmem d' hdt d hd with rfl | ⟨hd2, hne⟩
      · rw [hdt]; exact hS x hx
      · exact I.seen d hd2 x hx
    · intro t ht
      rw [e2] at ht
      rw [e1, htxs d' hdt]
      exact .inl (I.dnds t ht)
  revert hok
  unfold vstep
  simp only
  split
  · rename_i h1
    have hoe : o = ⟨o.tx, 1, o.item⟩ := by
      obtain ⟨a, b, c⟩ := o
      simp only at h1 ⊢
      rw [h1]
    split
    · rename_i hin
      intro hok
      refine hput { begD s k o.tx with seen := (begD s k o.tx).seen ++ [⟨o.tx, o.item, o.tx⟩] } _ d4 rfl rfl hok (fun _ h => h) I.looks ?_ (fun x hx => ?_)
      · have := Runs.own o.item hrun hin
        rw [← hoe] at this
        exact this
      · rcases List.mem_append.1 hx with hx | hx
        · exact hseen x hx
        · rw [List.mem_singleton.1 hx]
    · rename_i hin
      intro hok
      have hW : verR.see (openS s k o.tx) (begD s k o.tx) o.item = whoV (doneD s) o.item o.tx := by
        show whoV (doneD (openS s k o.tx)) o.item (begD s k o.tx).tx = _
        rw [hopen, d4]
      have hL : verR.look (openS s k o.tx) (begD s k o.tx) o.item = s.looks ++ [⟨o.item, whoV (doneD s) o.item o.tx, o.tx⟩] := by
        show s.looks ++ [⟨o.item, whoV (doneD (openS s k o.tx)) o.item (begD s k o.tx).tx, (begD s k o.tx).tx⟩] = _
        rw [hopen, d4]
      rw [hW, hL] at hok ⊢
      obtain ⟨v1, v2⟩ := whoV_spec (doneD s) o.item o.tx hdtx
      refine hput { begD s k o.tx with seen := (begD s k o.tx).seen ++ [⟨o.tx, o.item, whoV (doneD s) o.item o.tx⟩] } _ d4 rfl rfl hok (fun q h => List.mem_append_left _ h) (fun q hq => ?_) ?_ (fun x hx => ?_)
      · rcases List.mem_append.1 hq with hq | hq
        · exact I.looks q hq
        · rw [List.mem_singleton.1 hq]
          exact ⟨v1, v2⟩
      · have := Runs.other o.item (whoV (doneD s) o.item o.tx) (hrun.mono (P' := fun i f => (⟨i, f, o.tx⟩ : HOp) ∈ s.looks ++ [⟨o.item, whoV (doneD s) o.item o.tx, o.tx⟩]) fun i f _ h => List.mem_append_left _ h) hin (by simp)
        rw [← hoe] at this
        exact this
      · rcases List.mem_append.1 hx with hx | hx
        · exact hseen x hx
        · rw [List.mem_singleton.1 hx]
  · split
    · rename_i h1 h2
      have hoe : o = ⟨o.tx, 2, o.item⟩ := by
        obtain ⟨a, b, c⟩ := o
        simp only at h2 ⊢
        rw [h2]
      intro hok
      refine hput { begD s k o.tx with wrote := (begD s k o.tx).wrote ++ [o.item] } _ d4 rfl rfl hok (fun _ h => h) I.looks ?_ hseen
      have := Runs.write o.item hrun
      rw [← hoe] at this
      exact this
    · rename_i h1 h2
      have hskip : Runs o.tx (fun i f => (⟨i, f, o.tx⟩ : HOp) ∈ s.looks) (ownL (l.take k) o.tx ++ [o]) (begD s k o.tx).seen (begD s k o.tx).wrote := Runs.skip o.what o.item hrun (by omega)
      have hsame : VOk (k + 1) (openS s k o.tx) → InvM l (k + 1) (openS s k o.tx) := fun hok =>
        hput (begD s k o.tx) _ d4 (by rw [openS_dput _ _ _ _ d4]; rfl) rfl hok (fun _ h => h) I.looks hskip hseen
      split
      · rename_i h3
        split
        · rename_i hm
          intro hok
          have hm3 : ∀ q ∈ s.looks, q.tx ∈ (begD s k o.tx).wrote → o.tx < q.item → o.tx ≤ q.what := fun q hq h1 h2 => by
            change (!(openS s k o.tx).looks.any _) = true at hm
            rw [Bool.not_eq_true', List.any_eq_false] at hm
            have := hm q hq
            simp only [Bool.and_eq_true, decide_eq_true_eq, not_and, d4] at this
            have := this ⟨h1, h2⟩
            omega
          have hdn2 : ∀ t, t ∈ s.dn ++ [o.tx] ↔ t ∈ s.dn ∨ t = o.tx := fun t => by rw [List.mem_append, List.mem_singleton]
          have hdt : ({ begD s k o.tx with ended := (k : Int) } : Dl).tx = o.tx := d4
          have e1 : doneD { openS s k o.tx with ds := dput (openS s k o.tx).ds { begD s k o.tx with ended := (k : Int) }, dn := (openS s k o.tx).dn ++ [o.tx], last := setsL o.tx (begD s k o.tx).wrote (openS s k o.tx).last } = doneD s ++ [{ begD s k o.tx with ended := (k : Int) }] := by
            unfold doneD
            show (s.dn ++ [o.tx]).map _ = _
            rw [List.map_append]
            congr 1
            · refine List.map_congr_left fun t ht => ?_
              rw [openS_dput _ _ _ _ hdt, dget_put, if_neg (fun e => hnd (by rw [← hdt, e]; exact ht))]
            · show [(dget (dput (openS s k o.tx).ds { begD s k o.tx with ended := (k : Int) }) o.tx).getD _] = [_]
              rw [dget_put, if_pos hdt]; rfl
          refine ⟨hok, hnodup _ hdt, ?_, ?_, ?_, ?_, ?_, ?_, ?_⟩
          · intro t ht
            have ht2 : ¬(t ∈ s.ds.map (·.tx) ∨ t = o.tx) := fun h => ht ((htxs _ hdt t).2 h)
            rw [hown t (fun e => ht2 (.inr e))]
            exact I.own t (fun e => ht2 (.inl e))
          · intro d hd
            rcases hmem _ hdt d hd with rfl | ⟨hd2, hne⟩
            · rw [hdt, hown1]; exact hskip
            · rw [hown _ hne]; exact I.runs d hd2
          · intro d hd x hx
            rcases hmem _ hdt d hd with rfl | ⟨hd2, hne⟩
            · rw [hdt]; exact hseen x hx
            · exact I.seen d hd2 x hx
          · intro t ht
            refine (htxs _ hdt t).2 ?_
            rcases (hdn2 t).1 ht with h | h
            · exact .inl (I.dnds t h)
            · exact .inr h
          · exact List.nodup_append.2 ⟨I.dnN, by simp, fun x hx y hy e => hnd (by rw [List.mem_singleton] at hy; rw [← hy, ← e]; exact hx)⟩
          · intro t ht
            rcases (hdn2 t).1 ht with h | h
            · exact hcom t h
            · exact ⟨k, by omega, by rw [h, ho]; exact congrArg some (rightB_end hr h3)⟩
          · intro q hq
            rw [e1]
            obtain ⟨q1, q2⟩ := I.looks q hq
            refine ⟨fun e he h1 h2 => ?_, ?_⟩
            · rcases List.mem_append.1 he with he | he
              · exact q1 e he h1 h2
              · rw [List.mem_singleton.1 he] at h1 h2 ⊢
                rw [hdt] at h1 ⊢
                exact hm3 q hq h2 h1
            · rcases q2 with q2 | ⟨e, he, h⟩
              · exact .inl q2
              · exact .inr ⟨e, List.mem_append_left _ he, h⟩
        · exact hsame
      · exact hsame
theorem invM_run {l : List HOp} (hk : okH l) : ∀ (r : List HOp) (k : Nat) (s : VSt), r = l.drop k → k ≤ l.length → InvM l k s → InvM l l.length (vrun verR k r s)
  | [], k, s, hr, hkl, I => by
    have hl : l.length = k := by
      have := congrArg List.length hr
      rw [List.length_nil, List.length_drop] at this; omega
    rw [hl]; exact I
  | o :: t, k, s, hr, hkl, I => by
    obtain ⟨ho, ht, hlt⟩ := at_drop hr
    exact invM_run hk t (k + 1) _ ht hlt (invM_step hk ho I)
theorem ver_inv {l : List HOp} (hk : okH l) : InvM l l.length (playV verR l) := invM_run hk l 0 vs00 rfl (Nat.zero_le _) (invM0 l)
/-- By their numbers. -/
theorem ver_serial {l : List HOp} (hk : okH l) {q : List Dl} (hm : ∀ x, x ∈ q ↔ x ∈ doneD (playV verR l)) (hs : q.Pairwise fun a b => a.tx < b.tx) : byD l q [0, 0, 0, 0, 0, 0] = some (lastOf q) := by
  have I := ver_inv hk
  generalize playV verR l = s at *
  have hds : ∀ x ∈ q, x ∈ s.ds := fun x hx => (doneD_mem I.nodup I.dnds ((hm x).1 hx)).1
  have hitems : ∀ d ∈ q, ∀ j ∈ d.wrote, 1 ≤ j ∧ j ≤ 6 := fun d hd => (I.ok.deals d (hds d hd)).items
  refine byD_lastOf hk q hitems fun p d r e => ?_
  have hd : d ∈ q := by rw [e]; simp
  have hr := I.runs d (hds d hd)
  rw [List.take_length] at hr
  have hp1 : ∀ x ∈ p, x ∈ q := fun x hx => by rw [e]; simp [hx]
  rw [e, List.pairwise_append, List.pairwise_cons] at hs
  have hseen : ∀ {ops seen : List HOp} {wrote : List Int} {P : Int → Int → Prop}, Runs d.tx P ops seen wrote → ∀ x ∈ seen, (⟨d.tx, 1, x.what⟩ : HOp) ∈ ops := by
    intro ops seen wrote P h
    induction h with
    | nil => intro x hx; cases hx
    | own j _ hi ih =>
      intro x hx
      rcases List.mem_append.1 hx with hx | hx
      · exact List.mem_append_left _ (ih x hx)
      · rw [List.mem_singleton.1 hx]; simp
    | other j f _ hi hP ih =>
      intro x hx
      rcases List.mem_append.1 hx with hx | hx
      · exact List.mem_append_left _ (ih x hx)
      · rw [List.mem_singleton.1 hx]; simp
    | write j _ ih => intro x hx; exact List.mem_append_left _ (ih x hx)
    | skip w j _ hw ih => intro x hx; exact List.mem_append_left _ (ih x hx)
  refine hr.mono fun i f hx hf => ?_
  have hi := (rightB_get (okH_right hk _ (List.mem_filter.1 (hseen hr _ hx)).1)).2.2.2.2.1 (by show (1 : Int) < 3; decide)
  simp only at hi
  obtain ⟨q1, q2⟩ := I.looks _ hf
  simp only at q1 q2
  rw [lastOf_get hi.1 hi.2 _ fun x hx => hitems x (hp1 x hx)]
  have hpm : ∀ x ∈ q, x.tx < d.tx → x ∈ p := fun x hx hlt => by
    rw [e] at hx
    rcases List.mem_append.1 hx with h | h
    · exact h
    · rcases List.mem_cons.1 h with h | h
      · rw [h] at hlt; omega
      · have := hs.2.1.1 x h; omega
  cases hg : (p.filter fun d => decide (i ∈ d.wrote)).getLast? with
  | none =>
    show f = 0
    rcases q2 with q2 | ⟨x, hx, h1, h2, h3⟩
    · exact q2
    · have hxp := hpm x ((hm x).2 hx) h2
      rw [List.getLast?_eq_none_iff, List.filter_eq_nil_iff] at hg
      exact absurd (decide_eq_true h3) (hg x hxp)
  | some x =>
    show f = x.tx
    obtain ⟨l', hl'⟩ := List.getLast?_eq_some_iff.1 hg
    have hxm : x ∈ p.filter fun d => decide (i ∈ d.wrote) := by rw [hl']; simp
    obtain ⟨hx1, hx2⟩ := List.mem_filter.1 hxm
    have h1 := q1 x ((hm x).1 (hp1 x hx1)) (hs.2.2 x hx1 d List.mem_cons_self) (of_decide_eq_true hx2)
    rcases q2 with q2 | ⟨y, hy, g1, g2, g3⟩
    · have := ((I.ok.deals x (hds x (hp1 x hx1))).tx).1
      omega
    · have hyp := hpm y ((hm y).2 hy) g2
      have hym : y ∈ p.filter fun d => decide (i ∈ d.wrote) := List.mem_filter.2 ⟨hyp, decide_eq_true g3⟩
      have hpw := hs.1.filter (fun d => decide (i ∈ d.wrote))
      rw [hl', List.pairwise_append] at hpw
      rw [hl'] at hym
      rcases List.mem_append.1 hym with h | h
      · have := hpw.2.2 y h x List.mem_cons_self
        omega
      · rw [List.mem_singleton.1 h] at g1; exact g1.symm
theorem ver_may_now (s : VSt) {d : Dl} (h : d.wrote = []) : verR.may s d = true := by
  show (!s.looks.any _) = true
  rw [h]
  simp
theorem ver_reader {tx : Int} : ∀ (l : List HOp) (k : Nat) (s : VSt), NoW s tx → (∀ o ∈ l, o.tx = tx → o.what ≠ 2) → (∃ o ∈ l, o.tx = tx ∧ o.what = 3) → tx ∈ (vrun verR k l s).dn
  | [], _, _, _, _, h => by obtain ⟨_, h, _⟩ := h; cases h
  | o :: l, k, s, hs, hw, hc => by
    show tx ∈ (vrun verR (k + 1) l (vstep verR k o s)).dn
    by_cases h3 : o.tx = tx ∧ o.what = 3
    · obtain ⟨rfl, h3⟩ := h3
      exact vrun_dn l _ _ (vstep_commit h3 (ver_may_now _ (begD_now hs k)))
    · refine ver_reader l (k + 1) _ (vstep_now hs (hw o List.mem_cons_self)) (fun x hx => hw x (List.mem_cons_of_mem _ hx)) ?_
      obtain ⟨x, hx, h1, h2⟩ := hc
      rcases List.mem_cons.1 hx with rfl | hx
      · exact absurd ⟨h1, h2⟩ h3
      · exact ⟨x, hx, h1, h2⟩
end Go.Proofs.Ytigmgeaimcglhaa

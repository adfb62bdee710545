
/-
  PLAIN LAWS: the reference's run (laneref2.Run) as rules by kind (refR); they are the program's rules.
  PLAIN: a step of a run, case by case; who wrote since.
  PLAIN LAW: by numbers, the reference's way and the program's.
-/
import Derived.Test.YtfmdeahblaikoaaDoorValidAE
import Derived.Test.YtfmdeahblaikoaaDoorVQ3
import Derived.Test.YtfmdeahblaikoaaDoorVQ2

namespace Go.Proofs.YtfmdeahblaikoaaDoor
open Go.RowKit

/-- Who of those that ended by a time wrote an item last; below: of those of a lesser number the greatest. -/
def whoStep (item time below f : Int) (d : Dl) : Int := if item ∈ d.wrote ∧ d.ended < time then (if below = 0 then d.tx else if d.tx < below ∧ f < d.tx then d.tx else f) else f
def whoT (done : List Dl) (item time below : Int) : Int := done.foldl (whoStep item time below) 0
/-- The reference's rules, by kind. -/
def refR (kind : Int) : VRules where
  see s d i := if kind = 1 then whoT (doneD s) i 1000 0 else if kind = 4 then whoT (doneD s) i 1000 d.tx else whoT (doneD s) i d.began 0
  look s d i := if kind = 4 then s.looks ++ [⟨d.tx, i, whoT (doneD s) i 1000 d.tx⟩] else s.looks
  may s d := !(decide (kind < 4) && sinceD d.began (doneD s) (fun i => if kind > 1 then decide (i ∈ d.wrote) else readD d i)) && !(decide (kind = 4) && s.looks.any fun q => decide (q.what ∈ d.wrote) && decide (d.tx < q.tx) && decide (q.item < d.tx)) && (!decide (kind = 3) || (pivsD (doneD s ++ [d])).isEmpty)
theorem refR_look (kind : Int) (s : VSt) (d : Dl) (i : Int) : ((refR kind).look s d i).length ≤ s.looks.length + 1 := by
  show (if kind = 4 then _ else _ : List HOp).length ≤ _
  split <;> simp
theorem refR_see1 (s : VSt) (d : Dl) (i : Int) : (refR 1).see s d i = whoT (doneD s) i 1000 0 := by simp [refR]
theorem refR_see4 (s : VSt) (d : Dl) (i : Int) : (refR 4).see s d i = whoT (doneD s) i 1000 d.tx := by simp [refR]
theorem refR_see {kind : Int} (h1 : kind ≠ 1) (h4 : kind ≠ 4) (s : VSt) (d : Dl) (i : Int) : (refR kind).see s d i = whoT (doneD s) i d.began 0 := by simp [refR, h1, h4]
theorem refR_look4 (s : VSt) (d : Dl) (i : Int) : (refR 4).look s d i = s.looks ++ [⟨d.tx, i, whoT (doneD s) i 1000 d.tx⟩] := by simp [refR]
theorem refR_lookN {kind : Int} (h4 : kind ≠ 4) (s : VSt) (d : Dl) (i : Int) : (refR kind).look s d i = s.looks := by simp [refR, h4]
theorem refR_may4 (s : VSt) (d : Dl) : (refR 4).may s d = !s.looks.any fun q => decide (q.what ∈ d.wrote) && decide (d.tx < q.tx) && decide (q.item < d.tx) := by
  simp [refR]
theorem refR_may1 (s : VSt) (d : Dl) : (refR 1).may s d = !sinceD d.began (doneD s) (readD d) := by
  show (!(decide ((1 : Int) < 4) && sinceD _ _ fun i => if (1 : Int) > 1 then decide (i ∈ d.wrote) else readD d i) && !(decide ((1 : Int) = 4) && _) && (!decide ((1 : Int) = 3) || _)) = _
  simp
theorem refR_may2 (s : VSt) (d : Dl) : (refR 2).may s d = !sinceD d.began (doneD s) (fun i => decide (i ∈ d.wrote)) := by
  show (!(decide ((2 : Int) < 4) && sinceD _ _ fun i => if (2 : Int) > 1 then decide (i ∈ d.wrote) else readD d i) && !(decide ((2 : Int) = 4) && _) && (!decide ((2 : Int) = 3) || _)) = _
  simp
theorem refR_may3 (s : VSt) (d : Dl) : (refR 3).may s d = (!sinceD d.began (doneD s) (fun i => decide (i ∈ d.wrote)) && (pivsD (doneD s ++ [d])).isEmpty) := by
  show (!(decide ((3 : Int) < 4) && sinceD _ _ fun i => if (3 : Int) > 1 then decide (i ∈ d.wrote) else readD d i) && !(decide ((3 : Int) = 4) && _) && (!decide ((3 : Int) = 3) || _)) = _
  simp
theorem who_time {done : List Dl} {item t1 t2 below : Int} (h : ∀ d ∈ done, d.ended < t1 ∧ d.ended < t2) : whoT done item t1 below = whoT done item t2 below := by
  unfold whoT
  suffices ∀ (l : List Dl) (f : Int), (∀ d ∈ l, d.ended < t1 ∧ d.ended < t2) → l.foldl (whoStep item t1 below) f = l.foldl (whoStep item t2 below) f from this done 0 h
  intro l
  induction l with
  | nil => intro _ _; rfl
  | cons d t ih =>
    intro f h
    have e : whoStep item t1 below f d = whoStep item t2 below f d := by
      have := h d List.mem_cons_self
      unfold whoStep
      simp only [this.1, this.2]
    rw [List.foldl_cons, List.foldl_cons, e]
    exact ih _ fun x hx => h x (List.mem_cons_of_mem _ hx)
theorem whoT_snoc (l : List Dl) (d : Dl) (item time below : Int) : whoT (l ++ [d]) item time below = whoStep item time below (whoT l item time below) d := by
  unfold whoT; rw [List.foldl_append]; rfl
theorem who_last (item time : Int) (l : List Dl) : whoT l item time 0 = (((l.filter fun d => decide (d.ended < time) && decide (item ∈ d.wrote)).getLast?).map (·.tx)).getD 0 := by
  induction l using snocRec with
  | nil => rfl
  | snoc l d ih =>
    rw [whoT_snoc, List.filter_append]
    unfold whoStep
    by_cases h : item ∈ d.wrote ∧ d.ended < time
    · rw [if_pos h, if_pos rfl]
      have e : List.filter (fun d => decide (d.ended < time) && decide (item ∈ d.wrote)) [d] = [d] := by simp [h.1, h.2]
      rw [e, List.getLast?_append]
      rfl
    · rw [if_neg h, ih]
      have e : List.filter (fun d => decide (d.ended < time) && decide (item ∈ d.wrote)) [d] = [] := by
        simp only [List.filter_cons, List.filter_nil]
        rw [if_neg]
        simp only [Bool.and_eq_true, decide_eq_true_eq]
        exact fun ⟨h1, h2⟩ => h ⟨h2, h1⟩
      rw [e, List.append_nil]
theorem who_ver (item below : Int) (l : List Dl) (hb : 1 ≤ below) (h : ∀ d ∈ l, d.ended < 1000) : whoT l item 1000 below = whoV l item below := by
  induction l using snocRec with
  | nil => rfl
  | snoc l d ih =>
    rw [whoT_snoc, whoV_snoc, ih fun x hx => h x (List.mem_append_left _ hx)]
    unfold whoStep
    have hd := h d (List.mem_append_right _ List.mem_cons_self)
    rw [if_neg (show ¬ below = 0 by omega)]
    by_cases h1 : item ∈ d.wrote
    · rw [if_pos ⟨h1, hd⟩]
      by_cases h2 : d.tx < below
      · have e : (decide (d.tx < below) && decide (item ∈ d.wrote)) = true := by rw [decide_eq_true h1, decide_eq_true h2]; rfl
        rw [e, if_pos (rfl : true = true)]
        by_cases h3 : whoV l item below < d.tx
        · rw [if_pos ⟨h2, h3⟩]; omega
        · rw [if_neg (fun e => h3 e.2)]; omega
      · have e : (decide (d.tx < below) && decide (item ∈ d.wrote)) = false := by rw [decide_eq_false h2]; rfl
        rw [e, if_neg (show ¬(d.tx < below ∧ whoV l item below < d.tx) from fun e => h2 e.1), if_neg Bool.false_ne_true]
    · rw [if_neg (fun e => h1 e.1), if_neg (by simp [h1])]

/-! ### What any run keeps. -/
structure InvG (l : List HOp) (k : Nat) (s : VSt) : Prop where
  ok : VOk k s
  nodup : (s.ds.map (·.tx)).Nodup
  dnds : ∀ t ∈ s.dn, t ∈ s.ds.map (·.tx)
  dnN : s.dn.Nodup
  com : ∀ t ∈ s.dn, ∃ j : Nat, j < k ∧ l[j]? = some ⟨t, 3, 0⟩
  last : s.last = lastOf (doneD s)
theorem invG0 (l : List HOp) : InvG l 0 vs00 := ⟨vok00, List.nodup_nil, fun _ h => (by cases h), List.nodup_nil, fun _ h => (by cases h), rfl⟩
section
variable {l : List HOp} {k : Nat} {o : HOp} {s : VSt} {R : VRules}
theorem InvG.new (hk : okH l) (ho : l[k]? = some o) (I : InvG l k s) : o.tx ∉ s.dn := fun h => by
  obtain ⟨j, hj, hx⟩ := I.com _ h
  have := end_at hk ho j _ hx rfl (by show (3 : Int) ≤ 3; decide)
  omega
theorem InvG.openS (hk : okH l) (ho : l[k]? = some o) (I : InvG l k s) : doneD (openS s k o.tx) = doneD s ∧ ((Go.Proofs.YtfmdeahblaikoaaDoor.openS s k o.tx).ds.map (·.tx)).Nodup := by
  have hnd := I.new hk ho
  exact ⟨doneD_put (s := s) (d := begD s k o.tx) (by rw [begD_tx]; exact hnd) _ rfl rfl, dput_nodup I.nodup _⟩
theorem InvG.step (hk : okH l) (hR : ∀ s d i, (R.look s d i).length ≤ s.looks.length + 1) (ho : l[k]? = some o) (I : InvG l k s) : InvG l (k + 1) (vstep R k o s) := by
  have hr := okH_right hk o (List.mem_of_getElem? ho)
  have hnd := I.new hk ho
  have d4 := begD_tx s k o.tx
  have hmem : ∀ (d' : Dl), d'.tx = o.tx → ∀ t ∈ s.dn, t ∈ (dput s.ds d').map (·.tx) := fun d' _ t ht => by
    have := I.dnds t ht
    rw [dput_txs]; split
    · exact this
    · exact List.mem_append_left _ this
  have key : ∀ (d' : Dl) (s' : VSt), d'.tx = o.tx → s'.ds = dput (Go.Proofs.YtfmdeahblaikoaaDoor.openS s k o.tx).ds d' → s'.dn = s.dn → s'.last = s.last → VOk (k + 1) s' → InvG l (k + 1) s' := fun d' s' hdt e1 e2 e3 hok => by
    rw [openS_dput _ _ _ _ hdt] at e1
    have hD := doneD_put (s := s) (d := d') (by rw [hdt]; exact hnd) s' e1 e2
    refine ⟨hok, by rw [e1]; exact dput_nodup I.nodup _, fun t ht => by rw [e1]; rw [e2] at ht; exact hmem d' hdt t ht, by rw [e2]; exact I.dnN, fun t ht => ?_, by rw [e3, hD]; exact I.last⟩
    rw [e2] at ht
    obtain ⟨j, hj, hx⟩ := I.com t ht
    exact ⟨j, by omega, hx⟩
  have hok := vstep_ok (R := R) hR I.ok hr
  revert hok
  unfold vstep
  simp only
  split
  · split
    · exact fun hok => key { begD s k o.tx with seen := (begD s k o.tx).seen ++ [⟨o.tx, o.item, o.tx⟩] } _ d4 rfl rfl rfl hok
    · exact fun hok => key { begD s k o.tx with seen := (begD s k o.tx).seen ++ [⟨o.tx, o.item, R.see (Go.Proofs.YtfmdeahblaikoaaDoor.openS s k o.tx) (begD s k o.tx) o.item⟩] } _ d4 rfl rfl rfl hok
  · split
    · exact fun hok => key { begD s k o.tx with wrote := (begD s k o.tx).wrote ++ [o.item] } _ d4 rfl rfl rfl hok
    · split
      · split
        · rename_i h1 h2 h3 h4
          intro hok
          have hdt : ({ begD s k o.tx with ended := (k : Int) } : Dl).tx = o.tx := d4
          have e1 : dput (Go.Proofs.YtfmdeahblaikoaaDoor.openS s k o.tx).ds { begD s k o.tx with ended := (k : Int) } = dput s.ds { begD s k o.tx with ended := (k : Int) } := openS_dput _ _ _ _ hdt
          refine ⟨hok, by simp only [e1]; exact dput_nodup I.nodup _, fun t ht => ?_, ?_, fun t ht => ?_, ?_⟩
          · simp only [e1]
            rcases List.mem_append.1 ht with ht | ht
            · exact hmem _ hdt t ht
            · rw [List.mem_singleton.1 ht]
              exact List.mem_map.2 ⟨_, mem_dput_self _ _, hdt⟩
          · show (s.dn ++ [o.tx]).Nodup
            exact List.nodup_append.2 ⟨I.dnN, by simp, fun x hx y hy e => hnd (by rw [List.mem_singleton] at hy; rw [← hy, ← e]; exact hx)⟩
          · rcases List.mem_append.1 ht with ht | ht
            · obtain ⟨j, hj, hx⟩ := I.com t ht
              exact ⟨j, by omega, hx⟩
            · rw [List.mem_singleton.1 ht]
              exact ⟨k, by omega, by rw [ho, rightB_end hr h3]⟩
          · show setsL o.tx (begD s k o.tx).wrote s.last = lastOf (((s.dn ++ [o.tx]).map _))
            have e2 : (s.dn ++ [o.tx]).map (fun t => (dget (dput (Go.Proofs.YtfmdeahblaikoaaDoor.openS s k o.tx).ds { begD s k o.tx with ended := (k : Int) }) t).getD ⟨t, 0, 0, [], [], []⟩) = doneD s ++ [{ begD s k o.tx with ended := (k : Int) }] := by
              rw [List.map_append]
              congr 1
              · refine List.map_congr_left fun t ht => ?_
                rw [e1, dget_put, if_neg (fun e => hnd (by rw [← hdt, e]; exact ht))]
              · rw [List.map_singleton, e1, dget_put, if_pos hdt]; rfl
            rw [e2, lastOf_snoc, ← I.last, hdt]
        · exact fun hok => key (begD s k o.tx) _ d4 (by rw [openS_dput _ _ _ _ d4]; rfl) rfl rfl hok
      · exact fun hok => key (begD s k o.tx) _ d4 (by rw [openS_dput _ _ _ _ d4]; rfl) rfl rfl hok
end
theorem invG_run {R : VRules} (hR : ∀ s d i, (R.look s d i).length ≤ s.looks.length + 1) {l : List HOp} (hk : okH l) : ∀ (r : List HOp) (k : Nat) (s : VSt), r = l.drop k → k ≤ l.length → InvG l k s → InvG l l.length (vrun R k r s)
  | [], k, s, hr, hle, I => by
    have : k = l.length := by have := congrArg List.length hr; simp at this; omega
    subst this; exact I
  | o :: r, k, s, hr, hle, I => by
    obtain ⟨ho, hr2, hlt⟩ := at_drop hr
    exact invG_run hR hk r (k + 1) _ hr2 hlt (I.step hk hR ho)
theorem invG_play {R : VRules} (hR : ∀ s d i, (R.look s d i).length ≤ s.looks.length + 1) {l : List HOp} (hk : okH l) : InvG l l.length (playV R l) := invG_run hR hk l 0 vs00 rfl (Nat.zero_le _) (invG0 l)
theorem doneD_ended {k : Nat} {s : VSt} (hok : VOk k s) (hn : (s.ds.map (·.tx)).Nodup) (hs : ∀ t ∈ s.dn, t ∈ s.ds.map (·.tx)) : ∀ d ∈ doneD s, d.ended < k ∧ (∀ i ∈ d.wrote, 1 ≤ i ∧ i ≤ 6) := fun d hd =>
  have h := hok.deals d (doneD_mem hn hs hd).1
  ⟨h.ended.2, h.items⟩

/-! ### Two runs whose rules agree. -/
def mapLooks (g : HOp → HOp) (s : VSt) : VSt := { s with looks := s.looks.map g }
theorem vstep_sim {R R' : VRules} {k : Nat} {o : HOp} {s : VSt} (g : HOp → HOp)
    (h1 : o.what = 1 → R'.see (mapLooks g (openS s k o.tx)) (begD s k o.tx) o.item = R.see (openS s k o.tx) (begD s k o.tx) o.item)
    (h2 : o.what = 1 → R'.look (mapLooks g (openS s k o.tx)) (begD s k o.tx) o.item = (R.look (openS s k o.tx) (begD s k o.tx) o.item).map g)
    (h3 : o.what = 3 → R'.may (mapLooks g (openS s k o.tx)) (begD s k o.tx) = R.may (openS s k o.tx) (begD s k o.tx)) : vstep R' k o (mapLooks g s) = mapLooks g (vstep R k o s) := by
  have e1 : begD (mapLooks g s) k o.tx = begD s k o.tx := rfl
  have e2 : openS (mapLooks g s) k o.tx = mapLooks g (openS s k o.tx) := rfl
  unfold vstep
  simp only [e1, e2]
  split
  · rename_i hw
    rw [h1 hw, h2 hw]
    split <;> rfl
  · split
    · rfl
    · split
      · rename_i hw
        rw [h3 hw]
        split <;> rfl
      · rfl
/-! ### The reference's rules are the program's. -/
def gId (q : HOp) : HOp := q
theorem mapLooks_nil {g : HOp → HOp} {s : VSt} (h : s.looks = []) : mapLooks g s = s := by
  unfold mapLooks; rw [h]; cases s; cases h; rfl
/-- What a deal that goes on knows. -/
theorem InvS.begSnap {l : List HOp} {k : Nat} {s : VSt} (I : InvS l k s) (tx : Int) : (begD s k tx).snap = lastOf ((doneD s).filter fun e => decide (e.ended < (begD s k tx).began)) := by
  cases hd : dget s.ds tx with
  | none =>
    rw [(openS_new (k := k) hd).1]
    show s.last = _
    rw [I.last]
    congr 1
    symm
    rw [List.filter_eq_self]
    intro e he
    exact decide_eq_true (I.done_at he).2.2.2.2.1
  | some d =>
    rw [(openS_has (k := k) hd).2]
    exact I.snap d (dget_tx hd).2
theorem who_snap {l : List Dl} {t : Int} {i : Int} (hi : 1 ≤ i) (hi2 : i ≤ 6) (hw : ∀ d ∈ l, ∀ j ∈ d.wrote, 1 ≤ j ∧ j ≤ 6) : whoT l i t 0 = (lastOf (l.filter fun e => decide (e.ended < t))).getD (i.toNat - 1) 0 := by
  rw [who_last, lastOf_get hi hi2 _ (fun d hd => hw d (List.mem_filter.1 hd).1), List.filter_filter]
  have : (fun d : Dl => decide (d.ended < t) && decide (i ∈ d.wrote)) = fun a => decide (i ∈ a.wrote) && decide (a.ended < t) := funext fun _ => Bool.and_comm _ _
  rw [this]
theorem openS_doneD {l : List HOp} (hk : okH l) {k : Nat} {o : HOp} (ho : l[k]? = some o) {s : VSt} (I : InvG l k s) : doneD (openS s k o.tx) = doneD s :=
  (I.openS hk ho).1
theorem validR_see {l : List HOp} (hk : okH l) {k : Nat} {o : HOp} (ho : l[k]? = some o) (hk40 : k < 1000) {s : VSt} (I : InvG l k s) {d : Dl} {i : Int} (hi : 1 ≤ i) (hi2 : i ≤ 6) : (refR 1).see (openS s k o.tx) d i = validR.see (openS s k o.tx) d i := by
  rw [refR_see1, openS_doneD hk ho I]
  show _ = s.last.getD (i.toNat - 1) 0
  have he := doneD_ended I.ok I.nodup I.dnds
  rw [who_snap hi hi2 (fun d hd => (he d hd).2), I.last]
  have : (doneD s).filter (fun e => decide (e.ended < 1000)) = doneD s := by
    rw [List.filter_eq_self]
    intro e hm
    have := (he e hm).1
    exact decide_eq_true (by omega)
  rw [this]
theorem play_sim {R R' : VRules} (g : HOp → HOp) (Inv : Nat → VSt → Prop) {l : List HOp}
    (hs : ∀ (k : Nat) (o : HOp) (s : VSt), l[k]? = some o → Inv k s → vstep R' k o (mapLooks g s) = mapLooks g (vstep R k o s))
    (hi : ∀ (k : Nat) (o : HOp) (s : VSt), l[k]? = some o → Inv k s → Inv (k + 1) (vstep R k o s)) : ∀ (r : List HOp) (k : Nat) (s : VSt), r = l.drop k → Inv k s → vrun R' k r (mapLooks g s) = mapLooks g (vrun R k r s)
  | [], _, _, _, _ => rfl
  | o :: r, k, s, hr, I => by
    obtain ⟨ho, hr2, _⟩ := at_drop hr
    show vrun R' (k + 1) r (vstep R' k o (mapLooks g s)) = _
    rw [hs k o s ho I]
    exact play_sim g Inv hs hi r (k + 1) _ hr2 (hi k o s ho I)
theorem mapLooks_id (s : VSt) : mapLooks gId s = s := by
  unfold mapLooks
  have : s.looks.map gId = s.looks := by
    induction s.looks with
    | nil => rfl
    | cons a t ih => rw [List.map_cons, ih]; rfl
  rw [this]
theorem gId_looks (s : VSt) : s.looks = s.looks.map gId := (congrArg VSt.looks (mapLooks_id s)).symm
theorem ref_valid {l : List HOp} (hk : okH l) : playV (refR 1) l = playV validR l := by
  have hlen := okH_len hk
  have := play_sim (R := validR) (R' := refR 1) gId (fun k s => InvG l k s) (l := l) (fun k o s ho I => by
      have hkl := (List.getElem?_eq_some_iff.1 ho).1
      obtain ⟨_, _, _, _, h5, _⟩ := rightB_get (okH_right hk o (List.mem_of_getElem? ho))
      refine vstep_sim gId (fun hw => ?_) (fun hw => ?_) (fun hw => ?_)
      · rw [mapLooks_id]
        exact validR_see hk ho (by omega) I (h5 (by omega)).1 (h5 (by omega)).2
      · rw [mapLooks_id]
        exact gId_looks (openS s k o.tx)
      · rw [mapLooks_id]
        exact refR_may1 _ _) (fun k o s ho I => I.step hk (fun _ _ _ => Nat.le_succ _) ho) l 0 vs00 rfl (invG0 l)
  exact this.trans (mapLooks_id _)
theorem ref_see {l : List HOp} {k : Nat} {o : HOp} {s : VSt} (I : InvS l k s) (hD : doneD (openS s k o.tx) = doneD s) {kind : Int} (h1 : kind ≠ 1) (h4 : kind ≠ 4) {i : Int} (hi : 1 ≤ i) (hi2 : i ≤ 6) : (refR kind).see (openS s k o.tx) (begD s k o.tx) i = (begD s k o.tx).snap.getD (i.toNat - 1) 0 := by
  rw [refR_see h1 h4, hD, I.begSnap]
  exact who_snap hi hi2 fun d hd => (doneD_ended I.ok I.nodup I.dnds d hd).2
theorem ref_snap {l : List HOp} (hk : okH l) : playV (refR 2) l = playV snapR l := by
  have := play_sim (R := snapR) (R' := refR 2) gId (fun k s => InvS l k s ∧ InvG l k s) (l := l) (fun k o s ho I => by
      obtain ⟨_, _, _, _, h5, _⟩ := rightB_get (okH_right hk o (List.mem_of_getElem? ho))
      refine vstep_sim gId (fun hw => ?_) (fun hw => ?_) (fun hw => ?_)
      · rw [mapLooks_id]
        exact ref_see I.1 (openS_doneD hk ho I.2) (by decide) (by decide) (h5 (by omega)).1 (h5 (by omega)).2
      · rw [mapLooks_id]
        exact gId_looks (openS s k o.tx)
      · rw [mapLooks_id]
        exact refR_may2 _ _) (fun k o s ho I => ⟨invS_step (fun _ _ _ => rfl) (fun _ _ _ => rfl) (fun _ _ h => h) hk ho I.1, I.2.step hk (fun _ _ _ => Nat.le_succ _) ho⟩) l 0 vs00 rfl ⟨invS0 l, invG0 l⟩
  exact this.trans (mapLooks_id _)
theorem ref_dan {l : List HOp} (hk : okH l) : playV (refR 3) l = playV danR l := by
  have := play_sim (R := danR) (R' := refR 3) gId (fun k s => InvS l k s ∧ InvG l k s) (l := l) (fun k o s ho I => by
      obtain ⟨_, _, _, _, h5, _⟩ := rightB_get (okH_right hk o (List.mem_of_getElem? ho))
      refine vstep_sim gId (fun hw => ?_) (fun hw => ?_) (fun hw => ?_)
      · rw [mapLooks_id]
        exact ref_see I.1 (openS_doneD hk ho I.2) (by decide) (by decide) (h5 (by omega)).1 (h5 (by omega)).2
      · rw [mapLooks_id]
        exact gId_looks (openS s k o.tx)
      · rw [mapLooks_id]
        exact refR_may3 _ _) (fun k o s ho I => ⟨invS_step (fun _ _ _ => rfl) (fun _ _ _ => rfl) (fun _ _ h => (Bool.and_eq_true _ _ ▸ h).1) hk ho I.1, I.2.step hk (fun _ _ _ => Nat.le_succ _) ho⟩) l 0 vs00 rfl ⟨invS0 l, invG0 l⟩
  exact this.trans (mapLooks_id _)
/-- A look as the reference keeps it. -/
def gVer (q : HOp) : HOp := ⟨q.item, q.tx, q.what⟩
theorem ref_ver {l : List HOp} (hk : okH l) : playV (refR 4) l = mapLooks gVer (playV verR l) := by
  have hlen := okH_len hk
  exact play_sim (R := verR) (R' := refR 4) gVer (fun k s => InvG l k s) (l := l) (fun k o s ho I => by
      have hkl := (List.getElem?_eq_some_iff.1 ho).1
      obtain ⟨t1, _, _, _, h5, _⟩ := rightB_get (okH_right hk o (List.mem_of_getElem? ho))
      have hD := openS_doneD hk ho I
      have hw : whoT (doneD (openS s k o.tx)) o.item 1000 (begD s k o.tx).tx = whoV (doneD (openS s k o.tx)) o.item (begD s k o.tx).tx := by
        rw [hD]
        refine who_ver _ _ _ (by rw [begD_tx]; exact t1) fun d hd => ?_
        have := (doneD_ended I.ok I.nodup I.dnds d hd).1
        omega
      refine vstep_sim gVer (fun _ => ?_) (fun _ => ?_) (fun _ => ?_)
      · rw [refR_see4]; exact hw
      · rw [refR_look4]
        show (openS s k o.tx).looks.map gVer ++ [(⟨(begD s k o.tx).tx, o.item, whoT (doneD (openS s k o.tx)) o.item 1000 (begD s k o.tx).tx⟩ : HOp)] = ((openS s k o.tx).looks ++ [(⟨o.item, whoV (doneD (openS s k o.tx)) o.item (begD s k o.tx).tx, (begD s k o.tx).tx⟩ : HOp)]).map gVer
        rw [hw, List.map_append]; rfl
      · rw [refR_may4]
        show (!((openS s k o.tx).looks.map gVer).any _) = !(openS s k o.tx).looks.any _
        rw [List.any_map]
        rfl) (fun k o s ho I => I.step hk (fun s d i => by show (s.looks ++ [_]).length ≤ _; simp) ho) l 0 vs00 rfl (invG0 l)
end Go.Proofs.YtfmdeahblaikoaaDoor


namespace Go.Proofs.YtfmdeahblaikoaaDoor
open Go.RowKit

section
variable {R : VRules} {k : Nat} {o : HOp} {s : VSt}
theorem vs_own (h : o.what = 1) (hi : o.item ∈ (begD s k o.tx).wrote) : vstep R k o s = { openS s k o.tx with ds := dput (openS s k o.tx).ds { begD s k o.tx with seen := (begD s k o.tx).seen ++ [⟨o.tx, o.item, o.tx⟩] } } := by
  unfold vstep; simp only; rw [if_pos h, if_pos hi]
theorem vs_see (h : o.what = 1) (hi : o.item ∉ (begD s k o.tx).wrote) : vstep R k o s = { openS s k o.tx with ds := dput (openS s k o.tx).ds { begD s k o.tx with seen := (begD s k o.tx).seen ++ [⟨o.tx, o.item, R.see (openS s k o.tx) (begD s k o.tx) o.item⟩] }, looks := R.look (openS s k o.tx) (begD s k o.tx) o.item } := by
  unfold vstep; simp only; rw [if_pos h, if_neg hi]
theorem vs_write (h : o.what = 2) : vstep R k o s = { openS s k o.tx with ds := dput (openS s k o.tx).ds { begD s k o.tx with wrote := (begD s k o.tx).wrote ++ [o.item] } } := by
  unfold vstep; simp only; rw [if_neg (by omega), if_pos h]
theorem vs_may (h : o.what = 3) (hm : R.may (openS s k o.tx) (begD s k o.tx) = true) : vstep R k o s = ⟨dput (openS s k o.tx).ds { begD s k o.tx with ended := (k : Int) }, (openS s k o.tx).dn ++ [o.tx], setsL o.tx (begD s k o.tx).wrote (openS s k o.tx).last, (openS s k o.tx).looks⟩ := by
  unfold vstep; simp only; rw [if_neg (by omega), if_neg (by omega), if_pos h, if_pos hm]
theorem vs_not (h : o.what = 3) (hm : R.may (openS s k o.tx) (begD s k o.tx) = false) : vstep R k o s = openS s k o.tx := by
  unfold vstep; simp only; rw [if_neg (by omega), if_neg (by omega), if_pos h, if_neg (by rw [hm]; simp)]
theorem vs_abort (h : o.what = 4) : vstep R k o s = openS s k o.tx := by
  unfold vstep; simp only; rw [if_neg (by omega), if_neg (by omega), if_neg (by omega)]
theorem looks_nil (hR : ∀ s d i, R.look s d i = s.looks) (h : s.looks = []) : (vstep R k o s).looks = [] := by
  have e : (openS s k o.tx).looks = [] := h
  unfold vstep
  simp only
  split
  · split
    · exact e
    · show R.look _ _ _ = []
      rw [hR]; exact e
  · split
    · exact e
    · split
      · split <;> exact e
      · exact e
end
/-- So far nobody since wrote what is asked. -/
def sinceT (b : Int) (p : Int → Bool) (ds : List Dl) : Bool := ds.any fun d => decide (d.ended > b) && d.wrote.any p
theorem sinceT_eq (b : Int) (p : Int → Bool) (ds : List Dl) : sinceT b p ds = sinceD b ds p := rfl
theorem sinceT_snoc {b : Int} {p : Int → Bool} {ds : List Dl} {j : Nat} {d : Dl} (h : ds[j]? = some d) : sinceT b p (ds.take (j + 1)) = (sinceT b p (ds.take j) || (decide (d.ended > b) && d.wrote.any p)) := by
  unfold sinceT
  rw [List.take_add_one, h, List.any_append]
  simp
theorem anyT_snoc {p : Int → Bool} {l : List Int} {j : Nat} {x : Int} (h : l[j]? = some x) : (l.take (j + 1)).any p = ((l.take j).any p || p x) := by
  rw [List.take_add_one, h, List.any_append]
  simp
end Go.Proofs.YtfmdeahblaikoaaDoor


namespace Go.Proofs.YtfmdeahblaikoaaDoor
open Go.RowKit

/-- By numbers. -/
def byNumD (ds : List Dl) : List Dl := [1, 2, 3, 4, 5, 6].flatMap fun t => ds.filter fun d => decide (d.tx = t)
theorem byNum_eq {s : VSt} (hn : (s.ds.map (·.tx)).Nodup) (hs : ∀ t ∈ s.dn, t ∈ s.ds.map (·.tx)) (hd : s.dn.Nodup) (hr : ∀ d ∈ s.ds, 1 ≤ d.tx ∧ d.tx ≤ 6) {ts : List Int} (H : ByNum s ts) : byNumD (doneD s) = ts.map (dgd s) := by
  have hdt := doneD_txs hn hs
  refine pw_ext (r := fun a b : Dl => a.tx < b.tx) (fun a => Int.lt_irrefl _) (fun a b h h' => by omega) ?_ ?_ fun x => ?_
  · unfold byNumD
    rw [List.pairwise_flatMap]
    constructor
    · intro t _
      have h1 : (doneD s).Pairwise fun a b => a.tx ≠ b.tx := by
        rw [← List.pairwise_map (f := fun d : Dl => d.tx) (R := fun x y => x ≠ y), hdt]; exact hd
      refine (h1.filter _).imp_of_mem fun {a b} ha hb hne => ?_
      have ha := (List.mem_filter.1 ha).2
      have hb := (List.mem_filter.1 hb).2
      exact absurd ((of_decide_eq_true ha).trans (of_decide_eq_true hb).symm) hne
    · have : ([1, 2, 3, 4, 5, 6] : List Int).Pairwise (· < ·) := by decide
      refine this.imp fun {a b} hab x hx y hy => ?_
      have ha := of_decide_eq_true (List.mem_filter.1 hx).2
      have hb := of_decide_eq_true (List.mem_filter.1 hy).2
      omega
  · rw [List.pairwise_map]
    have h1 := H.lt hd
    refine h1.imp_of_mem fun {a b} ha hb hab => ?_
    have g : ∀ t ∈ ts, (dgd s t).tx = t := fun t ht => by
      obtain ⟨d, hd, e⟩ := List.mem_map.1 (hs t (H.perm.mem_iff.1 ht))
      unfold dgd
      rw [← e, dget_mem hn hd]; rfl
    rw [g a ha, g b hb]; exact hab
  · unfold byNumD
    rw [List.mem_flatMap]
    constructor
    · rintro ⟨t, _, hx⟩
      have hx := (List.mem_filter.1 hx).1
      obtain ⟨h1, h2⟩ := doneD_mem hn hs hx
      refine List.mem_map.2 ⟨x.tx, H.perm.mem_iff.2 h2, ?_⟩
      unfold dgd
      rw [dget_mem hn h1]; rfl
    · intro hx
      obtain ⟨t, ht, e⟩ := List.mem_map.1 hx
      have ht2 := H.perm.mem_iff.1 ht
      have hx2 : x ∈ doneD s := by rw [← e]; exact List.mem_map.2 ⟨t, ht2, rfl⟩
      have h6 := hr x (doneD_mem hn hs hx2).1
      exact ⟨x.tx, by simp only [List.mem_cons, List.not_mem_nil, or_false]; omega, List.mem_filter.2 ⟨hx2, by simp⟩⟩
end Go.Proofs.YtfmdeahblaikoaaDoor

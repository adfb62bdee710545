
/-
  PLAIN LAWS: who is between: with nobody between all goes as by what was when deals began; where one alone writes nobody is between.
-/
import Derived.Test.YtigmgeaimcglhaaValidW

namespace Go.Proofs.Ytigmgeaimcglhaa
open Go.RowKit

/-- Nobody is between. -/
def NoPiv (ds : List Dl) : Prop := ∀ a ∈ ds, ∀ b ∈ ds, ∀ c ∈ ds, antiD a b = true → antiD b c = true → False
theorem noPiv_pivs {ds : List Dl} (hn : (ds.map (·.tx)).Nodup) (h : NoPiv ds) : pivsD ds = [] := by
  unfold pivsD
  rw [List.filter_eq_nil_iff]
  intro t _ hp
  unfold pivB at hp
  rw [Bool.and_eq_true, List.any_eq_true, List.any_eq_true] at hp
  obtain ⟨⟨a, ha, h1⟩, b, hb, h2⟩ := hp
  rw [List.any_eq_true] at h1 h2
  obtain ⟨b', hb', h1⟩ := h1
  obtain ⟨c, hc, h2⟩ := h2
  simp only [Bool.and_eq_true, decide_eq_true_eq] at h1 h2
  have e : b' = b := by
    have g1 := dget_mem hn hb
    have g2 := dget_mem hn hb'
    rw [h1.2, ← h2.2, g1] at g2
    exact (Option.some.inj g2).symm
  rw [e] at h1
  exact h a ha b hb c hc h1.1 h2.1
theorem pivs_noPiv {ds : List Dl} (hr : ∀ d ∈ ds, 1 ≤ d.tx ∧ d.tx ≤ 6) (h : pivsD ds = []) : NoPiv ds := fun a ha b hb c hc h1 h2 => by
  have hb6 := hr b hb
  have hm : b.tx ∈ ([1, 2, 3, 4, 5, 6] : List Int) := by
    simp only [List.mem_cons, List.not_mem_nil, or_false]; omega
  unfold pivsD at h
  rw [List.filter_eq_nil_iff] at h
  apply h b.tx hm
  unfold pivB
  rw [Bool.and_eq_true, List.any_eq_true, List.any_eq_true]
  exact ⟨⟨a, ha, List.any_eq_true.2 ⟨b, hb, by rw [h1]; simp⟩⟩, b, hb, List.any_eq_true.2 ⟨c, hc, by rw [h2]; simp⟩⟩
theorem NoPiv.sub {ds es : List Dl} (h : NoPiv ds) (hs : ∀ d ∈ es, d ∈ ds) : NoPiv es := fun a ha b hb c hc => h a (hs a ha) b (hs b hb) c (hs c hc)
/-- Whether a deal runs still, or ends now, it is at once with the same ones. -/
theorem anti_now {e d : Dl} {k : Nat} (hd : d.ended = -1) (h1 : e.began ≤ e.ended) (h2 : e.ended < k) : antiD e { d with ended := (k : Int) } = antiD e d ∧ antiD { d with ended := (k : Int) } e = antiD d e := by
  have h3 : ¬ ((k : Int) < 0) := by omega
  unfold antiD atOnceD
  rw [hd]
  simp only [show decide ((-1 : Int) < 0) = true by decide, Bool.true_or, Bool.true_and, Bool.and_true, decide_eq_false h3, Bool.false_or, show decide (e.began < (k : Int)) = true from decide_eq_true (by omega)]
  trivial
theorem noPiv_now {l : List Dl} {d : Dl} {k : Nat} (hd : d.ended = -1) (hl : ∀ e ∈ l, e.began ≤ e.ended ∧ e.ended < k) : NoPiv (l ++ [d]) ↔ NoPiv (l ++ [{ d with ended := (k : Int) }]) := by
  have key : ∀ (x y : Dl), (∀ e ∈ l, antiD e y = antiD e x ∧ antiD y e = antiD x e) → NoPiv (l ++ [x]) → NoPiv (l ++ [y]) := by
    intro x y hxy h a ha b hb c hc h1 h2
    have hm : ∀ e ∈ l, e ∈ l ++ [x] := fun e he => List.mem_append_left _ he
    have hx : x ∈ l ++ [x] := List.mem_append_right _ List.mem_cons_self
    rcases List.mem_append.1 hb with hb | hb
    · rcases List.mem_append.1 ha with ha | ha <;> rcases List.mem_append.1 hc with hc | hc
      · exact h a (hm a ha) b (hm b hb) c (hm c hc) h1 h2
      · rw [List.mem_singleton.1 hc, (hxy b hb).1] at h2
        exact h a (hm a ha) b (hm b hb) x hx h1 h2
      · rw [List.mem_singleton.1 ha, (hxy b hb).2] at h1
        exact h x hx b (hm b hb) c (hm c hc) h1 h2
      · rw [List.mem_singleton.1 hc, (hxy b hb).1] at h2
        rw [List.mem_singleton.1 ha, (hxy b hb).2] at h1
        exact h x hx b (hm b hb) x hx h1 h2
    · rw [List.mem_singleton.1 hb] at h1 h2
      rcases List.mem_append.1 ha with ha | ha
      · rcases List.mem_append.1 hc with hc | hc
        · rw [(hxy a ha).1] at h1
          rw [(hxy c hc).2] at h2
          exact h a (hm a ha) x hx c (hm c hc) h1 h2
        · rw [List.mem_singleton.1 hc, anti_self] at h2; cases h2
      · rw [List.mem_singleton.1 ha, anti_self] at h1; cases h1
  constructor
  · exact key d _ fun e he => anti_now hd (hl e he).1 (hl e he).2
  · exact key _ d fun e he => ⟨(anti_now hd (hl e he).1 (hl e he).2).1.symm, (anti_now hd (hl e he).1 (hl e he).2).2.symm⟩
/-- What is done, behind a step. -/
theorem invS_done {R : VRules} {l : List HOp} (hk : okH l) {k : Nat} {o : HOp} (ho : l[k]? = some o) {s : VSt} (I : InvS l k s) :
    ((¬(o.what = 3 ∧ R.may (openS s k o.tx) (begD s k o.tx) = true)) ∧ doneD (vstep R k o s) = doneD s) ∨ (o.what = 3 ∧ R.may (openS s k o.tx) (begD s k o.tx) = true ∧ doneD (vstep R k o s) = doneD s ++ [{ begD s k o.tx with ended := (k : Int) }]) := by
  have hnd : o.tx ∉ s.dn := fun h => by
    obtain ⟨d, hd, hdt⟩ := List.mem_map.1 (I.dnds _ h)
    obtain ⟨j, e1, hj, hx, _⟩ := I.com d hd (by rw [hdt]; exact h)
    rw [hdt] at hx
    have := end_at hk ho j _ hx rfl (by show (3 : Int) ≤ 3; decide)
    omega
  have d4 := begD_tx s k o.tx
  have hput : ∀ (d' : Dl) (s' : VSt), d'.tx = o.tx → s'.ds = dput (openS s k o.tx).ds d' → s'.dn = s.dn → doneD s' = doneD s := fun d' s' hdt e1 e2 =>
    doneD_put (s := s) (d := d') (by rw [hdt]; exact hnd) s' (by rw [e1, openS_dput _ _ _ _ hdt]) e2
  by_cases h : o.what = 3 ∧ R.may (openS s k o.tx) (begD s k o.tx) = true
  · refine .inr ⟨h.1, h.2, ?_⟩
    unfold vstep
    simp only
    rw [if_neg (by omega), if_neg (by omega), if_pos h.1, if_pos h.2]
    have hdt : ({ begD s k o.tx with ended := (k : Int) } : Dl).tx = o.tx := d4
    unfold doneD
    show (s.dn ++ [o.tx]).map _ = _
    rw [List.map_append]
    congr 1
    · refine List.map_congr_left fun t ht => ?_
      rw [openS_dput _ _ _ _ hdt, dget_put, if_neg (fun e => hnd (by rw [← hdt, e]; exact ht))]
    · show [(dget (dput (openS s k o.tx).ds { begD s k o.tx with ended := (k : Int) }) o.tx).getD _] = [_]
      rw [dget_put, if_pos hdt]; rfl
  · refine .inl ⟨h, ?_⟩
    unfold vstep
    simp only
    split
    · split
      · exact hput { begD s k o.tx with seen := (begD s k o.tx).seen ++ [⟨o.tx, o.item, o.tx⟩] } _ d4 rfl rfl
      · exact hput { begD s k o.tx with seen := (begD s k o.tx).seen ++ [⟨o.tx, o.item, R.see (openS s k o.tx) (begD s k o.tx) o.item⟩] } _ d4 rfl rfl
    · split
      · exact hput { begD s k o.tx with wrote := (begD s k o.tx).wrote ++ [o.item] } _ d4 rfl rfl
      · split
        · rename_i h3
          rw [if_neg (fun e => h ⟨h3, e⟩)]
          exact hput (begD s k o.tx) _ d4 (by rw [openS_dput _ _ _ _ d4]; rfl) rfl
        · exact hput (begD s k o.tx) _ d4 (by rw [openS_dput _ _ _ _ d4]; rfl) rfl
/-- Rules that see what was when deals began. -/
structure SnapLike (R : VRules) : Prop where
  see : ∀ s d i, R.see s d i = d.snap.getD (i.toNat - 1) 0
  look : ∀ s d i, R.look s d i = s.looks
  may : ∀ s d, R.may s d = true → snapR.may s d = true
theorem snapLike_snap : SnapLike snapR := ⟨fun _ _ _ => rfl, fun _ _ _ => rfl, fun _ _ h => h⟩
theorem snapLike_dan : SnapLike danR := ⟨fun _ _ _ => rfl, fun _ _ _ => rfl, fun _ _ h => (Bool.and_eq_true _ _ ▸ h).1⟩
theorem at_drop {l r : List HOp} {o : HOp} {k : Nat} (hr : o :: r = l.drop k) : l[k]? = some o ∧ r = l.drop (k + 1) ∧ k < l.length := by
  have ho : l[k]? = some o := by
    have := congrArg (·[0]?) hr
    rw [List.getElem?_drop] at this
    simpa using this.symm
  refine ⟨ho, ?_, (List.getElem?_eq_some_iff.1 ho).1⟩
  have h := drop_at ho
  rw [← hr] at h
  exact (List.cons.inj h).2
theorem vdone_sub {R : VRules} (hR : SnapLike R) {l : List HOp} (hk : okH l) : ∀ (r : List HOp) (k : Nat) (s : VSt), r = l.drop k → InvS l k s → ∀ d ∈ doneD s, d ∈ doneD (vrun R k r s)
  | [], _, _, _, _, d, hd => hd
  | o :: r, k, s, hr, I, d, hd => by
    obtain ⟨ho, hr2, _⟩ := at_drop hr
    refine vdone_sub hR hk r (k + 1) _ hr2 (invS_step hR.see hR.look hR.may hk ho I) d ?_
    rcases invS_done (R := R) hk ho I with ⟨_, e⟩ | ⟨_, _, e⟩
    · rw [e]; exact hd
    · rw [e]; exact List.mem_append_left _ hd
theorem InvS.done_at {l : List HOp} {k : Nat} {s : VSt} (I : InvS l k s) {e : Dl} (he : e ∈ doneD s) : e ∈ s.ds ∧ e.tx ∈ s.dn ∧ 0 ≤ e.began ∧ e.began ≤ e.ended ∧ e.ended < k ∧ 1 ≤ e.tx ∧ e.tx ≤ 6 := by
  obtain ⟨h1, h2⟩ := doneD_mem I.nodup I.dnds he
  obtain ⟨j, e1, hj, _, h3⟩ := I.com e h1 h2
  have h4 := (I.ok.deals e h1).began
  have h5 := (I.ok.deals e h1).tx
  exact ⟨h1, h2, h4.1, h3, by omega, h5⟩
theorem InvS.done_nodup {l : List HOp} {k : Nat} {s : VSt} (I : InvS l k s) : ((doneD s).map (·.tx)).Nodup := by rw [doneD_txs I.nodup I.dnds]; exact I.dnN
theorem begD_ended {l : List HOp} {k : Nat} {s : VSt} (I : InvS l k s) {tx : Int} (hnd : tx ∉ s.dn) : (begD s k tx).ended = -1 := by
  cases hd : dget s.ds tx with
  | none => rw [(openS_new (k := k) hd).1]
  | some d =>
    rw [(openS_has (k := k) hd).2]
    exact I.run d (dget_tx hd).2 (by rw [(dget_tx hd).1]; exact hnd)
theorem InvS.hnd {l : List HOp} (hk : okH l) {k : Nat} {o : HOp} (ho : l[k]? = some o) {s : VSt} (I : InvS l k s) : o.tx ∉ s.dn := fun h => by
  obtain ⟨d, hd, hdt⟩ := List.mem_map.1 (I.dnds _ h)
  obtain ⟨j, e1, hj, hx, _⟩ := I.com d hd (by rw [hdt]; exact h)
  rw [hdt] at hx
  have := end_at hk ho j _ hx rfl (by show (3 : Int) ≤ 3; decide)
  omega
theorem doneD_open {l : List HOp} (hk : okH l) {k : Nat} {o : HOp} (ho : l[k]? = some o) {s : VSt} (I : InvS l k s) : doneD (openS s k o.tx) = doneD s :=
  doneD_put (s := s) (d := begD s k o.tx) (by rw [begD_tx]; exact I.hnd hk ho) (openS s k o.tx) rfl rfl
/-- If nobody is between at the end, nobody was; all goes as by what was when deals began. -/
theorem dan_eq_run {l : List HOp} (hk : okH l) : ∀ (r : List HOp) (k : Nat) (s : VSt), r = l.drop k → InvS l k s → NoPiv (doneD (vrun snapR k r s)) → vrun danR k r s = vrun snapR k r s
  | [], _, _, _, _, _ => rfl
  | o :: r, k, s, hr, I, hp => by
    obtain ⟨ho, hr2, _⟩ := at_drop hr
    have I2 := invS_step snapLike_snap.see snapLike_snap.look snapLike_snap.may hk ho I
    have hstep : vstep danR k o s = vstep snapR k o s := by
      rcases invS_done (R := snapR) hk ho I with ⟨h, _⟩ | ⟨h3, hm, e⟩
      · have hm2 : o.what = 3 → danR.may (openS s k o.tx) (begD s k o.tx) = false ∧ snapR.may (openS s k o.tx) (begD s k o.tx) = false := fun h3 => by
          have h1 : snapR.may (openS s k o.tx) (begD s k o.tx) = false := by
            cases hb : snapR.may (openS s k o.tx) (begD s k o.tx)
            · rfl
            · exact absurd ⟨h3, hb⟩ h
          exact ⟨by show (snapR.may _ _ && _) = false; rw [h1]; rfl, h1⟩
        unfold vstep
        simp only
        by_cases h3 : o.what = 3
        · rw [(hm2 h3).1, (hm2 h3).2]; rfl
        · rw [if_neg h3, if_neg h3]; rfl
      · have hd : danR.may (openS s k o.tx) (begD s k o.tx) = true := by
          show (snapR.may _ _ && (pivsD (doneD (openS s k o.tx) ++ [begD s k o.tx])).isEmpty) = true
          rw [hm, doneD_open hk ho I]
          have hsub := vdone_sub snapLike_snap hk r (k + 1) _ hr2 I2
          rw [e] at hsub
          have hN : NoPiv (doneD s ++ [{ begD s k o.tx with ended := (k : Int) }]) := NoPiv.sub hp hsub
          have hN2 := (noPiv_now (begD_ended I (I.hnd hk ho)) fun e he => ⟨(I.done_at he).2.2.2.1, (I.done_at he).2.2.2.2.1⟩).2 hN
          rw [noPiv_pivs (by
            have h := I2.done_nodup
            rw [e, List.map_append] at h
            rw [List.map_append]
            exact h) hN2]
          rfl
        unfold vstep
        simp only
        rw [if_neg (by omega), if_neg (by omega), if_pos h3, if_pos hd, if_neg (by omega), if_neg (by omega), if_pos h3, if_pos hm]
    show vrun danR (k + 1) r (vstep danR k o s) = vrun snapR (k + 1) r (vstep snapR k o s)
    rw [hstep]
    exact dan_eq_run hk r (k + 1) _ hr2 I2 hp
theorem dan_eq_snap {l : List HOp} (hk : okH l) (h : NoPiv (doneD (playV snapR l))) : playV danR l = playV snapR l := dan_eq_run hk l 0 vs00 rfl (invS0 l) h
/-- Where nobody may be between nobody is. -/
theorem dan_nopiv_run {l : List HOp} (hk : okH l) : ∀ (r : List HOp) (k : Nat) (s : VSt), r = l.drop k → InvS l k s → NoPiv (doneD s) → NoPiv (doneD (vrun danR k r s))
  | [], _, _, _, _, h => h
  | o :: r, k, s, hr, I, h => by
    obtain ⟨ho, hr2, _⟩ := at_drop hr
    have I2 := invS_step snapLike_dan.see snapLike_dan.look snapLike_dan.may hk ho I
    refine dan_nopiv_run hk r (k + 1) _ hr2 I2 ?_
    rcases invS_done (R := danR) hk ho I with ⟨_, e⟩ | ⟨h3, hm, e⟩
    · rw [e]; exact h
    · rw [e]
      change (snapR.may _ _ && (pivsD (doneD (openS s k o.tx) ++ [begD s k o.tx])).isEmpty) = true at hm
      rw [Bool.and_eq_true, List.isEmpty_iff, doneD_open hk ho I] at hm
      have htx := (begD_ok (k := k) I.ok (tx := o.tx) ⟨(rightB_get (okH_right hk o (List.mem_of_getElem? ho))).1, (rightB_get (okH_right hk o (List.mem_of_getElem? ho))).2.1⟩).1.tx
      refine (noPiv_now (begD_ended I (I.hnd hk ho)) fun e he => ⟨(I.done_at he).2.2.2.1, (I.done_at he).2.2.2.2.1⟩).1 (pivs_noPiv (fun d hd => ?_) hm.2)
      rcases List.mem_append.1 hd with hd | hd
      · exact (I.done_at hd).2.2.2.2.2
      · rw [List.mem_singleton.1 hd]; exact htx
theorem dan_nopiv {l : List HOp} (hk : okH l) : NoPiv (doneD (playV danR l)) := dan_nopiv_run hk l 0 vs00 rfl (invS0 l) fun _ h => by cases h
/-- What a deal wrote it asked to write. -/
theorem runs_wrote {tx : Int} {P : Int → Int → Prop} {ops seen : List HOp} {wrote : List Int} (h : Runs tx P ops seen wrote) (i : Int) : i ∈ wrote ↔ (⟨tx, 2, i⟩ : HOp) ∈ ops := by
  induction h with
  | nil => simp
  | own j _ hi ih => rw [ih]; simp
  | other j f _ hi hP ih => rw [ih]; simp
  | write j _ ih => rw [List.mem_append, List.mem_append, ih]; simp
  | skip w j _ hw ih =>
    rw [ih, List.mem_append]
    refine ⟨.inl, fun h => h.resolve_right fun h => ?_⟩
    rw [List.mem_singleton] at h
    injection h with _ h _
    omega
theorem InvS.wrote {l : List HOp} {s : VSt} (I : InvS l l.length s) {d : Dl} (hd : d ∈ s.ds) (i : Int) : i ∈ d.wrote ↔ (⟨d.tx, 2, i⟩ : HOp) ∈ l := by
  have h := I.runs d hd
  rw [List.take_length] at h
  rw [runs_wrote h i]
  unfold ownL
  simp
/-- Where one alone writes nobody is between. -/
theorem dan_one {l : List HOp} (hk : okH l) {T : Int} (h : ∀ o ∈ l, o.what = 2 → o.tx = T) : NoPiv (doneD (playV snapR l)) := fun a ha b hb c hc h1 h2 => by
  have I := snap_inv hk
  have key : ∀ x ∈ doneD (playV snapR l), ∀ y : Dl, antiD y x = true → x.tx = T := fun x hx y hy => by
    unfold antiD at hy
    rw [Bool.and_eq_true, List.any_eq_true] at hy
    obtain ⟨_, i, hi, _⟩ := hy
    exact h _ ((I.wrote (I.done_at hx).1 i).1 hi) rfl
  have hb1 := key b hb a h1
  have hc1 := key c hc b h2
  unfold antiD at h2
  rw [hb1, hc1] at h2
  simp at h2
end Go.Proofs.Ytigmgeaimcglhaa


/-
  PLAIN LAWS: a run that sees what was when deals began: its state behind so many ops (InvS).
-/
import Derived.Test.YtigmgeaimcglhaaValidU
import Derived.Test.YtigmgeaimcglhaaValidT

namespace Go.Proofs.Ytigmgeaimcglhaa
open Go.RowKit

/-- Who wrote each item last, of deals in their order. -/
def lastOf (l : List Dl) : List Int := l.foldl (fun la d => setsL d.tx d.wrote la) [0, 0, 0, 0, 0, 0]
theorem lastOf_snoc (l : List Dl) (d : Dl) : lastOf (l ++ [d]) = setsL d.tx d.wrote (lastOf l) := by unfold lastOf; rw [List.foldl_append]; rfl
/-- A run that sees what was when deals began: its state, behind so many ops. -/
structure InvS (l : List HOp) (k : Nat) (s : VSt) : Prop where
  ok : VOk k s
  nodup : (s.ds.map (·.tx)).Nodup
  own : ∀ t, t ∉ s.ds.map (·.tx) → ownL (l.take k) t = []
  runs : ∀ d ∈ s.ds, Runs d.tx (fun i f => f = d.snap.getD (i.toNat - 1) 0) (ownL (l.take k) d.tx) d.seen d.wrote
  seen : ∀ d ∈ s.ds, ∀ x ∈ d.seen, x.tx = d.tx
  dnds : ∀ t ∈ s.dn, t ∈ s.ds.map (·.tx)
  dnN : s.dn.Nodup
  com : ∀ d ∈ s.ds, d.tx ∈ s.dn → ∃ j : Nat, d.ended = j ∧ j < k ∧ l[j]? = some ⟨d.tx, 3, 0⟩ ∧ d.began ≤ d.ended
  run : ∀ d ∈ s.ds, d.tx ∉ s.dn → d.ended = -1
  beg : ∀ d ∈ s.ds, ∃ b : Nat, d.began = b ∧ b < k ∧ ∃ o, l[b]? = some o ∧ o.tx = d.tx
  sorted : (doneD s).Pairwise fun a b => a.ended < b.ended
  last : s.last = lastOf (doneD s)
  snap : ∀ d ∈ s.ds, d.snap = lastOf ((doneD s).filter fun e => decide (e.ended < d.began))
  apart : ∀ d ∈ doneD s, ∀ e ∈ doneD s, d.tx ≠ e.tx → atOnceD d e = true → ∀ i ∈ d.wrote, i ∉ e.wrote
theorem invS0 (l : List HOp) : InvS l 0 vs00 :=
  ⟨vok00, List.nodup_nil, fun t _ => by rw [List.take_zero]; rfl, fun _ h => (by cases h), fun _ h => (by cases h), fun _ h => (by cases h), List.nodup_nil, fun _ h => (by cases h), fun _ h => (by cases h), fun _ h => (by cases h), .nil, rfl, fun _ h => (by cases h), fun _ h => (by cases h)⟩
theorem doneD_mem {s : VSt} (hn : (s.ds.map (·.tx)).Nodup) (hs : ∀ t ∈ s.dn, t ∈ s.ds.map (·.tx)) {d : Dl} (hd : d ∈ doneD s) : d ∈ s.ds ∧ d.tx ∈ s.dn := by
  obtain ⟨t, ht, e⟩ := List.mem_map.1 hd
  obtain ⟨x, hx, rfl⟩ := List.mem_map.1 (hs t ht)
  rw [dget_mem hn hx] at e
  cases e
  exact ⟨hx, ht⟩
theorem doneD_txs {s : VSt} (hn : (s.ds.map (·.tx)).Nodup) (hs : ∀ t ∈ s.dn, t ∈ s.ds.map (·.tx)) : (doneD s).map (·.tx) = s.dn := by
  unfold doneD
  rw [List.map_map]
  conv => rhs; rw [← List.map_id s.dn]
  refine List.map_congr_left fun t ht => ?_
  obtain ⟨x, hx, rfl⟩ := List.mem_map.1 (hs t ht)
  show ((dget s.ds x.tx).getD _).tx = _
  rw [dget_mem hn hx]; rfl
theorem since_false {b : Int} {l : List Dl} {p : Int → Bool} (h : sinceD b l p = false) : ∀ e ∈ l, e.ended > b → ∀ i ∈ e.wrote, p i = false := fun e he hb i hi => by
  have h1 := List.any_eq_false.1 h e he
  rw [Bool.and_eq_true, not_and] at h1
  have h2 := h1 (decide_eq_true hb)
  rw [Bool.not_eq_true, List.any_eq_false] at h2
  simpa using h2 i hi
theorem invS_step {R : VRules} (hsee : ∀ s d i, R.see s d i = d.snap.getD (i.toNat - 1) 0) (hlook : ∀ s d i, R.look s d i = s.looks) (hmay : ∀ s d, R.may s d = true → snapR.may s d = true)
    {l : List HOp} (hk : okH l) {k : Nat} {o : HOp} (ho : l[k]? = some o) {s : VSt} (I : InvS l k s) : InvS l (k + 1) (vstep R k o s) := by
  have hr := okH_right hk o (List.mem_of_getElem? ho)
  obtain ⟨t1, t2, w1, w4, h5, h6⟩ := rightB_get hr
  have hnd : o.tx ∉ s.dn := fun h => by
    obtain ⟨d, hd, hdt⟩ := List.mem_map.1 (I.dnds _ h)
    obtain ⟨j, e1, hj, hx, _⟩ := I.com d hd (by rw [hdt]; exact h)
    rw [hdt] at hx
    have := end_at hk ho j _ hx rfl (by show (3 : Int) ≤ 3; decide)
    omega
  have hok := vstep_ok (R := R) (fun s d i => by rw [hlook]; exact Nat.le_succ _) I.ok hr
  have hown : ∀ t, t ≠ o.tx → ownL (l.take (k + 1)) t = ownL (l.take k) t := fun t h => by rw [ownL_at ho, if_neg (fun e => h e.symm)]
  have hown1 : ownL (l.take (k + 1)) o.tx = ownL (l.take k) o.tx ++ [o] := by rw [ownL_at ho, if_pos rfl]
  obtain ⟨d1, d2, d3, d4⟩ := begD_ok (k := k) I.ok ⟨t1, t2⟩
  have hended : ∀ e ∈ doneD s, 0 ≤ e.ended ∧ e.ended < k := fun e he => by
    obtain ⟨h1, h2⟩ := doneD_mem I.nodup I.dnds he
    obtain ⟨j, e1, hj, _⟩ := I.com e h1 h2
    omega
  -- the deal of the op, as it is now
  have hbeg : (Runs o.tx (fun i f => f = (begD s k o.tx).snap.getD (i.toNat - 1) 0) (ownL (l.take k) o.tx) (begD s k o.tx).seen (begD s k o.tx).wrote ∧ ∀ x ∈ (begD s k o.tx).seen, x.tx = o.tx) ∧
      (begD s k o.tx).ended = -1 ∧ (∃ b : Nat, (begD s k o.tx).began = b ∧ b < k + 1 ∧ ∃ x, l[b]? = some x ∧ x.tx = o.tx) ∧ (begD s k o.tx).snap = lastOf ((doneD s).filter fun e => decide (e.ended < (begD s k o.tx).began)) := by
    cases hd : dget s.ds o.tx with
    | none =>
      obtain ⟨e1, e2⟩ := openS_new (k := k) hd
      rw [e1, I.own _ e2]
      refine ⟨⟨.nil, fun _ h => by cases h⟩, rfl, ⟨k, rfl, by omega, o, ho, rfl⟩, ?_⟩
      show s.last = _
      rw [I.last, List.filter_eq_self.2 fun e he => decide_eq_true (by exact (hended e he).2)]
    | some d =>
      obtain ⟨_, e2⟩ := openS_has (k := k) hd
      obtain ⟨g1, g2⟩ := dget_tx hd
      rw [e2]
      have h1 := I.runs d g2
      have h2 := I.seen d g2
      have h3 := I.beg d g2
      rw [g1] at h1 h2 h3
      obtain ⟨b, b1, b2, b3⟩ := h3
      exact ⟨⟨h1, h2⟩, I.run d g2 (by rw [g1]; exact hnd), ⟨b, b1, by omega, b3⟩, I.snap d g2⟩
  obtain ⟨⟨hrun, hseen⟩, hen, hbg, hsn⟩ := hbeg
  have hmem : ∀ (d' : Dl), d'.tx = o.tx → ∀ e ∈ dput (openS s k o.tx).ds d', e = d' ∨ (e ∈ s.ds ∧ e.tx ≠ o.tx) := fun d' hdt e he => by
    rw [openS_dput _ _ _ _ hdt] at he
    rcases mem_dputN I.nodup he with h | ⟨h, h2⟩
    · exact .inl h
    · exact .inr ⟨h, by rw [← hdt]; exact h2⟩
  have hnodup : ∀ (d' : Dl), d'.tx = o.tx → ((dput (openS s k o.tx).ds d').map (·.tx)).Nodup := fun d' hdt => by
    rw [openS_dput _ _ _ _ hdt]; exact dput_nodup I.nodup _
  have htxs : ∀ (d' : Dl), d'.tx = o.tx → ∀ t, t ∈ (dput (openS s k o.tx).ds d').map (·.tx) ↔ t ∈ s.ds.map (·.tx) ∨ t = o.tx := fun d' hdt t => by
    rw [openS_dput _ _ _ _ hdt, dput_txs, hdt]
    split
    · rename_i h
      exact ⟨.inl, fun h2 => h2.elim id fun e => by rw [e]; exact h⟩
    · rw [List.mem_append, List.mem_singleton]
  have hput : ∀ (d' : Dl) (s' : VSt), d'.tx = o.tx → d'.began = (begD s k o.tx).began → d'.ended = (begD s k o.tx).ended → d'.snap = (begD s k o.tx).snap → s'.ds = dput (openS s k o.tx).ds d' → s'.dn = s.dn → s'.last = s.last → VOk (k + 1) s' →
      Runs o.tx (fun i f => f = (begD s k o.tx).snap.getD (i.toNat - 1) 0) (ownL (l.take k) o.tx ++ [o]) d'.seen d'.wrote → (∀ x ∈ d'.seen, x.tx = o.tx) → InvS l (k + 1) s' := by
    intro d' s' hdt g1 g2 g3 e1 e2 e3 hok' hR hS
    have hdone : doneD s' = doneD s := doneD_put (s := s) (d := d') (by rw [hdt]; exact hnd) s' (by rw [e1, openS_dput _ _ _ _ hdt]) e2
    refine ⟨hok', by rw [e1]; exact hnodup d' hdt, ?_, ?_, ?_, ?_, by rw [e2]; exact I.dnN, ?_, ?_, ?_, by rw [hdone]; exact I.sorted, by rw [e3, hdone]; exact I.last, ?_, by rw [hdone]; exact I.apart⟩
    · intro t ht
      rw [e1, htxs d' hdt] at ht
      rw [hown t (fun e => ht (.inr e))]
      exact I.own t (fun e => ht (.inl e))
    · intro d hd
      rw [e1] at hd
      rcases hmem d' hdt d hd with rfl | ⟨hd2, hne⟩
      · rw [hdt, hown1, g3]; exact hR
      · rw [hown _ hne]; exact I.runs d hd2
    · intro d hd x hx
      rw [e1] at hd
      rcases hmem d' hdt d hd with rfl | ⟨hd2, hne⟩
      · rw [hdt]; exact hS x hx
      · exact I.seen d hd2 x hx
    · intro t ht
      rw [e2] at ht
      rw [e1, htxs d' hdt]
      exact .inl (I.dnds t ht)
    · intro d hd hdn
      rw [e1] at hd
      rw [e2] at hdn
      rcases hmem d' hdt d hd with rfl | ⟨hd2, hne⟩
      · rw [hdt] at hdn; exact absurd hdn hnd
      · obtain ⟨j, h1, h2, h3⟩ := I.com d hd2 hdn
        exact ⟨j, h1, by omega, h3⟩
    · intro d hd hdn
      rw [e1] at hd
      rw [e2] at hdn
      rcases hmem d' hdt d hd with rfl | ⟨hd2, hne⟩
      · rw [g2]; exact hen
      · exact I.run d hd2 hdn
    · intro d hd
      rw [e1] at hd
      rcases hmem d' hdt d hd with rfl | ⟨hd2, hne⟩
      · rw [g1, hdt]; exact hbg
      · obtain ⟨b, h1, h2, h3⟩ := I.beg d hd2
        exact ⟨b, h1, by omega, h3⟩
    · intro d hd
      rw [e1] at hd
      rw [hdone]
      rcases hmem d' hdt d hd with rfl | ⟨hd2, hne⟩
      · rw [g1, g3]; exact hsn
      · exact I.snap d hd2
  revert hok
  unfold vstep
  simp only [hsee, hlook]
  split
  · rename_i h1
    have hoe : o = ⟨o.tx, 1, o.item⟩ := by
      obtain ⟨a, b, c⟩ := o
      simp only at h1 ⊢
      rw [h1]
    split
    · rename_i hin
      intro hok
      refine hput { begD s k o.tx with seen := (begD s k o.tx).seen ++ [⟨o.tx, o.item, o.tx⟩] } _ d4 rfl rfl rfl rfl rfl rfl hok ?_ (fun x hx => ?_)
      · have := Runs.own o.item hrun hin
        rw [← hoe] at this
        exact this
      · rcases List.mem_append.1 hx with hx | hx
        · exact hseen x hx
        · rw [List.mem_singleton.1 hx]
    · rename_i hin
      intro hok
      refine hput { begD s k o.tx with seen := (begD s k o.tx).seen ++ [⟨o.tx, o.item, (begD s k o.tx).snap.getD (o.item.toNat - 1) 0⟩] } _ d4 rfl rfl rfl rfl rfl rfl hok ?_ (fun x hx => ?_)
      · have := Runs.other o.item ((begD s k o.tx).snap.getD (o.item.toNat - 1) 0) hrun hin rfl
        rw [← hoe] at this
        exact this
      · rcases List.mem_append.1 hx with hx | hx
        · exact hseen x hx
        · rw [List.mem_singleton.1 hx]
  · split
    · rename_i h1 h2
      have hoe : o = ⟨o.tx, 2, o.item⟩ := by
        obtain ⟨a, b, c⟩ := o
        simp only at h2 ⊢
        rw [h2]
      intro hok
      refine hput { begD s k o.tx with wrote := (begD s k o.tx).wrote ++ [o.item] } _ d4 rfl rfl rfl rfl rfl rfl hok ?_ hseen
      have := Runs.write o.item hrun
      rw [← hoe] at this
      exact this
    · rename_i h1 h2
      have hskip : Runs o.tx (fun i f => f = (begD s k o.tx).snap.getD (i.toNat - 1) 0) (ownL (l.take k) o.tx ++ [o]) (begD s k o.tx).seen (begD s k o.tx).wrote := Runs.skip o.what o.item hrun (by omega)
      have hsame : VOk (k + 1) (openS s k o.tx) → InvS l (k + 1) (openS s k o.tx) := fun hok =>
        hput (begD s k o.tx) _ d4 rfl rfl rfl (by rw [openS_dput _ _ _ _ d4]; rfl) rfl rfl hok hskip hseen
      split
      · rename_i h3
        split
        · rename_i hm
          intro hok
          have hm2 := hmay _ _ hm
          change (!sinceD (begD s k o.tx).began (doneD (openS s k o.tx)) fun i => decide (i ∈ (begD s k o.tx).wrote)) = true at hm2
          rw [doneD_put (s := s) (d := begD s k o.tx) (by rw [d4]; exact hnd) (openS s k o.tx) rfl rfl] at hm2
          have hm3 := since_false (by simpa using hm2)
          have hdn2 : ∀ t, t ∈ s.dn ++ [o.tx] ↔ t ∈ s.dn ∨ t = o.tx := fun t => by rw [List.mem_append, List.mem_singleton]
          have hdt : ({ begD s k o.tx with ended := (k : Int) } : Dl).tx = o.tx := d4
          have e1 : doneD { openS s k o.tx with ds := dput (openS s k o.tx).ds { begD s k o.tx with ended := (k : Int) }, dn := (openS s k o.tx).dn ++ [o.tx], last := setsL o.tx (begD s k o.tx).wrote (openS s k o.tx).last } = doneD s ++ [{ begD s k o.tx with ended := (k : Int) }] := by
            unfold doneD
            show (s.dn ++ [o.tx]).map _ = _
            rw [List.map_append]
            congr 1
            · refine List.map_congr_left fun t ht => ?_
              rw [openS_dput _ _ _ _ hdt, dget_put, if_neg (fun e => hnd (by rw [← hdt, e]; exact ht))]
            · show [(dget (dput (openS s k o.tx).ds { begD s k o.tx with ended := (k : Int) }) o.tx).getD _] = [_]
              rw [dget_put, if_pos hdt]; rfl
          have hbk : (begD s k o.tx).began ≤ k := by
            obtain ⟨b, b1, b2, _⟩ := hbg
            omega
          have hnew : ∀ d ∈ doneD s, atOnceD d { begD s k o.tx with ended := (k : Int) } = true → d.ended > (begD s k o.tx).began := fun d hd h => by
            have h0 := hended d hd
            unfold atOnceD at h
            simp only [Bool.and_eq_true, Bool.or_eq_true, decide_eq_true_eq] at h
            omega
          have hsym : ∀ a b : Dl, atOnceD a b = atOnceD b a := fun a b => by unfold atOnceD; rw [Bool.and_comm]
          refine ⟨hok, hnodup _ hdt, ?_, ?_, ?_, ?_, ?_, ?_, ?_, ?_, ?_, ?_, ?_, ?_⟩
          · intro t ht
            have ht2 : ¬(t ∈ s.ds.map (·.tx) ∨ t = o.tx) := fun h => ht ((htxs _ hdt t).2 h)
            rw [hown t (fun e => ht2 (.inr e))]
            exact I.own t (fun e => ht2 (.inl e))
          · intro d hd
            rcases hmem _ hdt d hd with rfl | ⟨hd2, hne⟩
            · rw [hdt, hown1]; exact hskip
            · rw [hown _ hne]; exact I.runs d hd2
          · intro d hd x hx
            rcases hmem _ hdt d hd with rfl | ⟨hd2, hne⟩
            · rw [hdt]; exact hseen x hx
            · exact I.seen d hd2 x hx
          · intro t ht
            refine (htxs _ hdt t).2 ?_
            rcases (hdn2 t).1 ht with h | h
            · exact .inl (I.dnds t h)
            · exact .inr h
          · exact List.nodup_append.2 ⟨I.dnN, by simp, fun x hx y hy e => hnd (by rw [List.mem_singleton] at hy; rw [← hy, ← e]; exact hx)⟩
          · intro d hd hdn
            rcases hmem _ hdt d hd with rfl | ⟨hd2, hne⟩
            · refine ⟨k, rfl, by omega, ?_, hbk⟩
              rw [hdt, ho]; exact congrArg some (rightB_end hr h3)
            · obtain ⟨j, h1, h2, h3⟩ := I.com d hd2 (((hdn2 _).1 hdn).resolve_right hne)
              exact ⟨j, h1, by omega, h3⟩
          · intro d hd hdn
            rcases hmem _ hdt d hd with rfl | ⟨hd2, hne⟩
            · exact absurd ((hdn2 _).2 (.inr hdt)) hdn
            · exact I.run d hd2 (fun h => hdn ((hdn2 _).2 (.inl h)))
          · intro d hd
            rcases hmem _ hdt d hd with rfl | ⟨hd2, hne⟩
            · rw [hdt]; exact hbg
            · obtain ⟨b, h1, h2, h3⟩ := I.beg d hd2
              exact ⟨b, h1, by omega, h3⟩
          · rw [e1, List.pairwise_append]
            refine ⟨I.sorted, by simp, fun x hx y hy => ?_⟩
            rw [List.mem_singleton.1 hy]
            exact (hended x hx).2
          · rw [e1, lastOf_snoc, ← I.last]
            show setsL o.tx _ _ = setsL (begD s k o.tx).tx _ _
            rw [d4]; rfl
          · have hflt : ∀ b : Int, b ≤ k → (doneD s ++ [{ begD s k o.tx with ended := (k : Int) }]).filter (fun e => decide (e.ended < b)) = (doneD s).filter (fun e => decide (e.ended < b)) := fun b hb => by
              have h0 : [({ begD s k o.tx with ended := (k : Int) } : Dl)].filter (fun e => decide (e.ended < b)) = [] := List.filter_eq_nil_iff.2 fun x hx => by
                rw [List.mem_singleton.1 hx]
                simp only [decide_eq_true_eq]; omega
              rw [List.filter_append, h0, List.append_nil]
            intro d hd
            rw [e1]
            rcases hmem _ hdt d hd with rfl | ⟨hd2, hne⟩
            · rw [hflt _ hbk]; exact hsn
            · obtain ⟨b, h1, h2, _⟩ := I.beg d hd2
              rw [hflt _ (by omega)]; exact I.snap d hd2
          · intro d hd e he hne hat i hi
            rw [e1] at hd he
            rcases List.mem_append.1 hd with hd | hd <;> rcases List.mem_append.1 he with he | he
            · exact I.apart d hd e he hne hat i hi
            · rw [List.mem_singleton.1 he] at hat ⊢
              have := hm3 d hd (hnew d hd hat) i hi
              simpa using this
            · rw [List.mem_singleton.1 hd] at hat hi
              rw [hsym] at hat
              intro hi2
              have := hm3 e he (hnew e he hat) i hi2
              simp at this
              exact this hi
            · rw [List.mem_singleton.1 hd, List.mem_singleton.1 he] at hne
              exact absurd rfl hne
        · exact hsame
      · exact hsame
theorem invS_run {R : VRules} (hsee : ∀ s d i, R.see s d i = d.snap.getD (i.toNat - 1) 0) (hlook : ∀ s d i, R.look s d i = s.looks) (hmay : ∀ s d, R.may s d = true → snapR.may s d = true) {l : List HOp} (hk : okH l) :
    ∀ (r : List HOp) (k : Nat) (s : VSt), r = l.drop k → k ≤ l.length → InvS l k s → InvS l l.length (vrun R k r s)
  | [], k, s, hr, hkl, I => by
    have hl : l.length = k := by
      have := congrArg List.length hr
      rw [List.length_nil, List.length_drop] at this; omega
    rw [hl]; exact I
  | o :: t, k, s, hr, hkl, I => by
    have ho : l[k]? = some o := by
      have := congrArg (·[0]?) hr
      rw [List.getElem?_drop] at this
      simpa using this.symm
    have ht : t = l.drop (k + 1) := by
      have h := drop_at ho
      rw [← hr] at h
      exact (List.cons.inj h).2
    exact invS_run hsee hlook hmay hk t (k + 1) _ ht (List.getElem?_eq_some_iff.1 ho).1 (invS_step hsee hlook hmay hk ho I)
theorem snap_inv {l : List HOp} (hk : okH l) : InvS l l.length (playV snapR l) := invS_run (fun _ _ _ => rfl) (fun _ _ _ => rfl) (fun _ _ h => h) hk l 0 vs00 rfl (Nat.zero_le _) (invS0 l)
theorem dan_inv {l : List HOp} (hk : okH l) : InvS l l.length (playV danR l) := invS_run (fun _ _ _ => rfl) (fun _ _ _ => rfl) (fun _ _ h => (Bool.and_eq_true _ _ ▸ h).1) hk l 0 vs00 rfl (Nat.zero_le _) (invS0 l)
end Go.Proofs.Ytigmgeaimcglhaa

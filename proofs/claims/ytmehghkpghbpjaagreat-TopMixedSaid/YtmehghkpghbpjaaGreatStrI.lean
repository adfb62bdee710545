
/-
  PLAIN: what a runner keeps of what it told (KInv).
-/
import Derived.Test.YtmehghkpghbpjaaGreatQ25
import Derived.Test.YtmehghkpghbpjaaGreatQ33

namespace Go.Proofs.YtmehghkpghbpjaaGreat
open Go.RowKit

/-- A lock that serves an op is held. -/
def Cov (H : List HOp) (o : HOp) : Prop := ∃ y ∈ H, y.tx = o.tx ∧ y.what = (lockOf o).what ∧ (lockOf o).item ≤ y.item
/-- What stood there before an op, and living: at odds with it. -/
def RigL (l : List HOp) : Prop := ∀ k x, l[k]? = some x → endsB x = false → ∀ p ∈ l.take k, endsB p = false → p.tx ≠ x.tx → p.item = x.item → (p.what = 2 ∨ x.what = 2) → endIn p.tx (l.take k) = true
theorem end_what {o : HOp} (hr : rightB o = true) : endsB o = decide (3 ≤ o.what) := by
  obtain ⟨_, _, _, h5, _⟩ := rightB_get hr
  unfold endsB
  by_cases h : 3 ≤ o.what
  · rw [decide_eq_true h, decide_eq_true (by omega)]
  · rw [decide_eq_false h, decide_eq_false (by omega)]
theorem endIn_one (tx : Int) (l : List HOp) {o : HOp} (hr : rightB o = true) : endIn tx (l ++ [o]) = (endIn tx l || (decide (o.tx = tx) && endsB o)) := by
  rw [endIn_snoc, end_what hr]
  congr 1
  by_cases h1 : o.tx = tx <;> by_cases h2 : 3 ≤ o.what <;> simp [h1, h2]
theorem rig_snoc {l : List HOp} {o : HOp} (h : RigL l) (ho : endsB o = false → ∀ p ∈ l, endsB p = false → p.tx ≠ o.tx → p.item = o.item → (p.what = 2 ∨ o.what = 2) → endIn p.tx l = true) : RigL (l ++ [o]) := by
  intro k x hk hx p hp
  rcases Nat.lt_or_ge k l.length with hlt | hge
  · rw [List.getElem?_append_left hlt] at hk
    rw [List.take_append_of_le_length (by omega)] at hp ⊢
    exact h k x hk hx p hp
  · have hk2 : k = l.length := by
      have := (List.getElem?_eq_some_iff.1 hk).1
      simp at this; omega
    subst hk2
    rw [List.getElem?_append_right (Nat.le_refl _)] at hk
    simp at hk
    subst hk
    rw [List.take_append_of_le_length (Nat.le_refl _), List.take_length] at hp ⊢
    exact ho hx p hp
theorem good_snoc : ∀ {l : List HOp} {o : HOp}, goodOwn l → (∀ e ∈ l, endsB e = false) → goodOwn (l ++ [o])
  | [], o, _, _ => ⟨fun _ => rfl, trivial⟩
  | a :: l, o, h, he => ⟨fun e => (by rw [he a (List.mem_cons_self ..)] at e; cases e), good_snoc h.2 fun e h => he e (List.mem_cons_of_mem _ h)⟩
/-- What a runner keeps of what it told; x: whose locks are about to go. -/
structure KInv (R : Int → List HOp) (x : Option Int) (s : RSt) : Prop where
  rgt : ∀ o ∈ s.told, rightB o = true
  good : ∀ t, goodOwn (ownL s.told t)
  rig : RigL s.told
  cov : ∀ o ∈ s.told, endsB o = false → endIn o.tx s.told = false → Cov s.T.H o
  dead : ∀ t, endIn t s.told = true → (x ≠ some t → ∀ y ∈ s.T.H, y.tx ≠ t) ∧ s.wt t = none ∧ s.bh t = [] ∧ (s.ab t = true ∨ R t = [])
  held : ∀ t o, s.wt t = some o → lockOf o ∈ s.T.W ∨ Cov s.T.H o
  seq : ∀ t p e q, s.bh t ++ R t = p ++ e :: q → endsB e = true → q = []
  vic : ∀ v ∈ s.vic, ∃ o ∈ s.told, o.tx = v ∧ o.what = 4
  abd : ∀ t, s.ab t = true → endIn t s.told = true
theorem own_noend {l : List HOp} (hr : ∀ o ∈ l, rightB o = true) {t : Int} (h : endIn t l = false) : ∀ e ∈ ownL l t, endsB e = false := by
  intro e he
  unfold ownL at he
  obtain ⟨h1, h2⟩ := List.mem_filter.1 he
  have h2 : e.tx = t := by simpa using h2
  rw [end_what (hr e h1)]
  unfold endIn at h
  have := List.any_eq_false.1 h e h1
  rw [decide_eq_true_iff] at this
  exact decide_eq_false fun h3 => this ⟨h2, h3⟩
theorem good_told {l : List HOp} {o : HOp} (hr : ∀ o ∈ l, rightB o = true) (hg : ∀ t, goodOwn (ownL l t)) (hd : endIn o.tx l = false) : ∀ t, goodOwn (ownL (l ++ [o]) t) := by
  intro t
  rw [ownM_snoc]
  by_cases h : o.tx = t
  · subst h
    rw [if_pos rfl]
    exact good_snoc (hg _) (own_noend hr hd)
  · rw [if_neg h, List.append_nil]; exact hg t
theorem right_told {l : List HOp} {o : HOp} (hr : ∀ o ∈ l, rightB o = true) (ho : rightB o = true) : ∀ p ∈ l ++ [o], rightB p = true := fun p hp => by
  rcases List.mem_append.1 hp with h | h
  · exact hr p h
  · rw [List.mem_singleton.1 h]; exact ho
/-- Two ops at odds are not both served. -/
theorem cov_odds {T : LTab} (I : LInv T) {p o : HOp} (hp : Cov T.H p) (ho : Cov T.H o) (hne : p.tx ≠ o.tx) (hi : p.item = o.item) (h2 : p.what = 2 ∨ o.what = 2) : False := by
  obtain ⟨y, hy, y1, y2, y3⟩ := hp
  obtain ⟨z, hz, z1, z2, z3⟩ := ho
  unfold lockOf at y2 y3 z2 z3
  simp only at y2 y3 z2 z3
  have hyz : y ≠ z := fun e => hne (by rw [← y1, e, z1])
  have ha : Apart y z := by
    have h := I.apart
    rw [List.pairwise_iff_getElem] at h
    obtain ⟨i, hi, rfl⟩ := List.getElem_of_mem hy
    obtain ⟨j, hj, rfl⟩ := List.getElem_of_mem hz
    rcases Nat.lt_trichotomy i j with h1 | h1 | h1
    · exact h i j hi hj h1
    · subst h1; exact absurd rfl hyz
    · exact (h j i hj hi h1).comm
  have hy6 := (lright_get (I.rightH y hy)).2.2.2.2
  have hz6 := (lright_get (I.rightH z hz)).2.2.2.2
  have hl : loddsB y z = true := by
    rw [lodds_get]
    refine ⟨by rw [y1, z1]; exact hne, by rw [y2, z2, hi], ?_⟩
    rcases h2 with h | h
    · rw [if_pos h] at y3; left; omega
    · rw [if_pos h] at z3; right; omega
  rw [ha.1] at hl; cases hl
theorem KInv.tell {R : Int → List HOp} {s : RSt} (K : KInv R none s) (I : LInv s.T) {o : HOp} (hr : rightB o = true) (he : endsB o = false) (hd : endIn o.tx s.told = false) (hc : Cov s.T.H o) : KInv R none (s.tells o) := by
  have hdd : ∀ t, endIn t (s.told ++ [o]) = endIn t s.told := fun t => by rw [endIn_one t _ hr, he, Bool.and_false, Bool.or_false]
  refine ⟨right_told K.rgt hr, good_told K.rgt K.good hd, rig_snoc K.rig fun _ p hp hpe hne hi h2 => ?_, fun p hp hpe hpd => ?_, fun t ht => ?_, K.held, K.seq, fun v hv => ?_, fun t ht => ?_⟩
  · cases hdp : endIn p.tx s.told with
    | true => rfl
    | false => exact (cov_odds I (K.cov p hp hpe hdp) hc hne hi h2).elim
  · unfold RSt.tells at hp hpd
    simp only [hdd] at hpd
    rcases List.mem_append.1 hp with h | h
    · exact K.cov p h hpe hpd
    · rw [List.mem_singleton.1 h]; exact hc
  · unfold RSt.tells at ht
    simp only [hdd] at ht
    exact K.dead t ht
  · obtain ⟨p, hp, h1⟩ := K.vic v hv
    exact ⟨p, List.mem_append_left _ hp, h1⟩
  · unfold RSt.tells
    simp only [hdd, K.abd t ht]
/-- A deal's end is told; its locks are still held. -/
theorem KInv.tellEnd {R : Int → List HOp} {s : RSt} (K : KInv R none s) {o : HOp} (hr : rightB o = true) (he : endsB o = true) (hd : endIn o.tx s.told = false) (hw : s.wt o.tx = none) (hb : s.bh o.tx = []) (hR : s.ab o.tx = true ∨ R o.tx = []) : KInv R (some o.tx) (s.tells o) := by
  have hdd : ∀ t, endIn t (s.told ++ [o]) = (endIn t s.told || decide (o.tx = t)) := fun t => by rw [endIn_one t _ hr, he, Bool.and_true]
  refine ⟨right_told K.rgt hr, good_told K.rgt K.good hd, rig_snoc K.rig fun h => (by rw [he] at h; cases h), fun p hp hpe hpd => ?_, fun t ht => ?_, K.held, K.seq, fun v hv => ?_, fun t ht => ?_⟩
  · unfold RSt.tells at hp hpd
    simp only [hdd, Bool.or_eq_false_iff] at hpd
    rcases List.mem_append.1 hp with h | h
    · exact K.cov p h hpe hpd.1
    · rw [List.mem_singleton.1 h] at hpe; rw [he] at hpe; cases hpe
  · unfold RSt.tells at ht ⊢
    simp only [hdd, Bool.or_eq_true, decide_eq_true_eq] at ht
    by_cases e : o.tx = t
    · subst e
      exact ⟨fun h => absurd rfl h, hw, hb, hR⟩
    · have := K.dead t (ht.resolve_right e)
      exact ⟨fun _ => this.1 (fun h => by cases h), this.2⟩
  · obtain ⟨p, hp, h1⟩ := K.vic v hv
    exact ⟨p, List.mem_append_left _ hp, h1⟩
  · unfold RSt.tells
    simp only [hdd, K.abd t ht, Bool.true_or]

/-! ### Locks that are held, while a table changes. -/
def CovL (H : List HOp) (l : HOp) : Prop := ∃ y ∈ H, y.tx = l.tx ∧ y.what = l.what ∧ l.item ≤ y.item
theorem cov_l {H : List HOp} {o : HOp} : Cov H o ↔ CovL H (lockOf o) := Iff.rfl
theorem covL_hold {H : List HOp} (h : H.Pairwise Apart) {x l : HOp} (hless : ∀ y ∈ H, y.tx = x.tx → y.what = x.what → y.item < x.item) (hc : CovL H l) : CovL (holdL H x) l := by
  obtain ⟨y, hy, y1, y2, y3⟩ := hc
  by_cases ho : ofP x.tx x.what y = true
  · have h1 := ofP_get.1 ho
    exact ⟨x, (mem_holdL h).2 (.inl rfl), by rw [← h1.1, y1], by rw [← h1.2, y2], by have := hless y hy h1.1 h1.2; omega⟩
  · exact ⟨y, (mem_holdL h).2 (.inr ⟨hy, by simpa using ho⟩), y1, y2, y3⟩
theorem fold_cov : ∀ (r : List HOp) (s : FSt), FInv s r → ∀ l, CovL s.H l → CovL (r.foldl freeStep s).H l
  | [], _, _, _, h => h
  | x :: r, s, I, l, h => by
    refine fold_cov r (freeStep s x) (free_step I) l ?_
    unfold freeStep
    split
    · exact covL_hold I.apart (I.less x (List.mem_append_right _ List.mem_cons_self)) h
    · exact h
theorem fold_out : ∀ (r : List HOp) (s : FSt), FInv s r → (∀ l ∈ s.out, CovL s.H l) → ∀ l ∈ (r.foldl freeStep s).out, CovL (r.foldl freeStep s).H l
  | [], _, _, h => h
  | x :: r, s, I, h => by
    refine fold_out r (freeStep s x) (free_step I) ?_
    unfold freeStep
    split
    · intro l hl
      rcases List.mem_append.1 hl with hl | hl
      · exact covL_hold I.apart (I.less x (List.mem_append_right _ List.mem_cons_self)) (h l hl)
      · rw [List.mem_singleton.1 hl]
        exact ⟨x, (mem_holdL I.apart).2 (.inl rfl), rfl, rfl, Int.le_refl _⟩
    · exact h
theorem fold_from : ∀ (r : List HOp) (s : FSt), ∀ y ∈ (r.foldl freeStep s).H, y ∈ s.H ∨ y ∈ r
  | [], _, _, h => .inl h
  | x :: r, s, y, h => by
    rcases fold_from r (freeStep s x) y h with h1 | h1
    · unfold freeStep at h1
      split at h1
      · rcases mem_holdL' h1 with rfl | h2
        · exact .inr (List.mem_cons_self ..)
        · exact .inl h2
      · exact .inl h1
    · exact .inr (List.mem_cons_of_mem _ h1)
theorem finv0 {T : LTab} (I : LInv T) (tx : Int) : FInv ⟨T.H.filter (notTx tx), [], []⟩ (T.W.filter (notTx tx)) :=
    ⟨fun x hx => I.rightH x (List.mem_filter.1 hx).1, fun x hx => I.rightW x (List.mem_filter.1 hx).1, I.apart.filter _, by
      show ((T.W.filter (notTx tx)).map (·.tx)).Nodup
      exact I.wtx.sublist ((List.filter_sublist).map _), fun u x v h => (by cases u <;> cases h), fun x hx y hy => I.less x (List.mem_filter.1 hx).1 y (List.mem_filter.1 hy).1⟩
theorem notTx_get {tx : Int} {y : HOp} : notTx tx y = true ↔ y.tx ≠ tx := by simp [notTx]
theorem KInv.free {R : Int → List HOp} {s : RSt} {tx : Int} (K : KInv R (some tx) s) (hI : WInvX s tx) (hd : endIn tx s.told = true) : KInv R none { s with T := freeT s.T tx } := by
  have F := finv0 hI.inv tx
  have hH : ∀ y, y ∈ (freeT s.T tx).H → (y ∈ s.T.H ∧ y.tx ≠ tx) ∨ (y ∈ s.T.W ∧ y.tx ≠ tx) := fun y hy => by
    rcases fold_from _ _ y hy with h | h
    · have := List.mem_filter.1 h; exact .inl ⟨this.1, notTx_get.1 this.2⟩
    · have := List.mem_filter.1 h; exact .inr ⟨this.1, notTx_get.1 this.2⟩
  have hC : ∀ l : HOp, l.tx ≠ tx → CovL s.T.H l → CovL (freeT s.T tx).H l := fun l hl hc => by
    obtain ⟨y, hy, y1, y2, y3⟩ := hc
    exact fold_cov _ _ F l ⟨y, List.mem_filter.2 ⟨hy, notTx_get.2 (by rw [y1]; exact hl)⟩, y1, y2, y3⟩
  have hO := fold_out _ _ F (fun l hl => by cases hl)
  have hP := freeS_perm s.T tx
  have hne : ∀ t, endIn t s.told = false → t ≠ tx := fun t h e => by rw [e, hd] at h; cases h
  refine ⟨K.rgt, K.good, K.rig, fun o ho he hod => hC (lockOf o) (hne _ hod) (K.cov o ho he hod), fun t ht => ?_, fun t o hw => ?_, K.seq, K.vic, K.abd⟩
  · obtain ⟨d1, d2, d3⟩ := K.dead t ht
    refine ⟨fun _ y hy e => ?_, d2, d3⟩
    rcases hH y hy with ⟨h1, h2⟩ | ⟨h1, h2⟩
    · exact d1 (fun e2 => h2 (by injection e2 with e2; rw [e, e2])) y h1 e
    · have := hI.tab y h1 h2
      rw [e, d2] at this; cases this
  · have hot := (hI.wt t o hw).1
    have htx : t ≠ tx := fun e => by
      have := (K.dead tx hd).2.1
      rw [← e, hw] at this; cases this
    rcases K.held t o hw with h | h
    · have : lockOf o ∈ s.T.W.filter (notTx tx) := List.mem_filter.2 ⟨h, notTx_get.2 (by show o.tx ≠ tx; rw [hot]; exact htx)⟩
      rcases List.mem_append.1 (hP.mem_iff.2 this) with h1 | h1
      · exact .inl h1
      · exact .inr (hO (lockOf o) h1)
    · exact .inr (hC (lockOf o) (by show o.tx ≠ tx; rw [hot]; exact htx) h)
/-- A lock is asked for and had. -/
theorem KInv.ask {R : Int → List HOp} {s : RSt} (K : KInv R none s) (I : LInv s.T) {o : HOp} (hd : endIn o.tx s.told = false) {T' : LTab} (hq : askF s.T (lockOf o) = (true, 0, T')) : KInv R none { s with T := T' } ∧ Cov T'.H o := by
  unfold askF at hq
  split at hq
  · cases hq
  split at hq
  · cases hq
  split at hq
  · rename_i h
    injection hq with _ h2
    injection h2 with _ h2
    subst h2
    obtain ⟨y, hy, h3⟩ := List.any_eq_true.1 h
    rw [Bool.and_eq_true, decide_eq_true_eq] at h3
    have h4 := ofP_get.1 h3.1
    exact ⟨K, y, hy, h4.1, h4.2, h3.2⟩
  · rename_i h
    split at hq
    · injection hq with _ h2
      injection h2 with _ h2
      subst h2
      have hless : ∀ y ∈ s.T.H, y.tx = (lockOf o).tx → y.what = (lockOf o).what → y.item < (lockOf o).item := fun y hy e1 e2 => by
        have h5 : ¬ (lockOf o).item ≤ y.item := fun h6 => h (List.any_eq_true.2 ⟨y, hy, by rw [Bool.and_eq_true, decide_eq_true_eq]; exact ⟨ofP_get.2 ⟨e1, e2⟩, h6⟩⟩)
        omega
      have hC : ∀ l, CovL s.T.H l → CovL (holdL s.T.H (lockOf o)) l := fun l hc => covL_hold I.apart hless hc
      refine ⟨⟨K.rgt, K.good, K.rig, fun p hp he hpd => hC (lockOf p) (K.cov p hp he hpd), fun t ht => ⟨fun _ y hy e => ?_, (K.dead t ht).2⟩, fun t p hw => (K.held t p hw).imp id (fun h => hC (lockOf p) h), K.seq, K.vic, K.abd⟩, ⟨lockOf o, (mem_holdL I.apart).2 (.inl rfl), rfl, rfl, Int.le_refl _⟩⟩
      rcases mem_holdL' hy with rfl | h2
      · have e : o.tx = t := e
        rw [e, ht] at hd; cases hd
      · exact (K.dead t ht).1 (fun h => by cases h) y h2 e
    · cases hq
/-- A lock is asked for, and it waits. -/
theorem KInv.wait {R : Int → List HOp} {s : RSt} (K : KInv R none s) {o : HOp} (hd : endIn o.tx s.told = false) {T' : LTab} (hq : askF s.T (lockOf o) = (false, 0, T')) : KInv R none { s with T := T', wt := updR s.wt o.tx (some o) } := by
  unfold askF at hq
  split at hq
  · cases hq
  split at hq
  · cases hq
  split at hq
  · cases hq
  split at hq
  · cases hq
  · injection hq with _ h2
    injection h2 with _ h2
    subst h2
    refine ⟨K.rgt, K.good, K.rig, K.cov, fun t ht => ?_, fun t p hw => ?_, K.seq, K.vic, K.abd⟩
    · obtain ⟨d1, d2, d3⟩ := K.dead t ht
      refine ⟨d1, ?_, d3⟩
      show updR s.wt o.tx (some o) t = none
      rw [updR_ne (fun e => by rw [← e, ht] at hd; cases hd)]; exact d2
    · unfold updR at hw
      dsimp only at hw
      split at hw
      · injection hw with hw
        subst hw
        exact .inl (List.mem_append_right _ (List.mem_singleton.2 rfl))
      · exact (K.held t p hw).imp (List.mem_append_left _) id
/-- What waited is told. -/
theorem KInv.woken {R : Int → List HOp} {s : RSt} (K : KInv R none s) (hI : WInv s) {tx : Int} {o : HOp} (hw : s.wt tx = some o) (hW : s.T.W.any (ofTx tx) = false) : KInv R none { s with wt := updR s.wt tx none, told := s.told ++ [o] } := by
  obtain ⟨h1, h2, h3⟩ := hI.wt tx o hw
  have hd : endIn o.tx s.told = false := by
    cases h : endIn o.tx s.told with
    | false => rfl
    | true => have := (K.dead _ h).2.1; rw [h1, hw] at this; cases this
  have hc : Cov s.T.H o := by
    rcases K.held tx o hw with h | h
    · have := List.any_eq_false.1 hW _ h
      simp [ofTx, lockOf, h1] at this
    · exact h
  have K1 : KInv R none { s with wt := updR s.wt tx none } := ⟨K.rgt, K.good, K.rig, K.cov, fun t ht => by
    obtain ⟨d1, d2, d3⟩ := K.dead t ht
    refine ⟨d1, ?_, d3⟩
    show updR s.wt tx none t = none
    unfold updR
    split
    · rfl
    · exact d2, fun t p hp => by
    unfold updR at hp
    dsimp only at hp
    split at hp
    · cases hp
    · exact K.held t p hp, K.seq, K.vic, K.abd⟩
  exact K1.tell hI.inv h2 (by rw [← endB_endsB]; exact h3) hd hc
theorem KInv.aborted {R : Int → List HOp} {s : RSt} (K : KInv R none s) {tx : Int} (h6 : tx ∈ sixI) (hd : endIn tx s.told = false) : KInv R (some tx) (s.aborts tx) := by
  have hr : rightB (⟨tx, 4, 0⟩ : HOp) = true := by
    have := mem_six.1 h6
    unfold rightB txB endsB
    simp; omega
  have he : endsB (⟨tx, 4, 0⟩ : HOp) = true := rfl
  have hdd : ∀ t, endIn t (s.told ++ [⟨tx, 4, 0⟩]) = (endIn t s.told || decide (tx = t)) := fun t => by rw [endIn_one t _ hr, he, Bool.and_true]
  refine ⟨right_told K.rgt hr, good_told K.rgt K.good hd, rig_snoc K.rig fun h => (by rw [he] at h; cases h), fun p hp hpe hpd => ?_, fun t ht => ?_, fun t p hw => ?_, fun t p e q h => ?_, fun v hv => ?_, fun t ht => ?_⟩
  · unfold RSt.aborts at hp hpd
    simp only [hdd, Bool.or_eq_false_iff] at hpd
    rcases List.mem_append.1 hp with h | h
    · exact K.cov p h hpe hpd.1
    · rw [List.mem_singleton.1 h] at hpe; rw [he] at hpe; cases hpe
  · unfold RSt.aborts at ht ⊢
    simp only [hdd, Bool.or_eq_true, decide_eq_true_eq] at ht
    dsimp only
    by_cases e : tx = t
    · subst e
      exact ⟨fun h => absurd rfl h, updR_same .., updR_same .., .inl (updR_same ..)⟩
    · have := K.dead t (ht.resolve_right e)
      rw [updR_ne (fun h => e h.symm), updR_ne (fun h => e h.symm), updR_ne (fun h => e h.symm)]
      exact ⟨fun _ => this.1 (fun h => by cases h), this.2⟩
  · unfold RSt.aborts updR at hw
    dsimp only at hw
    split at hw
    · cases hw
    · exact K.held t p hw
  · unfold RSt.aborts updR at h
    dsimp only at h
    split at h
    · intro he2
      rw [List.nil_append] at h
      exact K.seq t (s.bh t ++ p) e q (by rw [h, List.append_assoc]) he2
    · exact K.seq t p e q h
  · unfold RSt.aborts at hv ⊢
    dsimp only at hv ⊢
    rcases List.mem_append.1 hv with h | h
    · obtain ⟨p, hp, h1⟩ := K.vic v h
      exact ⟨p, List.mem_append_left _ hp, h1⟩
    · exact ⟨⟨tx, 4, 0⟩, List.mem_append_right _ (List.mem_singleton.2 rfl), (List.mem_singleton.1 h).symm, rfl⟩
  · unfold RSt.aborts at ht ⊢
    dsimp only at ht ⊢
    simp only [hdd]
    by_cases e : tx = t
    · simp [e]
    · rw [updR_ne (fun h => e h.symm)] at ht
      rw [K.abd t ht, Bool.true_or]
theorem KInv.shift {R : Int → List HOp} {s : RSt} (K : KInv R none s) {tx : Int} {o : HOp} {t : List HOp} (hb : s.bh tx = o :: t) : KInv R none { s with bh := updR s.bh tx t } ∧ endIn tx s.told = false ∧ (endsB o = true → t = [] ∧ R tx = []) := by
  have hd : endIn tx s.told = false := by
    cases h : endIn tx s.told with
    | false => rfl
    | true => have := (K.dead _ h).2.2.1; rw [hb] at this; cases this
  refine ⟨⟨K.rgt, K.good, K.rig, K.cov, fun u hu => ?_, K.held, fun u p e q h => ?_, K.vic, K.abd⟩, hd, fun he => ?_⟩
  · obtain ⟨d1, d2, d3, d4⟩ := K.dead u hu
    refine ⟨d1, d2, ?_, d4⟩
    show updR s.bh tx t u = []
    rw [updR_ne (fun e => by rw [e, hd] at hu; cases hu)]; exact d3
  · unfold updR at h
    dsimp only at h
    split at h
    · rename_i e2
      subst e2
      exact K.seq u (o :: p) e q (by rw [hb, List.cons_append, h, List.cons_append])
    · exact K.seq u p e q h
  · have := K.seq tx [] o (t ++ R tx) (by rw [hb]; rfl) he
    exact List.append_eq_nil_iff.1 this
end Go.Proofs.YtmehghkpghbpjaaGreat


/-
  PLAIN LAW (Fekete): with nobody between there is an order by which all goes as if one behind the other.
-/
import Derived.Test.YtigmgeaimcglhaaValidX

namespace Go.Proofs.Ytigmgeaimcglhaa
open Go.RowKit

theorem snocRec {α : Type} {motive : List α → Prop} (nil : motive []) (snoc : ∀ (l : List α) (a : α), motive l → motive (l ++ [a])) (l : List α) : motive l := by
  have key : ∀ r : List α, motive r.reverse := fun r => by
    induction r with
    | nil => exact nil
    | cons a r ih => rw [List.reverse_cons]; exact snoc _ _ ih
  have := key l.reverse
  rwa [List.reverse_reverse] at this
theorem pw_ext {α : Type} {r : α → α → Prop} (irr : ∀ a, ¬ r a a) (asym : ∀ a b, r a b → ¬ r b a) : ∀ {l m : List α}, l.Pairwise r → m.Pairwise r → (∀ x, x ∈ l ↔ x ∈ m) → l = m
  | [], [], _, _, _ => rfl
  | [], b :: m, _, _, h => by have := (h b).2 List.mem_cons_self; cases this
  | a :: l, [], _, _, h => by have := (h a).1 List.mem_cons_self; cases this
  | a :: l, b :: m, hl, hm, h => by
    rw [List.pairwise_cons] at hl hm
    have hab : a = b := by
      rcases List.mem_cons.1 ((h a).1 List.mem_cons_self) with e | e
      · exact e
      · rcases List.mem_cons.1 ((h b).2 List.mem_cons_self) with e2 | e2
        · exact e2.symm
        · exact absurd (hm.1 a e) (asym _ _ (hl.1 b e2))
    subst hab
    congr 1
    refine pw_ext irr asym hl.2 hm.2 fun x => ⟨fun hx => ?_, fun hx => ?_⟩
    · rcases List.mem_cons.1 ((h x).1 (List.mem_cons_of_mem _ hx)) with e | e
      · rw [e] at hx; exact absurd (hl.1 _ hx) (irr _)
      · exact e
    · rcases List.mem_cons.1 ((h x).2 (List.mem_cons_of_mem _ hx)) with e | e
      · rw [e] at hx; exact absurd (hm.1 _ hx) (irr _)
      · exact e
/-- Who wrote an item last, of deals in their order: that of those that wrote it alone. -/
theorem lastOf_len (l : List Dl) : (lastOf l).length = 6 := by
  induction l using snocRec with
  | nil => rfl
  | snoc l d ih => rw [lastOf_snoc, setsL_len]; exact ih
theorem lastOf_get {i : Int} (hi : 1 ≤ i) (hi2 : i ≤ 6) (l : List Dl) : (∀ d ∈ l, ∀ j ∈ d.wrote, 1 ≤ j ∧ j ≤ 6) → (lastOf l).getD (i.toNat - 1) 0 = (((l.filter fun d => decide (i ∈ d.wrote)).getLast?).map (·.tx)).getD 0 := by
  induction l using snocRec with
  | nil =>
    intro _
    have : i.toNat - 1 = 0 ∨ i.toNat - 1 = 1 ∨ i.toNat - 1 = 2 ∨ i.toNat - 1 = 3 ∨ i.toNat - 1 = 4 ∨ i.toNat - 1 = 5 := by omega
    rcases this with e | e | e | e | e | e <;> rw [e] <;> rfl
  | snoc l d ih =>
    intro h
    rw [lastOf_snoc, setsL_get (lastOf_len l) (h d (by simp)) hi hi2, List.filter_append]
    by_cases hm : i ∈ d.wrote
    · rw [if_pos hm]
      have : [d].filter (fun d => decide (i ∈ d.wrote)) = [d] := by simp [hm]
      rw [this, List.getLast?_append]; simp
    · rw [if_neg hm, ih fun x hx => h x (List.mem_append_left _ hx)]
      have : [d].filter (fun d => decide (i ∈ d.wrote)) = [] := by simp [hm]
      rw [this, List.append_nil]
theorem getD_ext {a b : List Int} (ha : a.length = 6) (hb : b.length = 6) (h : ∀ i : Int, 1 ≤ i → i ≤ 6 → a.getD (i.toNat - 1) 0 = b.getD (i.toNat - 1) 0) : a = b := by
  refine List.ext_getElem (by omega) fun j h1 h2 => ?_
  have := h (j + 1) (by omega) (by omega)
  rw [show ((j : Int) + 1).toNat - 1 = j by omega, List.getD_eq_getElem?_getD, List.getD_eq_getElem?_getD, List.getElem?_eq_getElem h1, List.getElem?_eq_getElem h2] at this
  exact this
/-- Deals one behind the other, each of which saw what those ahead wrote last. -/
theorem byD_lastOf {l : List HOp} (hk : okH l) (q : List Dl) : (∀ d ∈ q, ∀ j ∈ d.wrote, 1 ≤ j ∧ j ≤ 6) → (∀ (p : List Dl) (d : Dl) (r : List Dl), q = p ++ d :: r → Runs d.tx (fun i f => f = (lastOf p).getD (i.toNat - 1) 0) (ownL l d.tx) d.seen d.wrote) → byD l q [0, 0, 0, 0, 0, 0] = some (lastOf q) := by
  induction q using snocRec with
  | nil => intro _ _; rfl
  | snoc q d ih =>
    intro hw hr
    have h1 := ih (fun x hx => hw x (List.mem_append_left _ hx)) fun p x r e => hr p x (r ++ [d]) (by rw [e]; simp)
    have h2 := hr q d [] (by simp)
    have hsim := Runs.sim (la := lastOf q) (lastOf_len q) h2 (fun x hx hw2 => (rightB_get (okH_right hk x (List.mem_filter.1 hx).1)).2.2.2.2.1 hw2) (hw d (by simp))
    have h3 := byD_snoc l d q _ _ h1 (by rw [hsim])
    rw [h3, hsim, lastOf_snoc]
/-- Unlike deals begin and end at unlike ops. -/
theorem InvS.times {l : List HOp} {k : Nat} {s : VSt} (I : InvS l k s) {a b : Dl} (ha : a ∈ doneD s) (hb : b ∈ doneD s) (hne : a.tx ≠ b.tx) : a.began ≠ b.began ∧ a.began ≠ b.ended ∧ a.ended ≠ b.began ∧ a.ended ≠ b.ended := by
  obtain ⟨a1, a2, _⟩ := I.done_at ha
  obtain ⟨b1, b2, _⟩ := I.done_at hb
  obtain ⟨j, e1, _, x1, _⟩ := I.com a a1 a2
  obtain ⟨j2, e2, _, x2, _⟩ := I.com b b1 b2
  obtain ⟨i, f1, _, o1, y1, z1⟩ := I.beg a a1
  obtain ⟨i2, f2, _, o2, y2, z2⟩ := I.beg b b1
  have key : ∀ (m : Nat) (x y : HOp), l[m]? = some x → l[m]? = some y → x.tx = a.tx → y.tx = b.tx → False := fun m x y h1 h2 h3 h4 => by
    rw [h1] at h2
    cases h2
    exact hne (h3.symm.trans h4)
  refine ⟨fun e => ?_, fun e => ?_, fun e => ?_, fun e => ?_⟩
  · have : i = i2 := by omega
    subst this
    exact key i _ _ y1 y2 z1 z2
  · have : i = j2 := by omega
    subst this
    exact key i _ _ y1 x2 z1 rfl
  · have : j = i2 := by omega
    subst this
    exact key j _ _ x1 y2 rfl z2
  · have : j = j2 := by omega
    subst this
    exact key j _ _ x1 x2 rfl rfl
/-- By when a deal goes: when it began, if an edge leads from it; else when it ended. -/
def keyD (ds : List Dl) (d : Dl) : Int := if ds.any (antiD d) then d.began else d.ended
section
variable {l : List HOp} {k : Nat} {s : VSt}
theorem keyD_le (I : InvS l k s) {ds : List Dl} {d : Dl} (hd : d ∈ doneD s) : d.began ≤ keyD ds d ∧ keyD ds d ≤ d.ended := by
  have h := I.done_at hd
  unfold keyD
  split
  · exact ⟨Int.le_refl _, h.2.2.2.1⟩
  · exact ⟨h.2.2.2.1, Int.le_refl _⟩
theorem keyD_ne (I : InvS l k s) {ds : List Dl} {a b : Dl} (ha : a ∈ doneD s) (hb : b ∈ doneD s) (hne : a.tx ≠ b.tx) : keyD ds a ≠ keyD ds b := by
  obtain ⟨h1, h2, h3, h4⟩ := I.times ha hb hne
  unfold keyD
  split <;> split <;> assumption
theorem keyD_time (I : InvS l k s) {ds : List Dl} {a b : Dl} (ha : a ∈ doneD s) (hb : b ∈ doneD s) (h : a.ended < b.began) : keyD ds a < keyD ds b := by
  have h1 := (keyD_le I (ds := ds) ha).2
  have h2 := (keyD_le I (ds := ds) hb).1
  omega
theorem keyD_anti (I : InvS l k s) (hp : NoPiv (doneD s)) {a b : Dl} (ha : a ∈ doneD s) (hb : b ∈ doneD s) (h : antiD a b = true) : keyD (doneD s) a < keyD (doneD s) b := by
  have h1 : keyD (doneD s) a = a.began := by
    unfold keyD
    rw [if_pos (List.any_eq_true.2 ⟨b, hb, h⟩)]
  have h2 : keyD (doneD s) b = b.ended := by
    unfold keyD
    rw [if_neg (fun e => by
      obtain ⟨c, hc, h3⟩ := List.any_eq_true.1 e
      exact hp a ha b hb c hc h h3)]
  rw [h1, h2]
  unfold antiD atOnceD at h
  have hb0 := I.done_at hb
  simp only [Bool.and_eq_true, Bool.or_eq_true, decide_eq_true_eq] at h
  omega
/-- Of two that wrote an item one ended ahead of the other's beginning; so they go by their ends. -/
theorem writers_apart (I : InvS l k s) {a b : Dl} (ha : a ∈ doneD s) (hb : b ∈ doneD s) (hne : a.tx ≠ b.tx) {i : Int} (hi : i ∈ a.wrote) (hi2 : i ∈ b.wrote) : a.ended < b.began ∨ b.ended < a.began := by
  have h1 := I.done_at ha
  have h2 := I.done_at hb
  obtain ⟨_, t2, t3, _⟩ := I.times ha hb hne
  rcases Int.lt_or_le a.ended b.began with h | h
  · exact .inl h
  · rcases Int.lt_or_le b.ended a.began with h' | h'
    · exact .inr h'
    · exfalso
      refine I.apart a ha b hb hne ?_ i hi hi2
      unfold atOnceD
      rw [decide_eq_true (show a.began < b.ended by omega), decide_eq_true (show b.began < a.ended by omega)]
      simp
theorem same_deal (I : InvS l k s) {a b : Dl} (ha : a ∈ doneD s) (hb : b ∈ doneD s) (h : a.tx = b.tx) : a = b := by
  have g1 := dget_mem I.nodup (I.done_at ha).1
  have g2 := dget_mem I.nodup (I.done_at hb).1
  rw [h, g2] at g1
  exact (Option.some.inj g1).symm
theorem getLast_mem {α : Type} {l : List α} {x : α} (h : l.getLast? = some x) : x ∈ l := by
  obtain ⟨l', rfl⟩ := List.getLast?_eq_some_iff.1 h
  simp
/-- A deal's snapshot never names itself. -/
theorem snap_ne (I : InvS l k s) {d : Dl} (hd : d ∈ doneD s) {i : Int} (hi : 1 ≤ i) (hi2 : i ≤ 6) : d.snap.getD (i.toNat - 1) 0 ≠ d.tx := by
  have h := I.done_at hd
  rw [I.snap d h.1, lastOf_get hi hi2 _ (fun x hx j hj => (I.ok.deals x (I.done_at (List.mem_filter.1 hx).1).1).items j hj)]
  cases hg : (((doneD s).filter fun e => decide (e.ended < d.began)).filter fun d => decide (i ∈ d.wrote)).getLast? with
  | none => show (0 : Int) ≠ _; have := h.2.2.2.2.2; omega
  | some x =>
    show x.tx ≠ d.tx
    have hx := List.mem_filter.1 (List.mem_filter.1 (getLast_mem hg)).1
    intro e
    have e2 := same_deal I hx.1 hd e
    rw [e2] at hx
    have h2 := of_decide_eq_true hx.2
    omega
end
/-- FEKETE: where nobody is between there is an order by which all goes as if one behind the other. -/
theorem fekete {l : List HOp} (hk : okH l) {s : VSt} (I : InvS l l.length s) (hp : NoPiv (doneD s)) : ∃ q : List Dl, q.Perm (doneD s) ∧ byD l q [0, 0, 0, 0, 0, 0] = some s.last := by
  let le : Dl → Dl → Bool := fun a b => decide (keyD (doneD s) a ≤ keyD (doneD s) b)
  have hperm : ((doneD s).mergeSort le).Perm (doneD s) := List.mergeSort_perm _ _
  have hle : ((doneD s).mergeSort le).Pairwise (fun a b => le a b = true) := List.pairwise_mergeSort (le := le) (fun a b c h1 h2 => by
    have h1 := of_decide_eq_true h1
    have h2 := of_decide_eq_true h2
    exact decide_eq_true (by omega)) (fun a b => by
    show (decide _ || decide _) = true
    rw [Bool.or_eq_true, decide_eq_true_eq, decide_eq_true_eq]; omega) (doneD s)
  generalize hq : (doneD s).mergeSort le = q at *
  have hmem : ∀ x, x ∈ q ↔ x ∈ doneD s := fun x => hperm.mem_iff
  have hnq : (q.map (·.tx)).Nodup := (hperm.map _).nodup_iff.2 I.done_nodup
  have hne : q.Pairwise fun a b => a.tx ≠ b.tx := List.pairwise_map.1 hnq
  have hlt : q.Pairwise fun a b => keyD (doneD s) a < keyD (doneD s) b := by
    have h2 := hle.and hne
    refine List.Pairwise.imp_of_mem (fun {a b} ha hb h => ?_) h2
    have h1 := of_decide_eq_true h.1
    have h3 := keyD_ne I (ds := doneD s) ((hmem a).1 ha) ((hmem b).1 hb) h.2
    omega
  have hitems : ∀ d ∈ doneD s, ∀ j ∈ d.wrote, 1 ≤ j ∧ j ≤ 6 := fun d hd => (I.ok.deals d (I.done_at hd).1).items
  -- writers of one item go by their ends
  have hwr : ∀ (i : Int) (p : List Dl), (∀ x ∈ p, x ∈ doneD s) → p.Pairwise (fun a b => keyD (doneD s) a < keyD (doneD s) b) → (p.filter fun d => decide (i ∈ d.wrote)).Pairwise fun a b => a.ended < b.ended := fun i p hps hpp => by
    refine List.Pairwise.imp_of_mem (fun {a b} ha hb h => ?_) (hpp.filter _)
    obtain ⟨ha1, ha2⟩ := List.mem_filter.1 ha
    obtain ⟨hb1, hb2⟩ := List.mem_filter.1 hb
    have ha3 := hps a ha1
    have hb3 := hps b hb1
    have hne : a.tx ≠ b.tx := fun e => by
      rw [same_deal I ha3 hb3 e] at h; omega
    rcases writers_apart I ha3 hb3 hne (of_decide_eq_true ha2) (of_decide_eq_true hb2) with h2 | h2
    · have := (I.done_at hb3).2.2.2.1; omega
    · have := keyD_time I (ds := doneD s) hb3 ha3 h2
      omega
  have hend : ∀ (i : Int) (p : List Dl), (∀ x ∈ p, x ∈ doneD s) → p.Pairwise (fun a b : Dl => a.ended < b.ended) → (p.filter fun d => decide (i ∈ d.wrote)).Pairwise fun a b => a.ended < b.ended := fun i p _ hpp => hpp.filter _
  refine ⟨q, hperm, ?_⟩
  have hlast : lastOf q = s.last := by
    rw [I.last]
    refine getD_ext (lastOf_len _) (lastOf_len _) fun i hi hi2 => ?_
    rw [lastOf_get hi hi2 _ fun d hd => hitems d ((hmem d).1 hd), lastOf_get hi hi2 _ hitems]
    have e : (q.filter fun d => decide (i ∈ d.wrote)) = (doneD s).filter fun d => decide (i ∈ d.wrote) := by
      refine pw_ext (r := fun a b : Dl => a.ended < b.ended) (fun a => by omega) (fun a b h => by omega) (hwr i q (fun x hx => (hmem x).1 hx) hlt) (hend i _ (fun _ h => h) I.sorted) fun x => ?_
      rw [List.mem_filter, List.mem_filter, hmem]
    rw [e]
  rw [← hlast]
  refine byD_lastOf hk q (fun d hd => hitems d ((hmem d).1 hd)) fun p d r e => ?_
  have hdq : d ∈ q := by rw [e]; simp
  have hd := (hmem d).1 hdq
  have hds := (I.done_at hd).1
  have hp1 : ∀ x ∈ p, x ∈ doneD s := fun x hx => (hmem x).1 (by rw [e]; simp [hx])
  have hpw := hlt
  rw [e, List.pairwise_append, List.pairwise_cons] at hpw
  have hpm : ∀ x, x ∈ p ↔ x ∈ doneD s ∧ keyD (doneD s) x < keyD (doneD s) d := fun x => by
    refine ⟨fun hx => ⟨hp1 x hx, hpw.2.2 x hx d List.mem_cons_self⟩, fun ⟨hx, hlt⟩ => ?_⟩
    have := (hmem x).2 hx
    rw [e] at this
    rcases List.mem_append.1 this with h | h
    · exact h
    · rcases List.mem_cons.1 h with h | h
      · rw [h] at hlt; omega
      · have := hpw.2.1.1 x h; omega
  have hr := I.runs d hds
  rw [List.take_length] at hr
  have hseen : ∀ x ∈ d.seen, 1 ≤ x.what ∧ x.what ≤ 6 := fun x hx => by
    have key : ∀ {ops seen : List HOp} {wrote : List Int} {P : Int → Int → Prop}, Runs d.tx P ops seen wrote → ∀ x ∈ seen, (⟨d.tx, 1, x.what⟩ : HOp) ∈ ops := by
      intro ops seen wrote P h
      induction h with
      | nil => intro x hx; cases hx
      | own j _ hi ih =>
        intro x hx
        rcases List.mem_append.1 hx with hx | hx
        · exact List.mem_append_left _ (ih x hx)
        · rw [List.mem_singleton.1 hx]; simp
      | other j f _ hi hP ih =>
        intro x hx
        rcases List.mem_append.1 hx with hx | hx
        · exact List.mem_append_left _ (ih x hx)
        · rw [List.mem_singleton.1 hx]; simp
      | write j _ ih => intro x hx; exact List.mem_append_left _ (ih x hx)
      | skip w j _ hw ih => intro x hx; exact List.mem_append_left _ (ih x hx)
    have hm := key hr x hx
    exact (rightB_get (okH_right hk _ (List.mem_filter.1 hm).1)).2.2.2.2.1 (by show (1 : Int) < 3; decide)
  refine hr.mono fun i f hm hf => ?_
  have hi := hseen _ hm
  simp only at hi
  rw [hf, I.snap d hds, lastOf_get hi.1 hi.2 _ (fun x hx => hitems x (List.mem_filter.1 hx).1), lastOf_get hi.1 hi.2 _ (fun x hx => hitems x (hp1 x hx))]
  have hread : readD d i = true := by
    unfold readD
    refine List.any_eq_true.2 ⟨_, hm, ?_⟩
    simp only [decide_true, Bool.true_and, Bool.not_eq_true', decide_eq_false_iff_not]
    rw [hf]; exact snap_ne I hd hi.1 hi.2
  have e2 : ((doneD s).filter fun e => decide (e.ended < d.began)).filter (fun d => decide (i ∈ d.wrote)) = p.filter fun d => decide (i ∈ d.wrote) := by
    refine pw_ext (r := fun a b : Dl => a.ended < b.ended) (fun a => by omega) (fun a b h => by omega) ((I.sorted.filter _).filter _) (hwr i p hp1 hpw.1) fun x => ?_
    rw [List.mem_filter, List.mem_filter, List.mem_filter, hpm]
    constructor
    · rintro ⟨⟨h1, h2⟩, h3⟩
      exact ⟨⟨h1, keyD_time I h1 hd (of_decide_eq_true h2)⟩, h3⟩
    · rintro ⟨⟨h1, h2⟩, h3⟩
      refine ⟨⟨h1, decide_eq_true ?_⟩, h3⟩
      have hne : x.tx ≠ d.tx := fun e => by
        rw [same_deal I h1 hd e] at h2; omega
      obtain ⟨t1, t2, t3, t4⟩ := I.times h1 hd hne
      rcases Int.lt_or_le x.ended d.began with h | h
      · exact h
      · exfalso
        rcases Int.lt_or_le d.ended x.began with h' | h'
        · have := keyD_time I (ds := doneD s) hd h1 h'
          omega
        · have ha : antiD d x = true := by
            unfold antiD atOnceD
            rw [decide_eq_false (fun e => hne e.symm), decide_eq_true (show d.began < x.ended by omega), decide_eq_true (show x.began < d.ended by omega), List.any_eq_true.2 ⟨i, of_decide_eq_true h3, hread⟩]
            simp
          have := keyD_anti I hp hd h1 ha
          omega
  rw [e2]
end Go.Proofs.Ytigmgeaimcglhaa


/-
  PLAIN LAWS: a table of locks: no two that are held are at odds; who waits, waits for some (LInv, ask_inv, free_inv, for_some).
-/
import Derived.Test.YtbccnafdfeempaaGreatDoorQ2
import Derived.Test.YtbccnafdfeempaaGreatDoorQ12

namespace Go.Proofs.YtbccnafdfeempaaGreatDoor
open Go.RowKit

/-- Who is held, who waits. -/
structure LTab where
  H : List HOp
  W : List HOp
  deriving DecidableEq, Repr, Inhabited
def ofTx (tx : Int) (y : HOp) : Bool := decide (y.tx = tx)
/-- Ask for a lock: is it held; the fault; the table then. -/
def askF (T : LTab) (l : HOp) : Bool × Int × LTab :=
  if lrightB l = false then (false, 1, T)
  else if T.W.any (ofTx l.tx) then (false, 7, T)
  else if T.H.any (fun x => ofP l.tx l.what x && decide (l.item ≤ x.item)) then (true, 0, T)
  else if freeB T.H l && freeB T.W l then (true, 0, ⟨holdL T.H l, T.W⟩)
  else (false, 0, ⟨T.H, T.W ++ [l]⟩)
/-- Of those that waited, one after the other: who is held, who waits on, which are held by that. -/
structure FSt where
  H : List HOp
  left : List HOp
  out : List HOp
  deriving DecidableEq, Repr, Inhabited
def freeStep (s : FSt) (l : HOp) : FSt := if freeB s.H l && freeB s.left l then ⟨holdL s.H l, s.left, s.out ++ [l]⟩ else ⟨s.H, s.left ++ [l], s.out⟩
def notTx (tx : Int) (y : HOp) : Bool := !decide (y.tx = tx)
def freeS (T : LTab) (tx : Int) : FSt := (T.W.filter (notTx tx)).foldl freeStep ⟨T.H.filter (notTx tx), [], []⟩
def freeT (T : LTab) (tx : Int) : LTab := ⟨(freeS T tx).H, (freeS T tx).left⟩
/-- For whom a lock waits. -/
def forF (T : LTab) (l : HOp) : List Int := sortS ltI (((T.H ++ T.W.takeWhile (notTx l.tx)).filter fun x => loddsB x l).map (·.tx))

theorem lodds_comm (a b : HOp) : loddsB a b = loddsB b a := by
  unfold loddsB
  rw [Bool.eq_iff_iff, decide_eq_true_eq, decide_eq_true_eq]
  constructor
  · rintro ⟨h1, h2, h3⟩; exact ⟨fun e => h1 e.symm, h2.symm, h3.symm⟩
  · rintro ⟨h1, h2, h3⟩; exact ⟨fun e => h1 e.symm, h2.symm, h3.symm⟩
theorem lodds_get {a b : HOp} : loddsB a b = true ↔ a.tx ≠ b.tx ∧ a.what = b.what ∧ (a.item = 2 ∨ b.item = 2) := by unfold loddsB; rw [decide_eq_true_eq]
theorem lright_get {l : HOp} (h : lrightB l = true) : 1 ≤ l.tx ∧ l.tx ≤ 6 ∧ 1 ≤ l.what ∧ l.what ≤ 6 ∧ (l.item = 1 ∨ l.item = 2) := by
  simp only [lrightB, txB, Bool.and_eq_true, decide_eq_true_eq] at h
  exact ⟨h.1.1, h.1.2, h.2.1.1, h.2.1.2, h.2.2⟩
theorem ofP_get {tx item : Int} {y : HOp} : ofP tx item y = true ↔ y.tx = tx ∧ y.what = item := by simp [ofP]
/-- Two that are held. -/
def Apart (a b : HOp) : Prop := loddsB a b = false ∧ ¬(a.tx = b.tx ∧ a.what = b.what)
theorem Apart.comm {a b : HOp} (h : Apart a b) : Apart b a := ⟨by rw [lodds_comm]; exact h.1, fun e => h.2 ⟨e.1.symm, e.2.symm⟩⟩
theorem apart_two {H : List HOp} (h : H.Pairwise Apart) {a b : HOp} (ha : a ∈ H) (hb : b ∈ H) (he : a.tx = b.tx ∧ a.what = b.what) : a = b := by
  by_cases e : a = b
  · exact e
  · rcases pairwise_two h a ha b hb e with h' | h'
    · exact absurd he h'.2
    · exact absurd ⟨he.1.symm, he.2.symm⟩ h'.2
theorem mem_holdL {H : List HOp} (h : H.Pairwise Apart) {l y : HOp} : y ∈ holdL H l ↔ y = l ∨ (y ∈ H ∧ ofP l.tx l.what y = false) := by
  unfold holdL
  rcases hf : H.findIdx? (ofP l.tx l.what) with _ | i
  · have hn := List.findIdx?_eq_none_iff.1 hf
    simp only [List.mem_append, List.mem_singleton]
    constructor
    · rintro (h1 | h1)
      · exact .inr ⟨h1, by simpa using hn y h1⟩
      · exact .inl h1
    · rintro (h1 | ⟨h1, _⟩)
      · exact .inr h1
      · exact .inl h1
  · obtain ⟨hi, hp, _⟩ := List.findIdx?_eq_some_iff_getElem.1 hf
    simp only
    have hgo := ofP_get.1 hp
    constructor
    · intro hy
      obtain ⟨j, hj⟩ := List.mem_iff_getElem?.1 hy
      rw [List.getElem?_set] at hj
      split at hj
      · first
          | exact .inl (Option.some.inj hj).symm
          | (split at hj
             · exact .inl (Option.some.inj hj).symm
             · cases hj)
      · rename_i hij
        have hyH := List.mem_of_getElem? hj
        refine .inr ⟨hyH, ?_⟩
        rcases hq : ofP l.tx l.what y with _ | _
        · rfl
        · exfalso
          have hq := ofP_get.1 hq
          obtain ⟨hj1, hj2⟩ := List.getElem?_eq_some_iff.1 hj
          have hpw := List.pairwise_iff_getElem.1 h
          rcases Nat.lt_or_gt_of_ne hij with hlt | hgt
          · exact (hpw i j hi hj1 hlt).2 (by rw [hj2]; exact ⟨hgo.1.trans hq.1.symm, hgo.2.trans hq.2.symm⟩)
          · exact (hpw j i hj1 hi hgt).2 (by rw [hj2]; exact ⟨hq.1.trans hgo.1.symm, hq.2.trans hgo.2.symm⟩)
    · rintro (rfl | ⟨hy, hq⟩)
      · exact List.mem_iff_getElem?.2 ⟨i, by rw [List.getElem?_set, if_pos rfl]; simp [hi]⟩
      · obtain ⟨j, hj⟩ := List.mem_iff_getElem?.1 hy
        have hij : i ≠ j := fun e => by
          subst e
          obtain ⟨hj1, hj2⟩ := List.getElem?_eq_some_iff.1 hj
          rw [hj2, hq] at hp; cases hp
        exact List.mem_iff_getElem?.2 ⟨j, by rw [List.getElem?_set, if_neg hij]; exact hj⟩
theorem free_get {H : List HOp} {l : HOp} (h : freeB H l = true) {x : HOp} (hx : x ∈ H) : loddsB l x = false := by
  unfold freeB at h
  rcases hq : loddsB l x with _ | _
  · rfl
  · rw [List.any_eq_true.2 ⟨x, hx, hq⟩] at h; cases h
theorem holdL_apart {H : List HOp} (h : H.Pairwise Apart) {l : HOp} (hf : freeB H l = true) : (holdL H l).Pairwise Apart := by
  have key : ∀ y ∈ H, ofP l.tx l.what y = false → Apart y l := fun y hy hq => ⟨by rw [lodds_comm]; exact free_get hf hy, fun e => by rw [ofP_get.2 e] at hq; cases hq⟩
  unfold holdL
  rcases hfi : H.findIdx? (ofP l.tx l.what) with _ | i
  · have hn := List.findIdx?_eq_none_iff.1 hfi
    refine List.pairwise_append.2 ⟨h, List.pairwise_singleton _ _, fun a ha b hb => ?_⟩
    rw [List.mem_singleton.1 hb]
    exact key a ha (by simpa using hn a ha)
  · obtain ⟨hi, hp, _⟩ := List.findIdx?_eq_some_iff_getElem.1 hfi
    have hgo := ofP_get.1 hp
    simp only
    have hpw := List.pairwise_iff_getElem.1 h
    rw [List.pairwise_iff_getElem]
    intro a b ha hb hab
    rw [List.length_set] at ha hb
    rw [List.getElem_set, List.getElem_set]
    have hno : ∀ j (hj : j < H.length), j ≠ i → ofP l.tx l.what H[j] = false := fun j hj hji => by
      rcases hq : ofP l.tx l.what H[j] with _ | _
      · rfl
      · exfalso
        have hq := ofP_get.1 hq
        rcases Nat.lt_or_gt_of_ne hji with hlt | hgt
        · exact (hpw j i hj hi hlt).2 ⟨hq.1.trans hgo.1.symm, hq.2.trans hgo.2.symm⟩
        · exact (hpw i j hi hj hgt).2 ⟨hgo.1.trans hq.1.symm, hgo.2.trans hq.2.symm⟩
    by_cases h1 : i = a
    · rw [if_pos h1, if_neg (by omega)]
      exact (key _ (List.getElem_mem hb) (hno b hb (by omega))).comm
    · rw [if_neg h1]
      by_cases h2 : i = b
      · rw [if_pos h2]
        exact key _ (List.getElem_mem ha) (hno a ha (by omega))
      · rw [if_neg h2]
        exact hpw a b ha hb hab

/-! ### What a table keeps. -/
structure LInv (T : LTab) : Prop where
  rightH : ∀ x ∈ T.H, lrightB x = true
  rightW : ∀ x ∈ T.W, lrightB x = true
  apart : T.H.Pairwise Apart
  wtx : (T.W.map (·.tx)).Nodup
  waits : ∀ u x v, T.W = u ++ x :: v → ∃ y ∈ T.H ++ u, loddsB y x = true
  less : ∀ x ∈ T.W, ∀ y ∈ T.H, y.tx = x.tx → y.what = x.what → y.item < x.item
theorem linv0 : LInv ⟨[], []⟩ := ⟨fun _ h => (by cases h), fun _ h => (by cases h), .nil, List.nodup_nil, fun u x v h => (by cases u <;> cases h), fun _ h => (by cases h)⟩
/-- Whom a lock that is now held is at odds with: it was so with what stood there, or it is so still. -/
theorem hold_odds {H : List HOp} (h : H.Pairwise Apart) (hr : ∀ x ∈ H, lrightB x = true) {l : HOp} (hl : lrightB l = true) (hless : ∀ y ∈ H, y.tx = l.tx → y.what = l.what → y.item < l.item) {x : HOp} (ho : ∃ y ∈ H, loddsB y x = true) : ∃ y ∈ holdL H l, loddsB y x = true := by
  obtain ⟨y, hy, ho⟩ := ho
  rcases hq : ofP l.tx l.what y with _ | _
  · exact ⟨y, (mem_holdL h).2 (.inr ⟨hy, hq⟩), ho⟩
  · obtain ⟨e1, e2⟩ := ofP_get.1 hq
    refine ⟨l, (mem_holdL h).2 (.inl rfl), ?_⟩
    have hlt := hless y hy e1 e2
    obtain ⟨_, _, _, _, h5⟩ := lright_get (hr y hy)
    obtain ⟨_, _, _, _, h6⟩ := lright_get hl
    obtain ⟨g1, g2, g3⟩ := lodds_get.1 ho
    exact lodds_get.2 ⟨by rw [← e1]; exact g1, by rw [← e2]; exact g2, .inl (by omega)⟩
theorem ask_inv {T : LTab} (I : LInv T) (l : HOp) : LInv (askF T l).2.2 := by
  unfold askF
  split
  · exact I
  · rename_i hr
    have hr : lrightB l = true := by simpa using hr
    split
    · exact I
    · rename_i hw
      have hw : ∀ x ∈ T.W, x.tx ≠ l.tx := fun x hx e => hw (List.any_eq_true.2 ⟨x, hx, by simp [ofTx, e]⟩)
      split
      · exact I
      · rename_i hh
        have hless : ∀ y ∈ T.H, y.tx = l.tx → y.what = l.what → y.item < l.item := fun y hy e1 e2 => by
          have := fun h : l.item ≤ y.item => hh (List.any_eq_true.2 ⟨y, hy, by rw [ofP_get.2 ⟨e1, e2⟩, decide_eq_true h]; rfl⟩)
          exact Int.not_le.1 this
        split
        · rename_i hf
          rw [Bool.and_eq_true] at hf
          refine ⟨fun x hx => ?_, I.rightW, holdL_apart I.apart hf.1, I.wtx, fun u x v e => ?_, fun x hx y hy e1 e2 => ?_⟩
          · rcases (mem_holdL I.apart).1 hx with rfl | ⟨hx, _⟩
            · exact hr
            · exact I.rightH x hx
          · obtain ⟨y, hy, ho⟩ := I.waits u x v e
            rcases List.mem_append.1 hy with hy | hy
            · obtain ⟨z, hz, ho⟩ := hold_odds I.apart I.rightH hr hless ⟨y, hy, ho⟩
              exact ⟨z, List.mem_append_left _ hz, ho⟩
            · exact ⟨y, List.mem_append_right _ hy, ho⟩
          · rcases (mem_holdL I.apart).1 hy with rfl | ⟨hy, _⟩
            · exact absurd e1.symm (hw x hx)
            · exact I.less x hx y hy e1 e2
        · rename_i hf
          refine ⟨I.rightH, fun x hx => ?_, I.apart, ?_, fun u x v e => ?_, fun x hx y hy e1 e2 => ?_⟩
          · rcases List.mem_append.1 hx with hx | hx
            · exact I.rightW x hx
            · rw [List.mem_singleton.1 hx]; exact hr
          · show ((T.W ++ [l]).map (·.tx)).Nodup
            rw [List.map_append]
            refine List.nodup_append.2 ⟨I.wtx, by simp, fun a ha b hb e => ?_⟩
            obtain ⟨x, hx, rfl⟩ := List.mem_map.1 ha
            rw [List.map_singleton, List.mem_singleton] at hb
            exact hw x hx (e.trans hb)
          · replace e : T.W ++ [l] = u ++ x :: v := e
            rcases List.eq_nil_or_concat v with rfl | ⟨v', z, rfl⟩
            · obtain ⟨rfl, e9⟩ := List.append_inj' e rfl
              obtain rfl : l = x := by simpa using e9
              by_cases hH : freeB T.H l = true
              · have hW : freeB T.W l = false := by
                  rcases hq : freeB T.W l with _ | _
                  · rfl
                  · rw [hH, hq] at hf; exact absurd rfl hf
                unfold freeB at hW
                have hW : T.W.any (loddsB l) = true := by simpa using hW
                obtain ⟨y, hy, ho⟩ := List.any_eq_true.1 hW
                exact ⟨y, List.mem_append_right _ hy, by rw [lodds_comm]; exact ho⟩
              · unfold freeB at hH
                have hH : T.H.any (loddsB l) = true := by simpa using hH
                obtain ⟨y, hy, ho⟩ := List.any_eq_true.1 hH
                exact ⟨y, List.mem_append_left _ hy, by rw [lodds_comm]; exact ho⟩
            · rw [List.concat_eq_append, show u ++ x :: (v' ++ [z]) = (u ++ x :: v') ++ [z] by simp] at e
              obtain ⟨e, _⟩ := List.append_inj' e rfl
              exact I.waits u x v' e
          · rcases List.mem_append.1 hx with hx | hx
            · exact I.less x hx y hy e1 e2
            · rw [List.mem_singleton.1 hx] at e1 e2 ⊢
              exact hless y hy e1 e2
/-- What a table keeps while those that waited are looked at: r of them are left. -/
structure FInv (s : FSt) (r : List HOp) : Prop where
  rightH : ∀ x ∈ s.H, lrightB x = true
  rightL : ∀ x ∈ s.left ++ r, lrightB x = true
  apart : s.H.Pairwise Apart
  wtx : ((s.left ++ r).map (·.tx)).Nodup
  waits : ∀ u x v, s.left = u ++ x :: v → ∃ y ∈ s.H ++ u, loddsB y x = true
  less : ∀ x ∈ s.left ++ r, ∀ y ∈ s.H, y.tx = x.tx → y.what = x.what → y.item < x.item
theorem free_step {s : FSt} {l : HOp} {r : List HOp} (I : FInv s (l :: r)) : FInv (freeStep s l) r := by
  have hl := I.rightL l (List.mem_append_right _ List.mem_cons_self)
  have hless : ∀ y ∈ s.H, y.tx = l.tx → y.what = l.what → y.item < l.item := I.less l (List.mem_append_right _ List.mem_cons_self)
  have hne : ∀ x ∈ s.left ++ r, x.tx ≠ l.tx := fun x hx e => by
    have hn := I.wtx
    rw [List.map_append, List.map_cons] at hn
    have hn2 := List.nodup_append.1 hn
    rcases List.mem_append.1 hx with hx | hx
    · exact hn2.2.2 x.tx (List.mem_map.2 ⟨x, hx, rfl⟩) l.tx List.mem_cons_self e
    · exact (List.nodup_cons.1 hn2.2.1).1 (by rw [← e]; exact List.mem_map.2 ⟨x, hx, rfl⟩)
  have hsub : ∀ x ∈ s.left ++ r, x ∈ s.left ++ l :: r := fun x hx => by
    rcases List.mem_append.1 hx with hx | hx
    · exact List.mem_append_left _ hx
    · exact List.mem_append_right _ (List.mem_cons_of_mem _ hx)
  have hnod : ((s.left ++ r).map (·.tx)).Nodup := by
    have hn := I.wtx
    rw [List.map_append, List.map_cons] at hn
    rw [List.map_append]
    exact hn.sublist (List.Sublist.append_left (List.sublist_cons_self _ _) _)
  unfold freeStep
  split
  · rename_i hf
    rw [Bool.and_eq_true] at hf
    refine ⟨fun x hx => ?_, fun x hx => I.rightL x (hsub x hx), holdL_apart I.apart hf.1, hnod, fun u x v e => ?_, fun x hx y hy e1 e2 => ?_⟩
    · rcases (mem_holdL I.apart).1 hx with rfl | ⟨hx, _⟩
      · exact hl
      · exact I.rightH x hx
    · obtain ⟨y, hy, ho⟩ := I.waits u x v e
      rcases List.mem_append.1 hy with hy | hy
      · obtain ⟨z, hz, ho⟩ := hold_odds I.apart I.rightH hl hless ⟨y, hy, ho⟩
        exact ⟨z, List.mem_append_left _ hz, ho⟩
      · exact ⟨y, List.mem_append_right _ hy, ho⟩
    · rcases (mem_holdL I.apart).1 hy with rfl | ⟨hy, _⟩
      · exact absurd e1.symm (hne x hx)
      · exact I.less x (hsub x hx) y hy e1 e2
  · rename_i hf
    have ea : (s.left ++ [l]) ++ r = s.left ++ l :: r := by simp
    refine ⟨I.rightH, fun x hx => I.rightL x (by rw [← ea]; exact hx), I.apart, by show (((s.left ++ [l]) ++ r).map (·.tx)).Nodup; rw [ea]; exact I.wtx, fun u x v e => ?_, fun x hx => I.less x (by rw [← ea]; exact hx)⟩
    replace e : s.left ++ [l] = u ++ x :: v := e
    rcases List.eq_nil_or_concat v with rfl | ⟨v', z, rfl⟩
    · obtain ⟨rfl, e9⟩ := List.append_inj' e rfl
      obtain rfl : l = x := by simpa using e9
      by_cases hH : freeB s.H l = true
      · have hW : freeB s.left l = false := by
          rcases hq : freeB s.left l with _ | _
          · rfl
          · rw [hH, hq] at hf; exact absurd rfl hf
        unfold freeB at hW
        have hW : s.left.any (loddsB l) = true := by simpa using hW
        obtain ⟨y, hy, ho⟩ := List.any_eq_true.1 hW
        exact ⟨y, List.mem_append_right _ hy, by rw [lodds_comm]; exact ho⟩
      · unfold freeB at hH
        have hH : s.H.any (loddsB l) = true := by simpa using hH
        obtain ⟨y, hy, ho⟩ := List.any_eq_true.1 hH
        exact ⟨y, List.mem_append_left _ hy, by rw [lodds_comm]; exact ho⟩
    · rw [List.concat_eq_append, show u ++ x :: (v' ++ [z]) = (u ++ x :: v') ++ [z] by simp] at e
      obtain ⟨e, _⟩ := List.append_inj' e rfl
      exact I.waits u x v' e
theorem free_run : ∀ (r : List HOp) (s : FSt), FInv s r → FInv (r.foldl freeStep s) []
  | [], _, I => I
  | _ :: r, _, I => free_run r _ (free_step I)
theorem free_inv {T : LTab} (I : LInv T) (tx : Int) : LInv (freeT T tx) := by
  have F : FInv ⟨T.H.filter (notTx tx), [], []⟩ (T.W.filter (notTx tx)) :=
    ⟨fun x hx => I.rightH x (List.mem_filter.1 hx).1, fun x hx => I.rightW x (List.mem_filter.1 hx).1, I.apart.filter _, by
      show ((T.W.filter (notTx tx)).map (·.tx)).Nodup
      exact I.wtx.sublist ((List.filter_sublist).map _), fun u x v h => (by cases u <;> cases h), fun x hx y hy => I.less x (List.mem_filter.1 hx).1 y (List.mem_filter.1 hy).1⟩
  have G := free_run _ _ F
  refine ⟨G.rightH, fun x hx => G.rightL x (by rw [List.append_nil]; exact hx), G.apart, by have := G.wtx; rw [List.append_nil] at this; exact this, G.waits, fun x hx => G.less x (by rw [List.append_nil]; exact hx)⟩
/-- Each that waits, waits for some. -/
theorem for_some {T : LTab} (I : LInv T) {x : HOp} (hx : x ∈ T.W) : forF T x ≠ [] := by
  obtain ⟨u, v, e⟩ := List.append_of_mem hx
  obtain ⟨y, hy, ho⟩ := I.waits u x v e
  have hn := I.wtx
  have htw : T.W.takeWhile (notTx x.tx) = u := by
    rw [e] at hn ⊢
    rw [List.map_append, List.map_cons] at hn
    have hne : ∀ z ∈ u, notTx x.tx z = true := fun z hz => by
      have := (List.nodup_append.1 hn).2.2 z.tx (List.mem_map.2 ⟨z, hz, rfl⟩) x.tx List.mem_cons_self
      simpa [notTx] using this
    rw [List.takeWhile_append_of_pos hne, List.takeWhile_cons_of_neg (by simp [notTx]), List.append_nil]
  intro h
  have : y.tx ∈ forF T x := by
    unfold forF
    rw [mem_sortS]
    exact List.mem_map.2 ⟨y, List.mem_filter.2 ⟨by rw [htw]; exact hy, ho⟩, rfl⟩
  rw [h] at this; cases this
end Go.Proofs.YtbccnafdfeempaaGreatDoor

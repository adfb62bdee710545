
/-
  PLAIN LAWS: a run by locks in which no deal waits (calmGo); one deal behind the other is such a run (calm_pieces).
  PLAIN: what a runner that keeps locks does, as a function with fuel (runJ, runL).
  PLAIN: a run by locks in which none waits tells what was asked.
-/
import Derived.Test.YtjbgjgmdgjnbfaaDoorLockP
import Derived.Test.YtjbgjgmdgjnbfaaDoorPieces
import Derived.Test.YtjbgjgmdgjnbfaaDoorN1

namespace Go.Proofs.YtjbgjgmdgjnbfaaDoor
open Go.RowKit

/-- The lock of an op. -/
def lockOf (o : HOp) : HOp := ⟨o.tx, o.item, if o.what = 2 then 2 else 1⟩
def endB (o : HOp) : Bool := decide (o.what = 3) || decide (o.what = 4)
/-- What is held behind an op of a run in which none waits. -/
def nextH (H : List HOp) (o : HOp) : List HOp := if endB o = true then H.filter (notTx o.tx) else (askF ⟨H, []⟩ (lockOf o)).2.2.H
def calmGo : List HOp → List HOp → Prop
  | _, [] => True
  | H, o :: t => (endB o = true ∨ (lrightB (lockOf o) = true ∧ askF ⟨H, []⟩ (lockOf o) = (true, 0, ⟨nextH H o, []⟩))) ∧ calmGo (nextH H o) t
theorem mem_holdL' {H : List HOp} {l y : HOp} (h : y ∈ holdL H l) : y = l ∨ y ∈ H := by
  unfold holdL at h
  split at h
  · exact (List.mem_or_eq_of_mem_set h).symm
  · rcases List.mem_append.1 h with h | h
    · exact .inr h
    · exact .inl (List.mem_singleton.1 h)
/-- Where one deal alone holds, it is given all that it asks for. -/
theorem ask_own {H : List HOp} {l : HOp} (hr : lrightB l = true) (hall : ∀ y ∈ H, y.tx = l.tx) : ∃ H', askF ⟨H, []⟩ l = (true, 0, ⟨H', []⟩) ∧ ∀ y ∈ H', y.tx = l.tx := by
  have hf : freeB H l = true := by
    unfold freeB
    rw [Bool.not_eq_true', List.any_eq_false]
    intro y hy
    unfold loddsB
    rw [decide_eq_true_eq]
    exact fun h => h.1 (hall y hy).symm
  have hf2 : freeB [] l = true := rfl
  unfold askF
  rw [if_neg (by rw [hr]; simp), if_neg (by simp)]
  split
  · exact ⟨H, rfl, hall⟩
  · rw [if_pos (by show (freeB H l && freeB [] l) = true; rw [hf, hf2]; rfl)]
    refine ⟨_, rfl, fun y hy => ?_⟩
    rcases mem_holdL' hy with rfl | hy
    · rfl
    · exact hall y hy
theorem nextH_ask {H : List HOp} {o : HOp} (he : endB o = false) (hr : lrightB (lockOf o) = true) (hall : ∀ y ∈ H, y.tx = o.tx) : askF ⟨H, []⟩ (lockOf o) = (true, 0, ⟨nextH H o, []⟩) ∧ ∀ y ∈ nextH H o, y.tx = o.tx := by
  obtain ⟨H', h1, h2⟩ := ask_own hr (H := H) hall
  have e : nextH H o = H' := by unfold nextH; rw [if_neg (by rw [he]; simp), h1]
  rw [e]
  exact ⟨h1, h2⟩
theorem nextH_end {H : List HOp} {o : HOp} (he : endB o = true) (hall : ∀ y ∈ H, y.tx = o.tx) : nextH H o = [] := by
  unfold nextH
  rw [if_pos he, List.filter_eq_nil_iff]
  intro y hy
  unfold notTx
  rw [hall y hy]
  simp
theorem calm_pieces {a b : Int} (ha : 1 ≤ a ∧ a ≤ 6) (hb : 1 ≤ b ∧ b ≤ 6) : ∀ {order : List Int}, (∀ t ∈ order, 1 ≤ t ∧ t ≤ 6) → calmGo [] (piecesH a b order)
  | [], _ => trivial
  | t :: r, h => by
    have ht := h t (List.mem_cons_self ..)
    have ih := calm_pieces (order := r) ha hb fun x hx => h x (List.mem_cons_of_mem _ hx)
    have r1 : lrightB (lockOf ⟨t, 1, a⟩) = true := by simp [lrightB, lockOf, txB]; omega
    have r2 : lrightB (lockOf ⟨t, 2, b⟩) = true := by simp [lrightB, lockOf, txB]; omega
    obtain ⟨h1, h2⟩ := nextH_ask (H := []) (o := ⟨t, 1, a⟩) rfl r1 (fun y hy => by cases hy)
    obtain ⟨h3, h4⟩ := nextH_ask (H := nextH [] ⟨t, 1, a⟩) (o := ⟨t, 2, b⟩) rfl r2 h2
    have h5 := nextH_end (H := nextH (nextH [] ⟨t, 1, a⟩) ⟨t, 2, b⟩) (o := ⟨t, 3, 0⟩) rfl h4
    rw [show piecesH a b (t :: r) = ⟨t, 1, a⟩ :: ⟨t, 2, b⟩ :: ⟨t, 3, 0⟩ :: piecesH a b r from rfl]
    refine ⟨.inr ⟨r1, h1⟩, .inr ⟨r2, h3⟩, .inl rfl, ?_⟩
    rw [h5]
    exact ih
end Go.Proofs.YtjbgjgmdgjnbfaaDoor


namespace Go.Proofs.YtjbgjgmdgjnbfaaDoor
open Go.RowKit

/-- A runner's state: the table; which op a deal waits with; what stands behind it; who is aborted; what was told; the victims. -/
structure RSt where
  T : LTab
  wt : Int → Option HOp
  bh : Int → List HOp
  ab : Int → Bool
  told : List HOp
  vic : List Int
def updR {α : Type} (f : Int → α) (k : Int) (v : α) : Int → α := fun x => if x = k then v else f x
theorem updR_same {α : Type} (f : Int → α) (k : Int) (v : α) : updR f k v k = v := by unfold updR; rw [if_pos rfl]
theorem updR_ne {α : Type} {f : Int → α} {k x : Int} {v : α} (h : x ≠ k) : updR f k v x = f x := by unfold updR; rw [if_neg h]
/-- For whom a deal waits. -/
def whomF (T : LTab) (tx : Int) : List Int := match T.W.find? (ofTx tx) with
  | none => []
  | some l => forF T l
/-- One round of the search for a ring: none if it is found. -/
def rngIn (tx : Int) : List Int → List Int → List Int → Option (List Int × List Int)
  | sn, row, [] => some (sn, row)
  | sn, row, d :: t => if d = tx then none else if d ∈ sn then rngIn tx sn row t else rngIn tx (sn ++ [d]) (row ++ [d]) t
def rngGo (T : LTab) (tx : Int) : Nat → List Int → List Int → Bool
  | 0, _, _ => false
  | _ + 1, _, [] => false
  | n + 1, sn, x :: r => match rngIn tx sn (x :: r) (whomF T x) with
    | none => true
    | some q => rngGo T tx n q.1 q.2.tail
def rngF (T : LTab) (tx : Int) : Bool := rngGo T tx 8 [] [tx]
theorem rngIn_step {tx : Int} {sn row l t : List Int} {d : Int} (h : l = d :: t) : rngIn tx sn row l = if d = tx then none else if d ∈ sn then rngIn tx sn row t else rngIn tx (sn ++ [d]) (row ++ [d]) t := by rw [h, rngIn]

inductive Job where
  | free (tx : Int)
  | go (l : List HOp)
  | drain (tx : Int)
  | abort (tx : Int)
  | avoid (tx : Int)
  | doo (o : HOp)
def RSt.tells (s : RSt) (o : HOp) : RSt := { s with told := s.told ++ [o] }
def RSt.aborts (s : RSt) (tx : Int) : RSt := ⟨s.T, updR s.wt tx none, updR s.bh tx [], updR s.ab tx true, s.told ++ [⟨tx, 4, 0⟩], s.vic ++ [tx]⟩
/-- What a runner does, with so much fuel; none: it did not come to an end, or a fault came. -/
def runJ (way : Int) : Nat → Job → RSt → Option RSt
  | 0, _, _ => none
  | n + 1, .free tx, s => if txB tx = false then none else runJ way n (.go (freeS s.T tx).out) { s with T := freeT s.T tx }
  | _ + 1, .go [], s => some s
  | n + 1, .go (x :: t), s => match s.wt x.tx with
    | none => runJ way n (.go t) s
    | some o => match runJ way n (.drain x.tx) { s with wt := updR s.wt x.tx none, told := s.told ++ [o] } with
      | none => none
      | some s' => runJ way n (.go t) s'
  | n + 1, .drain tx, s => match s.bh tx with
    | [] => some s
    | o :: t => if (s.wt tx).isSome then some s else match runJ way n (.doo o) { s with bh := updR s.bh tx t } with
      | none => none
      | some s' => runJ way n (.drain tx) s'
  | n + 1, .abort tx, s => runJ way n (.free tx) (s.aborts tx)
  | n + 1, .avoid tx, s =>
    if way = 0 then (if rngF s.T tx = true then runJ way n (.abort tx) s else some s)
    else if way = 1 then match whomF s.T tx with
      | [] => some s
      | d :: _ => if tx < d then some s else runJ way n (.abort tx) s
    else match (whomF s.T tx).find? (fun d => decide (tx < d)) with
      | none => some s
      | some d => match runJ way n (.abort d) s with
        | none => none
        | some s' => runJ way n (.avoid tx) s'
  | n + 1, .doo o, s =>
    if endB o = true then runJ way n (.free o.tx) (s.tells o)
    else if (askF s.T (lockOf o)).2.1 ≠ 0 then none
    else if (askF s.T (lockOf o)).1 = true then some { s.tells o with T := (askF s.T (lockOf o)).2.2 }
    else runJ way n (.avoid o.tx) { s with T := (askF s.T (lockOf o)).2.2, wt := updR s.wt o.tx (some o) }
/-- Ops, one after the other. -/
def runL (way : Int) (N : Nat) : List HOp → RSt → Option RSt
  | [], s => some s
  | o :: t, s =>
    if s.ab o.tx = true then runL way N t s
    else if (s.wt o.tx).isSome then runL way N t { s with bh := updR s.bh o.tx (s.bh o.tx ++ [o]) }
    else match runJ way N (.doo o) s with
      | none => none
      | some s' => runL way N t s'
def rst0 : RSt := ⟨⟨[], []⟩, fun _ => none, fun _ => [], fun _ => false, [], []⟩

/-- More is told, never less. -/
theorem runJ_told {way : Int} : ∀ (n : Nat) (j : Job) (s s' : RSt), runJ way n j s = some s' → s.told.length ≤ s'.told.length ∧ s.vic.length ≤ s'.vic.length := by
  intro n
  induction n with
  | zero => intro j s s' h; cases j <;> simp [runJ] at h
  | succ n ih =>
    intro j s s' h
    cases j with
    | free tx =>
      unfold runJ at h
      split at h
      · cases h
      · have a := ih _ _ _ h; exact a
    | go l =>
      cases l with
      | nil => unfold runJ at h; injection h with h; subst h; exact ⟨Nat.le_refl _, Nat.le_refl _⟩
      | cons x t =>
        unfold runJ at h
        split at h
        · exact ih _ _ _ h
        · rename_i o ho
          split at h
          · cases h
          · rename_i s1 h1
            have a := ih _ _ _ h1
            have b := ih _ _ _ h
            simp only [List.length_append, List.length_singleton] at a
            omega
    | drain tx =>
      unfold runJ at h
      split at h
      · injection h with h; subst h; exact ⟨Nat.le_refl _, Nat.le_refl _⟩
      · split at h
        · injection h with h; subst h; exact ⟨Nat.le_refl _, Nat.le_refl _⟩
        · split at h
          · cases h
          · rename_i s1 h1
            have a := ih _ _ _ h1
            have b := ih _ _ _ h
            simp only at a
            omega
    | abort tx =>
      unfold runJ at h
      have a := ih _ _ _ h
      simp only [RSt.aborts, List.length_append, List.length_singleton] at a
      omega
    | avoid tx =>
      unfold runJ at h
      split at h
      · split at h
        · exact ih _ _ _ h
        · injection h with h; subst h; exact ⟨Nat.le_refl _, Nat.le_refl _⟩
      · split at h
        · split at h
          · injection h with h; subst h; exact ⟨Nat.le_refl _, Nat.le_refl _⟩
          · split at h
            · injection h with h; subst h; exact ⟨Nat.le_refl _, Nat.le_refl _⟩
            · exact ih _ _ _ h
        · split at h
          · injection h with h; subst h; exact ⟨Nat.le_refl _, Nat.le_refl _⟩
          · split at h
            · cases h
            · rename_i s1 h1
              have a := ih _ _ _ h1
              have b := ih _ _ _ h
              omega
    | doo o =>
      unfold runJ at h
      split at h
      · have a := ih _ _ _ h
        simp only [RSt.tells, List.length_append, List.length_singleton] at a
        omega
      · split at h
        · cases h
        · split at h
          · injection h with h; subst h; simp [RSt.tells]
          · have a := ih _ _ _ h; exact a
theorem runL_told {way : Int} {N : Nat} : ∀ (l : List HOp) (s s' : RSt), runL way N l s = some s' → s.told.length ≤ s'.told.length ∧ s.vic.length ≤ s'.vic.length
  | [], s, s', h => by unfold runL at h; injection h with h; subst h; exact ⟨Nat.le_refl _, Nat.le_refl _⟩
  | o :: t, s, s', h => by
    unfold runL at h
    split at h
    · exact runL_told t _ _ h
    · split at h
      · exact runL_told t { s with bh := updR s.bh o.tx (s.bh o.tx ++ [o]) } _ h
      · split at h
        · cases h
        · rename_i s1 h1
          have a := runJ_told _ _ _ _ h1
          have b := runL_told t _ _ h
          omega
theorem find_ofTx {W : List HOp} {tx : Int} {l : HOp} (h : W.find? (ofTx tx) = some l) : l ∈ W ∧ l.tx = tx := by
  refine ⟨List.mem_of_find?_eq_some h, ?_⟩
  have := List.find?_some h
  simpa [ofTx] using this
theorem len_nodup_six {l : List Int} (hn : l.Nodup) (hb : ∀ x ∈ l, 1 ≤ x ∧ x ≤ 6) : l.length ≤ 6 := by
  have h : l ⊆ [1, 2, 3, 4, 5, 6] := fun x hx => by have := hb x hx; simp; omega
  exact nodup_le hn h
theorem linv_waits {T : LTab} (I : LInv T) : T.W.length ≤ 6 := by
  have := len_nodup_six I.wtx fun x hx => by
    obtain ⟨l, hl, rfl⟩ := List.mem_map.1 hx
    obtain ⟨h1, h2, _⟩ := lright_get (I.rightW l hl)
    exact ⟨h1, h2⟩
  simpa using this
theorem linv_held {T : LTab} (I : LInv T) : T.H.length ≤ 36 := by
  have hn : (T.H.map fun x => 7 * x.tx + x.what).Nodup := by
    rw [List.Nodup, List.pairwise_map]
    refine (I.apart.imp_of_mem ?_)
    intro a b ha hb hab he
    obtain ⟨a1, a2, a3, a4, _⟩ := lright_get (I.rightH a ha)
    obtain ⟨b1, b2, b3, b4, _⟩ := lright_get (I.rightH b hb)
    exact hab.2 ⟨by omega, by omega⟩
  have h : (T.H.map fun x => 7 * x.tx + x.what) ⊆ ((List.range 36).map fun (k : Nat) => (7 * ((k : Int) / 6 + 1) + ((k : Int) % 6 + 1))) := by
    intro y hy
    obtain ⟨a, ha, rfl⟩ := List.mem_map.1 hy
    obtain ⟨a1, a2, a3, a4, _⟩ := lright_get (I.rightH a ha)
    refine List.mem_map.2 ⟨((a.tx - 1) * 6 + (a.what - 1)).toNat, List.mem_range.2 (by omega), by omega⟩
  have := nodup_le hn h
  simpa using this
theorem forF_rng {T : LTab} (I : LInv T) (l : HOp) {d : Int} (h : d ∈ forF T l) : 1 ≤ d ∧ d ≤ 6 := by
  unfold forF at h
  rw [mem_sortS] at h
  obtain ⟨x, hx, rfl⟩ := List.mem_map.1 h
  have hm := (List.mem_filter.1 hx).1
  rcases List.mem_append.1 hm with hm | hm
  · obtain ⟨a1, a2, _⟩ := lright_get (I.rightH x hm); exact ⟨a1, a2⟩
  · obtain ⟨a1, a2, _⟩ := lright_get (I.rightW x ((List.takeWhile_prefix _).subset hm)); exact ⟨a1, a2⟩
theorem whomF_rng {T : LTab} (I : LInv T) {tx d : Int} (h : d ∈ whomF T tx) : 1 ≤ d ∧ d ≤ 6 := by
  unfold whomF at h
  split at h
  · cases h
  · exact forF_rng I _ h
theorem forF_nodup (T : LTab) (l : HOp) : (forF T l).Nodup := by
  unfold forF
  exact List.Pairwise.imp (fun h e => by subst e; simp [ltI] at h) (up_sortS sloI _)
theorem whomF_len {T : LTab} (I : LInv T) (tx : Int) : (whomF T tx).length ≤ 6 := by
  refine len_nodup_six ?_ fun x hx => whomF_rng I hx
  unfold whomF
  split
  · exact List.nodup_nil
  · exact forF_nodup _ _
theorem freeOutR : ∀ (r : List HOp) (s : FSt), (r.foldl freeStep s).out.length ≤ s.out.length + r.length
  | [], _ => by simp
  | x :: r, s => by
    have h1 := freeOutR r (freeStep s x)
    have h2 : (freeStep s x).out.length ≤ s.out.length + 1 := by
      unfold freeStep
      split
      · simp
      · simp
    simp only [List.foldl_cons, List.length_cons]
    omega
theorem freeOutL (T : LTab) (tx : Int) : (freeS T tx).out.length ≤ T.W.length := by
  have h1 := freeOutR (T.W.filter (notTx tx)) ⟨T.H.filter (notTx tx), [], []⟩
  have h3 := List.length_filter_le (notTx tx) T.W
  unfold freeS
  simp only [List.length_nil] at h1
  omega
/-- What stands behind grows less. -/
theorem runJ_bh {way : Int} : ∀ (n : Nat) (j : Job) (s s' : RSt), runJ way n j s = some s' → ∀ x, (s'.bh x).length ≤ (s.bh x).length := by
  intro n
  induction n with
  | zero => intro j s s' h; cases j <;> simp [runJ] at h
  | succ n ih =>
    intro j s s' h x
    cases j with
    | free tx =>
      unfold runJ at h
      split at h
      · cases h
      · have a := ih _ _ _ h x; exact a
    | go l =>
      cases l with
      | nil => unfold runJ at h; injection h with h; subst h; exact Nat.le_refl _
      | cons y t =>
        unfold runJ at h
        split at h
        · exact ih _ _ _ h x
        · rename_i o ho
          split at h
          · cases h
          · rename_i s1 h1
            have a := ih _ _ _ h1 x
            have b := ih _ _ _ h x
            simp only at a
            omega
    | drain tx =>
      unfold runJ at h
      split at h
      · injection h with h; subst h; exact Nat.le_refl _
      · rename_i o t hb
        split at h
        · injection h with h; subst h; exact Nat.le_refl _
        · split at h
          · cases h
          · rename_i s1 h1
            have a := ih _ _ _ h1 x
            have b := ih _ _ _ h x
            simp only at a
            have c : (updR s.bh tx t x).length ≤ (s.bh x).length := by
              unfold updR
              split
              · rename_i e; rw [e, hb]; simp
              · exact Nat.le_refl _
            omega
    | abort tx =>
      unfold runJ at h
      have a := ih _ _ _ h x
      have c : ((s.aborts tx).bh x).length ≤ (s.bh x).length := by
        simp only [RSt.aborts, updR]
        split
        · simp
        · exact Nat.le_refl _
      omega
    | avoid tx =>
      unfold runJ at h
      split at h
      · split at h
        · exact ih _ _ _ h x
        · injection h with h; subst h; exact Nat.le_refl _
      · split at h
        · split at h
          · injection h with h; subst h; exact Nat.le_refl _
          · split at h
            · injection h with h; subst h; exact Nat.le_refl _
            · exact ih _ _ _ h x
        · split at h
          · injection h with h; subst h; exact Nat.le_refl _
          · split at h
            · cases h
            · rename_i s1 h1
              have a := ih _ _ _ h1 x
              have b := ih _ _ _ h x
              omega
    | doo o =>
      unfold runJ at h
      split at h
      · have a := ih _ _ _ h x; exact a
      · split at h
        · cases h
        · split at h
          · injection h with h; subst h; exact Nat.le_refl _
          · have a := ih _ _ _ h x; exact a
end Go.Proofs.YtjbgjgmdgjnbfaaDoor


namespace Go.Proofs.YtjbgjgmdgjnbfaaDoor
open Go.RowKit

theorem free_calm (H : List HOp) (tx : Int) : freeS ⟨H, []⟩ tx = ⟨H.filter (notTx tx), [], []⟩ := rfl
/-- A run in which none waits tells what was asked. -/
theorem calm_run {way : Int} {N : Nat} (hN : 3 ≤ N) : ∀ (h H : List HOp) (s : RSt), s.T = ⟨H, []⟩ → (∀ x, s.wt x = none) → (∀ x, s.ab x = false) → (∀ o ∈ h, txB o.tx = true) → calmGo H h → ∃ s', runL way N h s = some s' ∧ s'.told = s.told ++ h ∧ s'.vic = s.vic := by
  intro h
  induction h with
  | nil => intro H s _ _ _ _ _; exact ⟨s, rfl, by simp, rfl⟩
  | cons o t ih =>
    intro H s hT hw ha hx hc
    obtain ⟨h1, h2⟩ := hc
    obtain ⟨M, rfl⟩ : ∃ M, N = M + 1 + 1 + 1 := ⟨N - 3, by omega⟩
    have hxo := hx o (List.mem_cons_self ..)
    have key : ∃ s1, runJ way (M + 1 + 1 + 1) (.doo o) s = some s1 ∧ s1.T = ⟨nextH H o, []⟩ ∧ s1.wt = s.wt ∧ s1.ab = s.ab ∧ s1.told = s.told ++ [o] ∧ s1.vic = s.vic := by
      unfold runJ
      by_cases he : endB o = true
      · rw [if_pos he]
        unfold runJ
        rw [if_neg (by rw [hxo]; simp)]
        have e1 : (s.tells o).T = ⟨H, []⟩ := hT
        rw [e1, free_calm]
        unfold runJ
        refine ⟨_, rfl, ?_, rfl, rfl, rfl, rfl⟩
        show freeT ⟨H, []⟩ o.tx = _
        unfold freeT nextH
        rw [free_calm, if_pos he]
      · rw [if_neg he]
        rcases h1 with h1 | ⟨_, h1⟩
        · exact absurd h1 he
        · rw [hT, h1]
          exact ⟨_, rfl, rfl, rfl, rfl, rfl, rfl⟩
    obtain ⟨s1, k1, k2, k3, k4, k5, k6⟩ := key
    obtain ⟨s', r1, r2, r3⟩ := ih (nextH H o) s1 k2 (fun x => by rw [k3]; exact hw x) (fun x => by rw [k4]; exact ha x) (fun x hm => hx x (List.mem_cons_of_mem _ hm)) h2
    refine ⟨s', ?_, by rw [r2, k5]; simp, r3.trans k6⟩
    unfold runL
    rw [if_neg (by rw [ha]; simp), if_neg (by rw [hw]; simp), k1]
    exact r1
theorem okH_txB {h : List HOp} (hk : okH h) : ∀ o ∈ h, txB o.tx = true := by
  intro o ho
  have := okH_right hk o ho
  unfold rightB at this
  simp only [Bool.and_eq_true] at this
  exact this.1.1
theorem serial_run {a b : Int} (ha : 1 ≤ a ∧ a ≤ 6) (hb : 1 ≤ b ∧ b ≤ 6) {q : List Int} (hq : OrdOk q) (way : Int) : ∃ s', runL way 3 (piecesH a b q) rst0 = some s' ∧ s'.told = piecesH a b q ∧ s'.vic = [] := by
  obtain ⟨s', h1, h2, h3⟩ := calm_run (way := way) (N := 3) (Nat.le_refl _) (piecesH a b q) [] rst0 rfl (fun _ => rfl) (fun _ => rfl) (okH_txB (pieces_ok ha hb hq)) (calm_pieces ha hb (fun t ht => hq.2 t ht))
  exact ⟨s', h1, by simpa [rst0] using h2, h3⟩
end Go.Proofs.YtjbgjgmdgjnbfaaDoor


/-
  PLAIN: a runner comes to an end, and what it told is right, rigorous, has an order without the victims (mixed_law).
-/
import Derived.Test.YtmehghkpghbpjaaGreatStrI
import Derived.Test.YtmehghkpghbpjaaGreatStrY

namespace Go.Proofs.YtmehghkpghbpjaaGreat
open Go.RowKit

structure BInv (R : Int → List HOp) (s : RSt) : Prop where
  w : WInv s
  k : KInv R none s
def Idle (s : RSt) (t : Int) : Prop := s.wt t = none → s.bh t = []
def DrainG (R : Int → List HOp) (way : Int) (n : Nat) : Prop := ∀ s tx, BInv R s → phi s ≤ n → ∃ s', EndsJ way (.drain tx) s s' ∧ BInv R s' ∧ mu s' ≤ mu s ∧ (∀ t, Pend s t → Pend s' t) ∧ ∀ t, (t = tx ∨ Idle s t) → Idle s' t
def GoG (R : Int → List HOp) (way : Int) (n : Nat) : Prop := ∀ (l : List HOp) s, BInv R s → phi s ≤ n → (l.map (·.tx)).Nodup → (∀ x ∈ l, Pend s x.tx) → ∃ s', EndsJ way (.go l) s s' ∧ BInv R s' ∧ mu s' ≤ mu s + l.length ∧ (∀ t, Pend s t → t ∉ l.map (·.tx) → Pend s' t) ∧ ∀ t, Idle s t → Idle s' t
def FreeG (R : Int → List HOp) (way : Int) (n : Nat) : Prop := ∀ s tx, WInvX s tx → KInv R (some tx) s → endIn tx s.told = true → txB tx = true → phi s ≤ n → ∃ s', EndsJ way (.free tx) s s' ∧ BInv R s' ∧ mu s' ≤ mu s ∧ (inT s.T tx = true → tx ∈ sixI → mu s' + 1 ≤ mu s) ∧ (∀ t, Pend s t → Pend s' t) ∧ ∀ t, Idle s t → Idle s' t
def AvoidG (R : Int → List HOp) (way : Int) (n : Nat) : Prop := ∀ s tx, BInv R s → phi s ≤ n → ∃ s', EndsJ way (.avoid tx) s s' ∧ BInv R s' ∧ mu s' ≤ mu s ∧ (∀ t, Pend s t → Pend s' t) ∧ ∀ t, Idle s t → Idle s' t
theorem go_endsG {R : Int → List HOp} {way : Int} {n : Nat} (hD : DrainG R way n) : GoG R way n := by
  intro l
  induction l with
  | nil => intro s hI _ _ _; exact ⟨s, EndsJ.nil way s, hI, by simp, fun t h _ => h, fun t h => h⟩
  | cons x t ih =>
    intro s hB hp hn hP
    have hI := hB.w
    obtain ⟨hn1, hn2⟩ := List.nodup_cons.1 (show (x.tx :: t.map (·.tx)).Nodup from hn)
    cases hw : s.wt x.tx with
    | none =>
      obtain ⟨s', h1, h2, h3, h4, h5⟩ := ih s hB hp hn2 fun y hy => hP y (List.mem_cons_of_mem _ hy)
      refine ⟨s', h1.skip hw, h2, by simp only [List.length_cons]; omega, fun u hu hne => h4 u hu fun hm => hne (List.mem_cons_of_mem _ hm), h5⟩
    | some o =>
      have hPx := hP x (List.mem_cons_self ..)
      have hW : s.T.W.any (ofTx x.tx) = false := by
        rcases hPx with ⟨h, _⟩ | ⟨_, h⟩
        · rw [hw] at h; cases h
        · exact h
      have hI1 : WInv { s with wt := updR s.wt x.tx none, told := s.told ++ [o] } := ⟨hI.inv, fun u p hu => by
        unfold updR at hu
        dsimp only at hu
        split at hu
        · cases hu
        · exact hI.wt u p hu, fun y hy => by
        have hne : y.tx ≠ x.tx := fun e => by
          have := List.any_eq_false.1 hW y hy
          simp [ofTx, e] at this
        show (updR s.wt x.tx none y.tx).isSome = true
        rw [updR_ne hne]; exact hI.tab y hy, hI.bh⟩
      have hPk : ∀ u, u ≠ x.tx → Pend s u → Pend { s with wt := updR s.wt x.tx none, told := s.told ++ [o] } u := fun u hu h => by
        unfold Pend at h ⊢
        dsimp only
        rw [updR_ne hu]; exact h
      have hIk : ∀ u, u ≠ x.tx → Idle s u → Idle { s with wt := updR s.wt x.tx none, told := s.told ++ [o] } u := fun u hu h => by
        unfold Idle at h ⊢
        dsimp only
        rw [updR_ne hu]; exact h
      obtain ⟨s1, a1, a2, a3, a4, a5⟩ := hD { s with wt := updR s.wt x.tx none, told := s.told ++ [o] } x.tx ⟨hI1, hB.k.woken hI hw hW⟩ (by unfold phi at hp ⊢; exact hp)
      have ht1 := a1.told
      have hm0 : mu { s with wt := updR s.wt x.tx none, told := s.told ++ [o] } = mu s + 1 := by
        unfold mu phi
        simp only [List.length_append, List.length_singleton]; omega
      simp only [List.length_append, List.length_singleton] at ht1
      obtain ⟨s', h1, h2, h3, h4, h5⟩ := ih s1 a2 (by unfold mu at a3 hm0; omega) hn2 fun y hy => a4 _ (hPk _ (fun e => hn1 (List.mem_map.2 ⟨y, hy, e⟩)) (hP y (List.mem_cons_of_mem _ hy)))
      refine ⟨s', EndsJ.cons hw a1 h1, h2, by simp only [List.length_cons]; omega, fun u hu hne => ?_, fun u hu => h5 u (a5 u ?_)⟩
      · simp only [List.map_cons, List.mem_cons, not_or] at hne
        exact h4 u (a4 u (hPk u hne.1 hu)) hne.2
      · by_cases e : u = x.tx
        · exact .inl e
        · exact .inr (hIk u e hu)
theorem free_endsG {R : Int → List HOp} {way : Int} {n : Nat} (hG : GoG R way n) : FreeG R way n := by
  intro s tx hI hK hd ht hp
  obtain ⟨o1, o2, o3⟩ := freeS_out hI.inv tx
  obtain ⟨p1, p2⟩ := tabN_free s.T tx
  have hI1 : WInv { s with T := freeT s.T tx } := ⟨free_inv hI.inv tx, hI.wt, fun y hy => hI.tab y (o3 y hy).1 (o3 y hy).2, hI.bh⟩
  have hout : ∀ x ∈ (freeS s.T tx).out, (s.wt x.tx).isSome = true := fun x hx => hI.tab x (o2 x hx).1 (o2 x hx).2.1
  have hphi : phi { s with T := freeT s.T tx } + (freeS s.T tx).out.length ≤ phi s := by unfold phi; dsimp only; omega
  obtain ⟨s', h1, h2, h3, h4, h5⟩ := hG (freeS s.T tx).out { s with T := freeT s.T tx } ⟨hI1, hK.free hI hd⟩ (by omega) o1 fun x hx => .inr ⟨hout x hx, (o2 x hx).2.2⟩
  have hmu : mu { s with T := freeT s.T tx } + (freeS s.T tx).out.length ≤ mu s := by unfold mu; dsimp only; omega
  refine ⟨s', EndsJ.free ht h1, h2, by omega, fun hin h6 => ?_, fun u hu => h4 u ?_ ?_, h5⟩
  · have := p2 h6 hin
    have : mu { s with T := freeT s.T tx } + (freeS s.T tx).out.length + 1 ≤ mu s := by unfold mu phi; dsimp only; omega
    omega
  · rcases hu with ⟨a, b⟩ | ⟨a, b⟩
    · exact .inl ⟨a, b⟩
    · refine .inr ⟨a, ?_⟩
      rw [List.any_eq_false] at b ⊢
      exact fun y hy => b y (o3 y hy).1
  · intro hm
    obtain ⟨x, hx, rfl⟩ := List.mem_map.1 hm
    rcases hu with ⟨a, _⟩ | ⟨_, b⟩
    · have := hout x hx
      rw [a] at this; cases this
    · have := List.any_eq_false.1 b x (o2 x hx).1
      simp [ofTx] at this
theorem dead_inT {R : Int → List HOp} {s : RSt} (hB : BInv R s) {d : Int} (hin : inT s.T d = true) : endIn d s.told = false := by
  cases h : endIn d s.told with
  | false => rfl
  | true =>
    obtain ⟨d1, d2, _⟩ := hB.k.dead d h
    unfold inT at hin
    rw [Bool.or_eq_true] at hin
    rcases hin with h1 | h1
    · obtain ⟨y, hy, e⟩ := List.any_eq_true.1 h1
      exact absurd (of_decide_eq_true e) (d1 (fun h => by cases h) y hy)
    · obtain ⟨y, hy, e⟩ := List.any_eq_true.1 h1
      have h2 := hB.w.tab y hy
      have e : y.tx = d := of_decide_eq_true e
      rw [e, d2] at h2; cases h2
theorem abort_endsG {R : Int → List HOp} {way : Int} {n : Nat} (hF : FreeG R way n) {s : RSt} {tx : Int} (hB : BInv R s) (h6 : tx ∈ sixI) (hin : inT s.T tx = true) (hp : phi s ≤ n) : ∃ s', EndsJ way (.abort tx) s s' ∧ BInv R s' ∧ mu s' ≤ mu s ∧ phi s' + 1 ≤ phi s ∧ (∀ t, Pend s t → Pend s' t) ∧ ∀ t, Idle s t → Idle s' t := by
  have hI := hB.w
  have hX : WInvX (s.aborts tx) tx := ⟨hI.inv, fun u p hu => by
      simp only [RSt.aborts, updR] at hu
      split at hu
      · cases hu
      · exact hI.wt u p hu, fun y hy hne => by
      show (updR s.wt tx none y.tx).isSome = true
      rw [updR_ne hne]; exact hI.tab y hy, fun u p hu => by
      simp only [RSt.aborts, updR] at hu
      split at hu
      · cases hu
      · exact hI.bh u p hu⟩
  have hb := bN_upd (bh := s.bh) h6 []
  have hph : phi (s.aborts tx) ≤ phi s := by unfold phi RSt.aborts; dsimp only; simp only [List.length_nil] at hb; omega
  have hmu : mu (s.aborts tx) ≤ mu s + 1 := by
    unfold mu
    have : (s.aborts tx).told.length = s.told.length + 1 := by simp [RSt.aborts]
    omega
  have htx : txB tx = true := by have := mem_six.1 h6; unfold txB; simp; omega
  have hde : endIn tx (s.aborts tx).told = true := by
    show endIn tx (s.told ++ [⟨tx, 4, 0⟩]) = true
    rw [endIn_snoc]; simp
  obtain ⟨s', h1, h2, _, h4, h5, h8⟩ := hF (s.aborts tx) tx hX (hB.k.aborted h6 (dead_inT hB hin)) hde htx (by omega)
  have h7 := h4 hin h6
  have ht := h1.told
  have ht2 : (s.aborts tx).told.length = s.told.length + 1 := by simp [RSt.aborts]
  refine ⟨s', h1.abort, h2, by omega, by unfold mu at *; omega, fun t hP => h5 t ?_, fun t hi => h8 t ?_⟩
  · by_cases e : t = tx
    · subst e
      exact .inl ⟨by simp [RSt.aborts, updR], by simp [RSt.aborts, updR]⟩
    · unfold Pend at hP ⊢
      simp only [RSt.aborts]
      rw [updR_ne e, updR_ne e]; exact hP
  · unfold Idle at hi ⊢
    simp only [RSt.aborts]
    by_cases e : t = tx
    · subst e
      rw [updR_same, updR_same]; exact fun _ => rfl
    · rw [updR_ne e, updR_ne e]; exact hi
theorem avoid_endsG {R : Int → List HOp} {way : Int} {n : Nat} (hF : FreeG R way n) (ih : ∀ m, m < n → AvoidG R way m) : AvoidG R way n := by
  intro s tx hI hp
  cases hn : nextA way s.T tx with
  | none => exact ⟨s, EndsJ.avoid0 hn, hI, Nat.le_refl _, fun _ h => h, fun _ h => h⟩
  | some d =>
    obtain ⟨i1, i2⟩ := nextA_in hI.w.inv hn
    obtain ⟨s1, a1, a2, a3, a4, a5, a6⟩ := abort_endsG hF hI i2 i1 hp
    by_cases ha : againA way = true
    · obtain ⟨s', b1, b2, b3, b4, b5⟩ := ih (n - 1) (by omega) s1 tx a2 (by omega)
      exact ⟨s', EndsJ.avoid1 hn a1 (by rw [if_pos ha]; exact b1), b2, by omega, fun t h => b4 t (a5 t h), fun t h => b5 t (a6 t h)⟩
    · exact ⟨s1, EndsJ.avoid1 hn a1 (by rw [if_neg ha]), a2, a3, a5, a6⟩
theorem do_endsG {R : Int → List HOp} {way : Int} {n : Nat} (hF : FreeG R way n) (hA : AvoidG R way (n + 2)) {s : RSt} {o : HOp} (hB : BInv R s) (hr : rightB o = true) (hw : s.wt o.tx = none) (hd : endIn o.tx s.told = false) (hlast : endsB o = true → s.bh o.tx = [] ∧ R o.tx = []) (hp : phi s ≤ n) : ∃ s', EndsJ way (.doo o) s s' ∧ BInv R s' ∧ mu s' ≤ mu s + 2 ∧ (∀ t, t ≠ o.tx → Pend s t → Pend s' t) ∧ ∀ t, t ≠ o.tx → Idle s t → Idle s' t := by
  have hI := hB.w
  cases he : endB o with
  | true =>
    have hI1 : WInvX (s.tells o) o.tx := (show WInv (s.tells o) from ⟨hI.inv, hI.wt, hI.tab, hI.bh⟩).x _
    have he2 : endsB o = true := by rw [← endB_endsB]; exact he
    obtain ⟨l1, l2⟩ := hlast he2
    have hde : endIn o.tx (s.tells o).told = true := by
      show endIn o.tx (s.told ++ [o]) = true
      rw [endIn_one _ _ hr, he2]; simp
    obtain ⟨s', h1, h2, h3, _, h5, h6⟩ := hF (s.tells o) o.tx hI1 (hB.k.tellEnd hr he2 hd hw l1 (.inr l2)) hde (right_txB hr) (by unfold phi RSt.tells at *; exact hp)
    have hm : mu (s.tells o) = mu s + 1 := by unfold mu phi RSt.tells; simp only [List.length_append, List.length_singleton]; omega
    exact ⟨s', h1.doEnd he, h2, by omega, fun t _ h => h5 t h, fun t _ h => h6 t h⟩
  | false =>
    have he2 : endsB o = false := by rw [← endB_endsB]; exact he
    have hW : s.T.W.any (ofTx (lockOf o).tx) = false := by
      rw [List.any_eq_false]
      intro y hy e
      have h1 := hI.tab y hy
      have h2 : y.tx = o.tx := of_decide_eq_true e
      rw [h2, hw] at h1; cases h1
    have hlr := lock_right hr he
    have hz : (askF s.T (lockOf o)).2.1 = 0 := by
      unfold askF
      rw [if_neg (by rw [hlr]; simp), if_neg (by rw [hW]; simp)]
      split
      · rfl
      · split <;> rfl
    have hinv := ask_inv hI.inv (lockOf o)
    obtain ⟨t1, t2⟩ := tabN_ask s.T (lockOf o)
    have hWsub : ∀ y ∈ (askF s.T (lockOf o)).2.2.W, y ∈ s.T.W ∨ ((askF s.T (lockOf o)).1 = false ∧ y.tx = o.tx) := by
      unfold askF
      rw [if_neg (by rw [hlr]; simp), if_neg (by rw [hW]; simp)]
      split
      · exact fun y hy => .inl hy
      · split
        · exact fun y hy => .inl hy
        · intro y hy
          rcases List.mem_append.1 hy with hy | hy
          · exact .inl hy
          · exact .inr ⟨rfl, by rw [List.mem_singleton.1 hy]; rfl⟩
    obtain ⟨is, er, T', hq⟩ : ∃ a b c, askF s.T (lockOf o) = (a, b, c) := ⟨_, _, _, rfl⟩
    rw [hq] at hz hinv t1 t2 hWsub
    simp only at hz hinv t1 t2 hWsub
    subst hz
    cases is with
    | true =>
      obtain ⟨k1, k2⟩ := hB.k.ask hI.inv hd hq
      have k3 := k1.tell hinv hr he2 hd k2
      refine ⟨_, EndsJ.doHas he hq, ⟨⟨hinv, hI.wt, fun y hy => ?_, hI.bh⟩, k3⟩, ?_, fun t hne h => ?_, fun t _ h => h⟩
      · rcases hWsub y hy with h | ⟨h, _⟩
        · exact hI.tab y h
        · cases h
      · have := t2 rfl
        unfold mu phi RSt.tells; simp only [List.length_append, List.length_singleton]; omega
      · rcases h with h | ⟨h, h2⟩
        · exact .inl h
        · refine .inr ⟨h, ?_⟩
          rw [List.any_eq_false] at h2 ⊢
          intro y hy
          rcases hWsub y hy with h3 | ⟨h3, _⟩
          · exact h2 y h3
          · cases h3
    | false =>
      have hI1 : WInv { s with T := T', wt := updR s.wt o.tx (some o) } := ⟨hinv, fun u p hu => by
          unfold updR at hu
          dsimp only at hu
          split at hu
          · rename_i e
            injection hu with hu
            subst hu
            exact ⟨e.symm, hr, he⟩
          · exact hI.wt u p hu, fun y hy => by
          show (updR s.wt o.tx (some o) y.tx).isSome = true
          by_cases e : y.tx = o.tx
          · rw [e, updR_same]; rfl
          · rw [updR_ne e]
            rcases hWsub y hy with h | ⟨_, h⟩
            · exact hI.tab y h
            · exact absurd h e, hI.bh⟩
      have hph : phi { s with T := T', wt := updR s.wt o.tx (some o) } ≤ phi s + 2 := by unfold phi; dsimp only; omega
      obtain ⟨s', h1, h2, h3, h4, h6⟩ := hA { s with T := T', wt := updR s.wt o.tx (some o) } o.tx ⟨hI1, hB.k.wait hd hq⟩ (by omega)
      have hm : mu { s with T := T', wt := updR s.wt o.tx (some o) } ≤ mu s + 2 := by unfold mu; dsimp only; omega
      refine ⟨s', EndsJ.doWaits he hq h1, h2, by omega, fun t hne h => h4 t ?_, fun t hne h => h6 t ?_⟩
      · unfold Pend at h ⊢
        dsimp only
        rw [updR_ne hne]
        rcases h with h | ⟨h, h5⟩
        · exact .inl h
        · refine .inr ⟨h, ?_⟩
          rw [List.any_eq_false] at h5 ⊢
          intro y hy
          rcases hWsub y hy with h3 | ⟨_, h3⟩
          · exact h5 y h3
          · simp [ofTx, h3]; exact fun e => hne e.symm
      · unfold Idle at h ⊢
        dsimp only
        rw [updR_ne hne]; exact h
theorem drain_endsG {R : Int → List HOp} {way : Int} {n : Nat} (hF : ∀ m, m < n → FreeG R way m) (hA : ∀ m, m < n → AvoidG R way m) (ih : ∀ m, m < n → DrainG R way m) : DrainG R way n := by
  intro s tx hB hp
  have hI := hB.w
  cases hb : s.bh tx with
  | nil => exact ⟨s, EndsJ.drain0 (.inl hb), hB, Nat.le_refl _, fun _ h => h, fun t h => h.elim (fun e => by rw [e]; exact fun _ => hb) id⟩
  | cons o t =>
    cases hw : s.wt tx with
    | some p => exact ⟨s, EndsJ.drain0 (.inr (by rw [hw]; rfl)), hB, Nat.le_refl _, fun _ h => h, fun t h => h.elim (fun e => by rw [e]; exact fun h2 => by rw [hw] at h2; cases h2) id⟩
    | none =>
      obtain ⟨e1, e2⟩ := hI.bh tx o (by rw [hb]; exact List.mem_cons_self ..)
      have h6 : tx ∈ sixI := by rw [← e1]; exact right_six e2
      have hbn := bN_upd (bh := s.bh) h6 t
      rw [hb, List.length_cons] at hbn
      have hI1 : WInv { s with bh := updR s.bh tx t } := ⟨hI.inv, hI.wt, hI.tab, fun u p hu => by
        unfold updR at hu
        dsimp only at hu
        split at hu
        · rename_i e; rw [e]; exact hI.bh tx p (by rw [hb]; exact List.mem_cons_of_mem _ hu)
        · exact hI.bh u p hu⟩
      obtain ⟨k1, k2, k3⟩ := hB.k.shift hb
      have hph : phi { s with bh := updR s.bh tx t } + 4 = phi s := by unfold phi; dsimp only; omega
      obtain ⟨s1, a1, a2, a3, a4, a5⟩ := do_endsG (n := n - 4) (hF _ (by omega)) (hA _ (by omega)) ⟨hI1, k1⟩ e2 (by rw [e1]; exact hw) (by rw [e1]; exact k2) (fun he => by rw [e1]; exact ⟨(updR_same ..).trans (k3 he).1, (k3 he).2⟩) (by omega)
      have ht1 := a1.told
      dsimp only at ht1
      have hmu : mu { s with bh := updR s.bh tx t } + 4 = mu s := by unfold mu; dsimp only; omega
      obtain ⟨s', b1, b2, b3, b4, b5⟩ := ih (n - 2) (by omega) s1 tx a2 (by unfold mu at a3 hmu; dsimp only at a3 hmu; omega)
      refine ⟨s', EndsJ.drain1 hb hw a1 b1, b2, by omega, fun u hu => b4 u ?_, fun u hu => b5 u ?_⟩
      · by_cases e : u = tx
        · subst e
          rcases hu with ⟨_, h⟩ | ⟨h, _⟩
          · rw [hb] at h; cases h
          · rw [hw] at h; cases h
        · refine a4 u (by rw [e1]; exact e) ?_
          unfold Pend at hu ⊢
          dsimp only
          rw [updR_ne e]; exact hu
      · by_cases e : u = tx
        · exact .inl e
        · refine .inr (a5 u (by rw [e1]; exact e) ?_)
          have hu := hu.resolve_left e
          unfold Idle at hu ⊢
          dsimp only
          rw [updR_ne e]; exact hu
theorem all_endsG (R : Int → List HOp) (way : Int) : ∀ n, DrainG R way n ∧ FreeG R way n ∧ AvoidG R way n := by
  intro n
  induction n using Nat.strongRecOn with
  | ind n ih =>
    have hD := drain_endsG (fun m hm => (ih m hm).2.1) (fun m hm => (ih m hm).2.2) (fun m hm => (ih m hm).1)
    have hF := free_endsG (go_endsG hD)
    exact ⟨hD, hF, avoid_endsG hF fun m hm => (ih m hm).2.2⟩
/-- What is left of a list's head deal. -/
theorem ownC (o : HOp) (l : List HOp) (t : Int) : ownL (o :: l) t = if o.tx = t then o :: ownL l t else ownL l t := by
  unfold ownL
  by_cases h : o.tx = t
  · rw [if_pos h, List.filter_cons_of_pos (by simpa using h)]
  · rw [if_neg h, List.filter_cons_of_neg (by simpa using h)]
/-- Ops of deals that go no further are let go. -/
theorem KInv.skip {l : List HOp} {o : HOp} {s : RSt} (K : KInv (ownL (o :: l)) none s) (ha : s.ab o.tx = true) : KInv (ownL l) none s := by
  have hd := K.abd _ ha
  refine ⟨K.rgt, K.good, K.rig, K.cov, fun t ht => ?_, K.held, fun t p e q h he => ?_, K.vic, K.abd⟩
  · obtain ⟨d1, d2, d3, d4⟩ := K.dead t ht
    refine ⟨d1, d2, d3, d4.imp id fun h => ?_⟩
    rw [ownC] at h
    split at h
    · cases h
    · exact h
  · by_cases e2 : o.tx = t
    · subst e2
      have hb := (K.dead _ hd).2.2.1
      rw [hb, List.nil_append] at h
      exact K.seq o.tx (o :: p) e q (by rw [hb, ownC, if_pos rfl, h]; rfl) he
    · exact K.seq t p e q (by rw [ownC, if_neg e2]; exact h) he
theorem KInv.later {l : List HOp} {o : HOp} {s : RSt} (K : KInv (ownL (o :: l)) none s) (hw : (s.wt o.tx).isSome = true) : KInv (ownL l) none { s with bh := updR s.bh o.tx (s.bh o.tx ++ [o]) } := by
  refine ⟨K.rgt, K.good, K.rig, K.cov, fun t ht => ?_, K.held, fun t p e q h he => ?_, K.vic, K.abd⟩
  · obtain ⟨d1, d2, d3, d4⟩ := K.dead t ht
    have hne : t ≠ o.tx := fun e => by rw [← e, d2] at hw; cases hw
    refine ⟨d1, d2, ?_, d4.imp id fun h => ?_⟩
    · show updR s.bh o.tx _ t = []
      rw [updR_ne hne]; exact d3
    · rw [ownC, if_neg (fun e => hne e.symm)] at h; exact h
  · unfold updR at h
    dsimp only at h
    by_cases e2 : t = o.tx
    · subst e2
      rw [if_pos rfl, List.append_assoc] at h
      exact K.seq o.tx p e q (by rw [ownC, if_pos rfl]; exact h) he
    · rw [if_neg e2] at h
      exact K.seq t p e q (by rw [ownC, if_neg (fun e => e2 e.symm)]; exact h) he
theorem KInv.now {l : List HOp} {o : HOp} {s : RSt} (K : KInv (ownL (o :: l)) none s) (ha : ¬ s.ab o.tx = true) (hb : s.bh o.tx = []) : KInv (ownL l) none s ∧ endIn o.tx s.told = false ∧ (endsB o = true → ownL l o.tx = []) := by
  have hR : ownL (o :: l) o.tx = o :: ownL l o.tx := by rw [ownC, if_pos rfl]
  have hd : endIn o.tx s.told = false := by
    cases h : endIn o.tx s.told with
    | false => rfl
    | true =>
      rcases (K.dead _ h).2.2.2 with h1 | h1
      · exact absurd h1 ha
      · rw [hR] at h1; cases h1
  refine ⟨⟨K.rgt, K.good, K.rig, K.cov, fun t ht => ?_, K.held, fun t p e q h he => ?_, K.vic, K.abd⟩, hd, fun he => ?_⟩
  · obtain ⟨d1, d2, d3, d4⟩ := K.dead t ht
    refine ⟨d1, d2, d3, d4.imp id fun h => ?_⟩
    rw [ownC] at h
    split at h
    · cases h
    · exact h
  · by_cases e2 : o.tx = t
    · subst e2
      rw [hb, List.nil_append] at h
      exact K.seq o.tx (o :: p) e q (by rw [hb, hR, h]; rfl) he
    · exact K.seq t p e q (by rw [ownC, if_neg e2]; exact h) he
  · exact K.seq o.tx [] o (ownL l o.tx) (by rw [hb, hR]) he
/-- A runner's end, with all that it keeps. -/
theorem run_endsG (way : Int) : ∀ (l : List HOp) (s : RSt), WInv s → KInv (ownL l) none s → (∀ t, Idle s t) → (∀ o ∈ l, rightB o = true) → ∃ N s', (∀ k, N ≤ k → runL way k l s = some s') ∧ WInv s' ∧ KInv (fun _ => []) none s' ∧ mu s' ≤ mu s + 4 * l.length
  | [], s, hI, hK, _, _ => ⟨0, s, fun k _ => rfl, hI, ⟨hK.rgt, hK.good, hK.rig, hK.cov, hK.dead, hK.held, hK.seq, hK.vic, hK.abd⟩, by simp⟩
  | o :: t, s, hI, hK, hid, hr => by
    have hro := hr o (List.mem_cons_self ..)
    have hrt : ∀ x ∈ t, rightB x = true := fun x hx => hr x (List.mem_cons_of_mem _ hx)
    by_cases ha : s.ab o.tx = true
    · obtain ⟨N, s', h1, h2, h3, h4⟩ := run_endsG way t s hI (hK.skip ha) hid hrt
      exact ⟨N, s', fun k hk => by unfold runL; rw [if_pos ha]; exact h1 k hk, h2, h3, by simp only [List.length_cons]; omega⟩
    · by_cases hw : (s.wt o.tx).isSome = true
      · have hI1 : WInv { s with bh := updR s.bh o.tx (s.bh o.tx ++ [o]) } := ⟨hI.inv, hI.wt, hI.tab, fun u p hu => by
          unfold updR at hu
          dsimp only at hu
          split at hu
          · rename_i e
            rw [e]
            rcases List.mem_append.1 hu with hu | hu
            · exact hI.bh _ p hu
            · rw [List.mem_singleton.1 hu]; exact ⟨rfl, hro⟩
          · exact hI.bh u p hu⟩
        have hbn := bN_upd (bh := s.bh) (right_six hro) (s.bh o.tx ++ [o])
        rw [List.length_append, List.length_singleton] at hbn
        obtain ⟨N, s', h1, h2, h3, h4⟩ := run_endsG way t { s with bh := updR s.bh o.tx (s.bh o.tx ++ [o]) } hI1 (hK.later hw) (fun u h => by
          dsimp only at h
          have hne : u ≠ o.tx := fun e => by rw [e] at h; rw [h] at hw; cases hw
          show updR s.bh o.tx _ u = []
          rw [updR_ne hne]; exact hid u h) hrt
        refine ⟨N, s', fun k hk => by unfold runL; rw [if_neg ha, if_pos hw]; exact h1 k hk, h2, h3, ?_⟩
        have : mu { s with bh := updR s.bh o.tx (s.bh o.tx ++ [o]) } ≤ mu s + 4 := by unfold mu phi; dsimp only; omega
        simp only [List.length_cons]; omega
      · have hw0 : s.wt o.tx = none := by cases h : s.wt o.tx with
          | none => rfl
          | some p => rw [h] at hw; exact absurd rfl hw
        obtain ⟨k1, k2, k3⟩ := hK.now ha (hid _ hw0)
        obtain ⟨s1, ⟨M, a1⟩, a2, a3, _, a5⟩ := do_endsG (n := phi s) (all_endsG (ownL t) way _).2.1 (all_endsG (ownL t) way _).2.2 ⟨hI, k1⟩ hro hw0 k2 (fun he => ⟨hid _ hw0, k3 he⟩) (Nat.le_refl _)
        have hb1 := runJ_bh _ _ _ _ (a1 M (Nat.le_refl _)) o.tx
        rw [hid _ hw0] at hb1
        obtain ⟨N, s', h1, h2, h3, h4⟩ := run_endsG way t s1 a2.w a2.k (fun u => by
          by_cases e : u = o.tx
          · rw [e]; exact fun _ => List.eq_nil_of_length_eq_zero (by simpa using hb1)
          · exact a5 u e (hid u)) hrt
        refine ⟨N + M, s', fun k hk => ?_, h2, h3, by simp only [List.length_cons]; omega⟩
        unfold runL
        rw [if_neg ha, if_neg hw, a1 k (by omega)]
        exact h1 k (by omega)
theorem runJ_vic {way : Int} : ∀ (n : Nat) (j : Job) (s s' : RSt), runJ way n j s = some s' → s'.vic.length + s.told.length ≤ s.vic.length + s'.told.length := by
  intro n
  induction n with
  | zero => intro j s s' h; cases j <;> simp [runJ] at h
  | succ n ih =>
    intro j s s' h
    cases j with
    | free tx =>
      unfold runJ at h
      split at h
      · cases h
      · have a := ih _ _ _ h; exact a
    | go l =>
      cases l with
      | nil => unfold runJ at h; injection h with h; subst h; omega
      | cons x t =>
        unfold runJ at h
        split at h
        · exact ih _ _ _ h
        · rename_i o ho
          split at h
          · cases h
          · rename_i s1 h1
            have a := ih _ _ _ h1
            have b := ih _ _ _ h
            simp only [List.length_append, List.length_singleton] at a
            omega
    | drain tx =>
      unfold runJ at h
      split at h
      · injection h with h; subst h; omega
      · split at h
        · injection h with h; subst h; omega
        · split at h
          · cases h
          · rename_i s1 h1
            have a := ih _ _ _ h1
            have b := ih _ _ _ h
            simp only at a
            omega
    | abort tx =>
      unfold runJ at h
      have a := ih _ _ _ h
      simp only [RSt.aborts, List.length_append, List.length_singleton] at a
      omega
    | avoid tx =>
      unfold runJ at h
      split at h
      · split at h
        · exact ih _ _ _ h
        · injection h with h; subst h; omega
      · split at h
        · split at h
          · injection h with h; subst h; omega
          · split at h
            · injection h with h; subst h; omega
            · exact ih _ _ _ h
        · split at h
          · injection h with h; subst h; omega
          · split at h
            · cases h
            · rename_i s1 h1
              have a := ih _ _ _ h1
              have b := ih _ _ _ h
              omega
    | doo o =>
      unfold runJ at h
      split at h
      · have a := ih _ _ _ h
        simp only [RSt.tells, List.length_append, List.length_singleton] at a
        omega
      · split at h
        · cases h
        · split at h
          · injection h with h; subst h
            simp only [RSt.tells, List.length_append, List.length_singleton]; omega
          · have a := ih _ _ _ h; exact a
theorem runL_vic (way : Int) (N : Nat) : ∀ (l : List HOp) (s s' : RSt), runL way N l s = some s' → s'.vic.length + s.told.length ≤ s.vic.length + s'.told.length
  | [], s, s', h => by unfold runL at h; injection h with h; subst h; omega
  | o :: t, s, s', h => by
    unfold runL at h
    split at h
    · exact runL_vic way N t _ _ h
    · split at h
      · have a := runL_vic way N t _ _ h; exact a
      · split at h
        · cases h
        · rename_i s1 h1
          have a := runJ_vic _ _ _ _ h1
          have b := runL_vic way N t _ _ h
          omega
theorem good_endq : ∀ {l : List HOp}, goodOwn l → ∀ {p q : List HOp} {e : HOp}, l = p ++ e :: q → endsB e = true → q = []
  | a :: l, h, [], q, e, hl, he => by
    injection hl with h1 h2
    subst h1 h2
    exact h.1 he
  | a :: l, h, b :: p, q, e, hl, he => by
    injection hl with h1 h2
    exact good_endq h.2 h2 he
  | [], _, [], q, e, hl, _ => by cases hl
  | [], _, b :: p, q, e, hl, _ => by cases hl
theorem own_noneK {h : List HOp} (hok : okH h) {t : Int} (ht : t ∉ sixI) : ownL h t = [] := by
  unfold ownL
  rw [List.filter_eq_nil_iff]
  intro o ho e
  have := okH_six hok o ho
  simp at e
  subst e
  exact ht this
theorem kinv0 {h : List HOp} (hok : okH h) : KInv (ownL h) none rst0 := by
  refine ⟨fun _ h => (by cases h), fun _ => trivial, fun k x h => (by simp [rst0] at h), fun _ h => (by cases h), fun t h => (by simp [rst0, endIn] at h), fun _ _ h => (by simp [rst0] at h), fun t p e q hx he => ?_, fun _ h => (by cases h), fun t h => (by simp [rst0] at h)⟩
  have hx : ownL h t = p ++ e :: q := hx
  by_cases ht : t ∈ sixI
  · have := mem_six.1 ht
    exact good_endq ((okH_iff.1 hok).2.2 t this.1 this.2) hx he
  · rw [own_noneK hok ht] at hx
    cases p <;> cases hx
theorem rig_faces {h : List HOp} (hk : okH h) (hr : RigL h) : (facesF h).rig = true := by
  have hop : ∀ (k : Nat) (o : HOp), h[k]? = some o → endsB o = false → ∀ v : Int, (v = 2 ∨ (v = 1 ∧ o.what = 2)) → openB (h.take k) o v = false := fun k o hk2 he v hv => by
    unfold openB
    rw [List.any_eq_false]
    intro p hp hpo
    unfold openT at hpo
    obtain ⟨p1, p2, p3, p4⟩ := of_decide_eq_true hpo
    have hpm := List.mem_of_mem_take hp
    have ht := okH_tx hk p hpm
    have hpe : endsB p = false := by
      rw [end_what (okH_right hk p hpm)]
      exact decide_eq_false (by omega)
    rw [endedF_get hk k p.tx ht.1 ht.2] at p4
    have h1 := hr k o hk2 he p hp hpe p3 p2 (by omega)
    rw [endGo_zero.1 p4] at h1; cases h1
  show (scanB rigT [] h && scanB strictT [] h) = true
  rw [Bool.and_eq_true, scanB_at, scanB_at]
  refine ⟨fun k o hk2 => ?_, fun k o hk2 => ?_⟩
  · unfold rigT
    cases he : endsB o with
    | true => rfl
    | false =>
      by_cases hw : o.what = 2
      · rw [hop k o hk2 he 1 (.inr ⟨rfl, hw⟩)]; simp
      · simp [hw]
  · unfold strictT
    cases he : endsB o with
    | true => rfl
    | false => rw [hop k o hk2 he 2 (.inl rfl)]; rfl
/-- Keeping locks, whatever a few ops come in: what is told is rigorous, has an order, and no victim is in it. -/
theorem mixed_law (way : Int) {h : List HOp} (hok : okH h) (h8 : h.length ≤ 8) : ∃ N s' o, (∀ k, N ≤ k → runL way k h rst0 = some s') ∧ s'.told.length ≤ 32 ∧ s'.vic.length ≤ 32 ∧ okH s'.told ∧ (facesF s'.told).rig = true ∧ orderOf s'.told = some o ∧ (∀ t ∈ o, t ∉ s'.vic) := by
  obtain ⟨N, s', h1, h2, h3, h4⟩ := run_endsG way h rst0 winv0 (kinv0 hok) (fun t _ => rfl) (fun o ho => okH_right hok o ho)
  have h0 : mu rst0 = 0 := by decide
  have hl : s'.told.length ≤ 32 := by unfold mu at h4 h0; omega
  have hk : okH s'.told := okH_iff.2 ⟨by omega, h3.rgt, fun t _ _ => h3.good t⟩
  have hrig := rig_faces hk h3.rig
  have hsw := rig_serial hk hrig
  obtain ⟨o, ho⟩ := serial_order (okH_tx hk) (commits_nodup hk) hsw.symm
  refine ⟨N, s', o, h1, hl, ?_, hk, hrig, ho, fun t ht hv => ?_⟩
  · have := (runL_vic way N h rst0 s' (h1 N (Nat.le_refl _)))
    simp [rst0] at this
    omega
  · obtain ⟨e, he, e1, e2⟩ := h3.vic t hv
    have hc := (commits_deals hk).2 ((orderOf_some ho).2.1 t |>.1 ht)
    obtain ⟨c, hc, c1, c2⟩ := mem_commits.1 hc
    have a1 := endGo_is hk he (by omega)
    have a2 := endGo_is hk hc (by omega)
    rw [e1] at a1
    rw [c1] at a2
    omega
end Go.Proofs.YtmehghkpghbpjaaGreat

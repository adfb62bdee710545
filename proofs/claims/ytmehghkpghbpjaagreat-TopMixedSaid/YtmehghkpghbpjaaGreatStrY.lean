
/-
  PLAIN: a runner comes to an end with every right history (strict_ends).
-/
import Derived.Test.YtmehghkpghbpjaaGreatQ25

namespace Go.Proofs.YtmehghkpghbpjaaGreat
open Go.RowKit

/-- What a job leaves. -/
structure Fin (s s' : RSt) (c : Nat) : Prop where
  inv : WInv s'
  mu : mu s' ≤ mu s + c
theorem phi_of {s s' : RSt} {c : Nat} (hm : mu s' ≤ mu s + c) (ht : s.told.length + c ≤ s'.told.length) : phi s' ≤ phi s := by unfold mu at hm; omega
theorem phi_told {s s' : RSt} (hm : mu s' ≤ mu s) (ht : s.told.length ≤ s'.told.length) : phi s' ≤ phi s := by unfold mu at hm; omega
def DrainE (way : Int) (n : Nat) : Prop := ∀ s tx, WInv s → phi s ≤ n → ∃ s', EndsJ way (.drain tx) s s' ∧ WInv s' ∧ mu s' ≤ mu s ∧ ∀ t, Pend s t → Pend s' t
def GoE (way : Int) (n : Nat) : Prop := ∀ (l : List HOp) s, WInv s → phi s ≤ n → (l.map (·.tx)).Nodup → (∀ x ∈ l, Pend s x.tx) → ∃ s', EndsJ way (.go l) s s' ∧ WInv s' ∧ mu s' ≤ mu s + l.length ∧ ∀ t, Pend s t → t ∉ l.map (·.tx) → Pend s' t
def FreeE (way : Int) (n : Nat) : Prop := ∀ s tx, WInvX s tx → txB tx = true → phi s ≤ n → ∃ s', EndsJ way (.free tx) s s' ∧ WInv s' ∧ mu s' ≤ mu s ∧ (inT s.T tx = true → tx ∈ sixI → mu s' + 1 ≤ mu s) ∧ ∀ t, Pend s t → Pend s' t
def AvoidE (way : Int) (n : Nat) : Prop := ∀ s tx, WInv s → phi s ≤ n → ∃ s', EndsJ way (.avoid tx) s s' ∧ WInv s' ∧ mu s' ≤ mu s ∧ ∀ t, Pend s t → Pend s' t
theorem go_ends {way : Int} {n : Nat} (hD : DrainE way n) : GoE way n := by
  intro l
  induction l with
  | nil => intro s hI _ _ _; exact ⟨s, EndsJ.nil way s, hI, by simp, fun t h _ => h⟩
  | cons x t ih =>
    intro s hI hp hn hP
    obtain ⟨hn1, hn2⟩ := List.nodup_cons.1 (show (x.tx :: t.map (·.tx)).Nodup from hn)
    cases hw : s.wt x.tx with
    | none =>
      obtain ⟨s', h1, h2, h3, h4⟩ := ih s hI hp hn2 fun y hy => hP y (List.mem_cons_of_mem _ hy)
      refine ⟨s', h1.skip hw, h2, by simp only [List.length_cons]; omega, fun u hu hne => h4 u hu fun hm => hne (List.mem_cons_of_mem _ hm)⟩
    | some o =>
      have hPx := hP x (List.mem_cons_self ..)
      have hW : s.T.W.any (ofTx x.tx) = false := by
        rcases hPx with ⟨h, _⟩ | ⟨_, h⟩
        · rw [hw] at h; cases h
        · exact h
      have hI1 : WInv { s with wt := updR s.wt x.tx none, told := s.told ++ [o] } := ⟨hI.inv, fun u p hu => by
        unfold updR at hu
        dsimp only at hu
        split at hu
        · cases hu
        · exact hI.wt u p hu, fun y hy => by
        have hne : y.tx ≠ x.tx := fun e => by
          have := List.any_eq_false.1 hW y hy
          simp [ofTx, e] at this
        show (updR s.wt x.tx none y.tx).isSome = true
        rw [updR_ne hne]; exact hI.tab y hy, hI.bh⟩
      have hPk : ∀ u, u ≠ x.tx → Pend s u → Pend { s with wt := updR s.wt x.tx none, told := s.told ++ [o] } u := fun u hu h => by
        unfold Pend at h ⊢
        dsimp only
        rw [updR_ne hu]; exact h
      obtain ⟨s1, a1, a2, a3, a4⟩ := hD { s with wt := updR s.wt x.tx none, told := s.told ++ [o] } x.tx hI1 (by unfold phi at hp ⊢; exact hp)
      have ht1 := a1.told
      have hm0 : mu { s with wt := updR s.wt x.tx none, told := s.told ++ [o] } = mu s + 1 := by
        unfold mu phi
        simp only [List.length_append, List.length_singleton]; omega
      simp only [List.length_append, List.length_singleton] at ht1
      obtain ⟨s', h1, h2, h3, h4⟩ := ih s1 a2 (by unfold mu at a3 hm0; omega) hn2 fun y hy => a4 _ (hPk _ (fun e => hn1 (List.mem_map.2 ⟨y, hy, e⟩)) (hP y (List.mem_cons_of_mem _ hy)))
      refine ⟨s', EndsJ.cons hw a1 h1, h2, by simp only [List.length_cons]; omega, fun u hu hne => ?_⟩
      simp only [List.map_cons, List.mem_cons, not_or] at hne
      exact h4 u (a4 u (hPk u hne.1 hu)) hne.2
theorem free_ends {way : Int} {n : Nat} (hG : GoE way n) : FreeE way n := by
  intro s tx hI ht hp
  obtain ⟨o1, o2, o3⟩ := freeS_out hI.inv tx
  obtain ⟨p1, p2⟩ := tabN_free s.T tx
  have hI1 : WInv { s with T := freeT s.T tx } := ⟨free_inv hI.inv tx, hI.wt, fun y hy => hI.tab y (o3 y hy).1 (o3 y hy).2, hI.bh⟩
  have hout : ∀ x ∈ (freeS s.T tx).out, (s.wt x.tx).isSome = true := fun x hx => hI.tab x (o2 x hx).1 (o2 x hx).2.1
  have hphi : phi { s with T := freeT s.T tx } + (freeS s.T tx).out.length ≤ phi s := by unfold phi; dsimp only; omega
  obtain ⟨s', h1, h2, h3, h4⟩ := hG (freeS s.T tx).out { s with T := freeT s.T tx } hI1 (by omega) o1 fun x hx => .inr ⟨hout x hx, (o2 x hx).2.2⟩
  have hmu : mu { s with T := freeT s.T tx } + (freeS s.T tx).out.length ≤ mu s := by unfold mu; dsimp only; omega
  refine ⟨s', EndsJ.free ht h1, h2, by omega, fun hin h6 => ?_, fun u hu => h4 u ?_ ?_⟩
  · have := p2 h6 hin
    have : mu { s with T := freeT s.T tx } + (freeS s.T tx).out.length + 1 ≤ mu s := by unfold mu phi; dsimp only; omega
    omega
  · rcases hu with ⟨a, b⟩ | ⟨a, b⟩
    · exact .inl ⟨a, b⟩
    · refine .inr ⟨a, ?_⟩
      rw [List.any_eq_false] at b ⊢
      exact fun y hy => b y (o3 y hy).1
  · intro hm
    obtain ⟨x, hx, rfl⟩ := List.mem_map.1 hm
    rcases hu with ⟨a, _⟩ | ⟨_, b⟩
    · have := hout x hx
      rw [a] at this; cases this
    · have := List.any_eq_false.1 b x (o2 x hx).1
      simp [ofTx] at this
theorem abort_ends {way : Int} {n : Nat} (hF : FreeE way n) {s : RSt} {tx : Int} (hI : WInv s) (h6 : tx ∈ sixI) (hin : inT s.T tx = true) (hp : phi s ≤ n) : ∃ s', EndsJ way (.abort tx) s s' ∧ WInv s' ∧ mu s' ≤ mu s ∧ phi s' + 1 ≤ phi s ∧ ∀ t, Pend s t → Pend s' t := by
  have hX : WInvX (s.aborts tx) tx := ⟨hI.inv, fun u p hu => by
      simp only [RSt.aborts, updR] at hu
      split at hu
      · cases hu
      · exact hI.wt u p hu, fun y hy hne => by
      show (updR s.wt tx none y.tx).isSome = true
      rw [updR_ne hne]; exact hI.tab y hy, fun u p hu => by
      simp only [RSt.aborts, updR] at hu
      split at hu
      · cases hu
      · exact hI.bh u p hu⟩
  have hb := bN_upd (bh := s.bh) h6 []
  have hph : phi (s.aborts tx) ≤ phi s := by unfold phi RSt.aborts; dsimp only; simp only [List.length_nil] at hb; omega
  have hmu : mu (s.aborts tx) ≤ mu s + 1 := by
    unfold mu
    have : (s.aborts tx).told.length = s.told.length + 1 := by simp [RSt.aborts]
    omega
  have htx : txB tx = true := by have := mem_six.1 h6; unfold txB; simp; omega
  obtain ⟨s', h1, h2, _, h4, h5⟩ := hF (s.aborts tx) tx hX htx (by omega)
  have h7 := h4 hin h6
  have ht := h1.told
  have ht2 : (s.aborts tx).told.length = s.told.length + 1 := by simp [RSt.aborts]
  refine ⟨s', h1.abort, h2, by omega, by unfold mu at *; omega, fun t hP => h5 t ?_⟩
  by_cases e : t = tx
  · subst e
    exact .inl ⟨by simp [RSt.aborts, updR], by simp [RSt.aborts, updR]⟩
  · unfold Pend at hP ⊢
    simp only [RSt.aborts]
    rw [updR_ne e, updR_ne e]; exact hP
theorem avoid_ends {way : Int} {n : Nat} (hF : FreeE way n) (ih : ∀ m, m < n → AvoidE way m) : AvoidE way n := by
  intro s tx hI hp
  cases hn : nextA way s.T tx with
  | none => exact ⟨s, EndsJ.avoid0 hn, hI, Nat.le_refl _, fun _ h => h⟩
  | some d =>
    obtain ⟨i1, i2⟩ := nextA_in hI.inv hn
    obtain ⟨s1, a1, a2, a3, a4, a5⟩ := abort_ends hF hI i2 i1 hp
    by_cases ha : againA way = true
    · obtain ⟨s', b1, b2, b3, b4⟩ := ih (n - 1) (by omega) s1 tx a2 (by omega)
      exact ⟨s', EndsJ.avoid1 hn a1 (by rw [if_pos ha]; exact b1), b2, by omega, fun t h => b4 t (a5 t h)⟩
    · exact ⟨s1, EndsJ.avoid1 hn a1 (by rw [if_neg ha]), a2, a3, a5⟩
theorem do_ends {way : Int} {n : Nat} (hF : FreeE way n) (hA : AvoidE way (n + 2)) {s : RSt} {o : HOp} (hI : WInv s) (hr : rightB o = true) (hw : s.wt o.tx = none) (hp : phi s ≤ n) : ∃ s', EndsJ way (.doo o) s s' ∧ WInv s' ∧ mu s' ≤ mu s + 2 ∧ ∀ t, t ≠ o.tx → Pend s t → Pend s' t := by
  cases he : endB o with
  | true =>
    have hI1 : WInvX (s.tells o) o.tx := (show WInv (s.tells o) from ⟨hI.inv, hI.wt, hI.tab, hI.bh⟩).x _
    obtain ⟨s', h1, h2, h3, _, h5⟩ := hF (s.tells o) o.tx hI1 (right_txB hr) (by unfold phi RSt.tells at *; exact hp)
    have hm : mu (s.tells o) = mu s + 1 := by unfold mu phi RSt.tells; simp only [List.length_append, List.length_singleton]; omega
    exact ⟨s', h1.doEnd he, h2, by omega, fun t _ h => h5 t h⟩
  | false =>
    have hW : s.T.W.any (ofTx (lockOf o).tx) = false := by
      rw [List.any_eq_false]
      intro y hy e
      have h1 := hI.tab y hy
      have h2 : y.tx = o.tx := of_decide_eq_true e
      rw [h2, hw] at h1; cases h1
    have hlr := lock_right hr he
    have hz : (askF s.T (lockOf o)).2.1 = 0 := by
      unfold askF
      rw [if_neg (by rw [hlr]; simp), if_neg (by rw [hW]; simp)]
      split
      · rfl
      · split <;> rfl
    have hinv := ask_inv hI.inv (lockOf o)
    obtain ⟨t1, t2⟩ := tabN_ask s.T (lockOf o)
    have hWsub : ∀ y ∈ (askF s.T (lockOf o)).2.2.W, y ∈ s.T.W ∨ ((askF s.T (lockOf o)).1 = false ∧ y.tx = o.tx) := by
      unfold askF
      rw [if_neg (by rw [hlr]; simp), if_neg (by rw [hW]; simp)]
      split
      · exact fun y hy => .inl hy
      · split
        · exact fun y hy => .inl hy
        · intro y hy
          rcases List.mem_append.1 hy with hy | hy
          · exact .inl hy
          · exact .inr ⟨rfl, by rw [List.mem_singleton.1 hy]; rfl⟩
    obtain ⟨is, er, T', hq⟩ : ∃ a b c, askF s.T (lockOf o) = (a, b, c) := ⟨_, _, _, rfl⟩
    rw [hq] at hz hinv t1 t2 hWsub
    simp only at hz hinv t1 t2 hWsub
    subst hz
    cases is with
    | true =>
      refine ⟨_, EndsJ.doHas he hq, ⟨hinv, hI.wt, fun y hy => ?_, hI.bh⟩, ?_, fun t hne h => ?_⟩
      · rcases hWsub y hy with h | ⟨h, _⟩
        · exact hI.tab y h
        · cases h
      · have := t2 rfl
        unfold mu phi RSt.tells; simp only [List.length_append, List.length_singleton]; omega
      · rcases h with h | ⟨h, h2⟩
        · exact .inl h
        · refine .inr ⟨h, ?_⟩
          rw [List.any_eq_false] at h2 ⊢
          intro y hy
          rcases hWsub y hy with h3 | ⟨h3, _⟩
          · exact h2 y h3
          · cases h3
    | false =>
      have hI1 : WInv { s with T := T', wt := updR s.wt o.tx (some o) } := ⟨hinv, fun u p hu => by
          unfold updR at hu
          dsimp only at hu
          split at hu
          · rename_i e
            injection hu with hu
            subst hu
            exact ⟨e.symm, hr, he⟩
          · exact hI.wt u p hu, fun y hy => by
          show (updR s.wt o.tx (some o) y.tx).isSome = true
          by_cases e : y.tx = o.tx
          · rw [e, updR_same]; rfl
          · rw [updR_ne e]
            rcases hWsub y hy with h | ⟨_, h⟩
            · exact hI.tab y h
            · exact absurd h e, hI.bh⟩
      have hph : phi { s with T := T', wt := updR s.wt o.tx (some o) } ≤ phi s + 2 := by unfold phi; dsimp only; omega
      obtain ⟨s', h1, h2, h3, h4⟩ := hA { s with T := T', wt := updR s.wt o.tx (some o) } o.tx hI1 (by omega)
      have hm : mu { s with T := T', wt := updR s.wt o.tx (some o) } ≤ mu s + 2 := by unfold mu; dsimp only; omega
      refine ⟨s', EndsJ.doWaits he hq h1, h2, by omega, fun t hne h => h4 t ?_⟩
      unfold Pend at h ⊢
      dsimp only
      rw [updR_ne hne]
      rcases h with h | ⟨h, h5⟩
      · exact .inl h
      · refine .inr ⟨h, ?_⟩
        rw [List.any_eq_false] at h5 ⊢
        intro y hy
        rcases hWsub y hy with h3 | ⟨_, h3⟩
        · exact h5 y h3
        · simp [ofTx, h3]; exact fun e => hne e.symm
theorem drain_ends {way : Int} {n : Nat} (hF : ∀ m, m < n → FreeE way m) (hA : ∀ m, m < n → AvoidE way m) (ih : ∀ m, m < n → DrainE way m) : DrainE way n := by
  intro s tx hI hp
  cases hb : s.bh tx with
  | nil => exact ⟨s, EndsJ.drain0 (.inl hb), hI, Nat.le_refl _, fun _ h => h⟩
  | cons o t =>
    cases hw : s.wt tx with
    | some p => exact ⟨s, EndsJ.drain0 (.inr (by rw [hw]; rfl)), hI, Nat.le_refl _, fun _ h => h⟩
    | none =>
      obtain ⟨e1, e2⟩ := hI.bh tx o (by rw [hb]; exact List.mem_cons_self ..)
      have h6 : tx ∈ sixI := by rw [← e1]; exact right_six e2
      have hbn := bN_upd (bh := s.bh) h6 t
      rw [hb, List.length_cons] at hbn
      have hI1 : WInv { s with bh := updR s.bh tx t } := ⟨hI.inv, hI.wt, hI.tab, fun u p hu => by
        unfold updR at hu
        dsimp only at hu
        split at hu
        · rename_i e; rw [e]; exact hI.bh tx p (by rw [hb]; exact List.mem_cons_of_mem _ hu)
        · exact hI.bh u p hu⟩
      have hph : phi { s with bh := updR s.bh tx t } + 4 = phi s := by unfold phi; dsimp only; omega
      obtain ⟨s1, a1, a2, a3, a4⟩ := do_ends (n := n - 4) (hF _ (by omega)) (hA _ (by omega)) hI1 e2 (by rw [e1]; exact hw) (by omega)
      have ht1 := a1.told
      dsimp only at ht1
      have hmu : mu { s with bh := updR s.bh tx t } + 4 = mu s := by unfold mu; dsimp only; omega
      obtain ⟨s', b1, b2, b3, b4⟩ := ih (n - 2) (by omega) s1 tx a2 (by unfold mu at a3 hmu; dsimp only at a3 hmu; omega)
      refine ⟨s', EndsJ.drain1 hb hw a1 b1, b2, by omega, fun u hu => b4 u ?_⟩
      by_cases e : u = tx
      · subst e
        rcases hu with ⟨_, h⟩ | ⟨h, _⟩
        · rw [hb] at h; cases h
        · rw [hw] at h; cases h
      · refine a4 u (by rw [e1]; exact e) ?_
        unfold Pend at hu ⊢
        dsimp only
        rw [updR_ne e]; exact hu
theorem all_ends (way : Int) : ∀ n, DrainE way n ∧ FreeE way n ∧ AvoidE way n := by
  intro n
  induction n using Nat.strongRecOn with
  | ind n ih =>
    have hD := drain_ends (fun m hm => (ih m hm).2.1) (fun m hm => (ih m hm).2.2) (fun m hm => (ih m hm).1)
    have hF := free_ends (go_ends hD)
    exact ⟨hD, hF, avoid_ends hF fun m hm => (ih m hm).2.2⟩
/-- Whatever right ops deals ask for, a runner comes to an end. -/
theorem run_ends (way : Int) : ∀ (l : List HOp) (s : RSt), WInv s → (∀ o ∈ l, rightB o = true) → ∃ N s', (∀ k, N ≤ k → runL way k l s = some s') ∧ WInv s' ∧ mu s' ≤ mu s + 4 * l.length
  | [], s, hI, _ => ⟨0, s, fun k _ => rfl, hI, by simp⟩
  | o :: t, s, hI, hr => by
    have hro := hr o (List.mem_cons_self ..)
    have hrt : ∀ x ∈ t, rightB x = true := fun x hx => hr x (List.mem_cons_of_mem _ hx)
    by_cases ha : s.ab o.tx = true
    · obtain ⟨N, s', h1, h2, h3⟩ := run_ends way t s hI hrt
      exact ⟨N, s', fun k hk => by unfold runL; rw [if_pos ha]; exact h1 k hk, h2, by simp only [List.length_cons]; omega⟩
    · by_cases hw : (s.wt o.tx).isSome = true
      · have hI1 : WInv { s with bh := updR s.bh o.tx (s.bh o.tx ++ [o]) } := ⟨hI.inv, hI.wt, hI.tab, fun u p hu => by
          unfold updR at hu
          dsimp only at hu
          split at hu
          · rename_i e
            rw [e]
            rcases List.mem_append.1 hu with hu | hu
            · exact hI.bh _ p hu
            · rw [List.mem_singleton.1 hu]; exact ⟨rfl, hro⟩
          · exact hI.bh u p hu⟩
        have hbn := bN_upd (bh := s.bh) (right_six hro) (s.bh o.tx ++ [o])
        rw [List.length_append, List.length_singleton] at hbn
        obtain ⟨N, s', h1, h2, h3⟩ := run_ends way t { s with bh := updR s.bh o.tx (s.bh o.tx ++ [o]) } hI1 hrt
        refine ⟨N, s', fun k hk => by unfold runL; rw [if_neg ha, if_pos hw]; exact h1 k hk, h2, ?_⟩
        have : mu { s with bh := updR s.bh o.tx (s.bh o.tx ++ [o]) } ≤ mu s + 4 := by unfold mu phi; dsimp only; omega
        simp only [List.length_cons]; omega
      · have hw0 : s.wt o.tx = none := by cases h : s.wt o.tx with
          | none => rfl
          | some p => rw [h] at hw; exact absurd rfl hw
        obtain ⟨s1, ⟨M, a1⟩, a2, a3, _⟩ := do_ends (n := phi s) (all_ends way _).2.1 (all_ends way _).2.2 hI hro hw0 (Nat.le_refl _)
        obtain ⟨N, s', h1, h2, h3⟩ := run_ends way t s1 a2 hrt
        refine ⟨N + M, s', fun k hk => ?_, h2, by simp only [List.length_cons]; omega⟩
        unfold runL
        rw [if_neg ha, if_neg hw, a1 k (by omega)]
        exact h1 k (by omega)
theorem winv0 : WInv rst0 := ⟨linv0, fun _ _ h => by simp [rst0] at h, fun _ h => by simp [rst0] at h, fun _ _ h => by simp [rst0] at h⟩
/-- Each history that is right is run to its end; not much is told. -/
theorem strict_ends (way : Int) {h : List HOp} (hk : okH h) : ∃ N s', (∀ k, N ≤ k → runL way k h rst0 = some s') ∧ s'.told.length ≤ 160 ∧ LInv s'.T := by
  obtain ⟨N, s', h1, h2, h3⟩ := run_ends way h rst0 winv0 (fun o ho => okH_right hk o ho)
  have := okH_len hk
  have h0 : mu rst0 = 0 := by decide
  exact ⟨N, s', h1, by unfold mu at h3 h0; omega, h2.inv⟩
end Go.Proofs.YtmehghkpghbpjaaGreat

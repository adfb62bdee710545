
/-
  PLAIN LAW: the search for a ring among those that wait finds one just if the table of ways (laneref1.Ways) has one.
  THE HEAP OF THE REFERENCE'S RUNNER (laneref2.Runner): one block that holds all its parts, and its rows (printed by wip/mksrun.py).
-/
import Derived.Test.YtbccnafdfeempaaGreatDoorQ14
import Derived.Test.YtbccnafdfeempaaGreatDoorQ32
import Derived.Test.YtbccnafdfeempaaGreatDoorQ21
import Derived.Test.YtbccnafdfeempaaGreatDoorQ30

namespace Go.Proofs.YtbccnafdfeempaaGreatDoor
open Go.RowKit

/-- For whom each deal waits, as edges. -/
def whomE (T : LTab) : List (Int × Int) := sixI.flatMap fun d => (whomF T d).map fun x => (d, x)
theorem mem_whomE {T : LTab} {a b : Int} : (a, b) ∈ whomE T ↔ a ∈ sixI ∧ b ∈ whomF T a := by
  unfold whomE
  rw [List.mem_flatMap]
  constructor
  · rintro ⟨d, hd, h⟩
    obtain ⟨x, hx, e⟩ := List.mem_map.1 h
    injection e with e1 e2
    subst e1 e2
    exact ⟨hd, hx⟩
  · rintro ⟨h1, h2⟩
    exact ⟨a, h1, List.mem_map.2 ⟨b, h2, rfl⟩⟩
theorem whomE_ok {T : LTab} (I : LInv T) : okE (whomE T) := by
  rintro ⟨a, b⟩ h
  obtain ⟨h1, h2⟩ := mem_whomE.1 h
  have a1 := mem_six.1 h1
  have b1 := whomF_rng I h2
  constructor
  · show txB a = true; unfold txB; simp; omega
  · show txB b = true; unfold txB; simp; omega
/-- What one round of the search makes: all for whom x waits are seen, none is tx. -/
theorem rngIn_some {tx : Int} : ∀ (l sn row : List Int) (q : List Int × List Int), rngIn tx sn row l = some q →
    ∃ new, q = (sn ++ new, row ++ new) ∧ (∀ d ∈ new, d ∈ l) ∧ (∀ d ∈ l, d ≠ tx ∧ d ∈ sn ++ new) ∧ (sn.Nodup → (sn ++ new).Nodup)
  | [], sn, row, q, h => by
    unfold rngIn at h; injection h with h; subst h
    exact ⟨[], by simp, fun _ h => (by cases h), fun _ h => (by cases h), fun h => by simpa using h⟩
  | d :: t, sn, row, q, h => by
    unfold rngIn at h
    by_cases h1 : d = tx
    · rw [if_pos h1] at h; cases h
    · rw [if_neg h1] at h
      by_cases h2 : d ∈ sn
      · rw [if_pos h2] at h
        obtain ⟨new, e, n1, n2, n3⟩ := rngIn_some t sn row q h
        refine ⟨new, e, fun x hx => List.mem_cons_of_mem _ (n1 x hx), fun x hx => ?_, n3⟩
        rcases List.mem_cons.1 hx with rfl | hx
        · exact ⟨h1, List.mem_append_left _ h2⟩
        · exact n2 x hx
      · rw [if_neg h2] at h
        obtain ⟨new, e, n1, n2, n3⟩ := rngIn_some t (sn ++ [d]) (row ++ [d]) q h
        refine ⟨d :: new, by rw [e]; simp, fun x hx => ?_, fun x hx => ?_, fun hn => ?_⟩
        · rcases List.mem_cons.1 hx with rfl | hx
          · exact List.mem_cons_self
          · exact List.mem_cons_of_mem _ (n1 x hx)
        · rcases List.mem_cons.1 hx with rfl | hx
          · exact ⟨h1, by simp⟩
          · have := n2 x hx
            simpa using this
        · have : (sn ++ [d]).Nodup := by
            refine List.nodup_append.2 ⟨hn, by simp, fun a ha b hb e => ?_⟩
            rw [List.mem_singleton] at hb
            exact h2 (by rw [← hb, ← e]; exact ha)
          simpa using n3 this
theorem rngIn_none {tx : Int} : ∀ (l sn row : List Int), rngIn tx sn row l = none → tx ∈ l
  | [], sn, row, h => by unfold rngIn at h; cases h
  | d :: t, sn, row, h => by
    unfold rngIn at h
    by_cases h1 : d = tx
    · rw [h1]; exact List.mem_cons_self
    · rw [if_neg h1] at h
      split at h <;> exact List.mem_cons_of_mem _ (rngIn_none t _ _ h)
/-- To wait for, over any number of deals. -/
abbrev WayT (T : LTab) : Int → Int → Prop := Relation.TransGen fun a b => b ∈ whomF T a
theorem rng_spec {T : LTab} (I : LInv T) (tx : Int) : ∀ (n : Nat) (done sn row : List Int), sn.Nodup → (∀ x ∈ sn, 1 ≤ x ∧ x ≤ 6) → row.length + (6 - sn.length) + 1 ≤ n →
    (∀ x, x ∈ done ∨ x ∈ row ↔ x = tx ∨ x ∈ sn) → (∀ x ∈ done, ∀ d ∈ whomF T x, d ≠ tx ∧ d ∈ sn) → (∀ x ∈ sn, WayT T tx x) → (rngGo T tx n sn row = true ↔ WayT T tx tx)
  | 0, done, sn, row, _, _, hf, _, _, _ => by omega
  | n + 1, done, sn, [], hn, hr, hf, hm, hc, hw => by
    unfold rngGo
    refine ⟨fun h => (by cases h), fun h => ?_⟩
    exfalso
    have key : ∀ b, WayT T tx b → b ≠ tx ∧ b ∈ sn := by
      intro b hb
      induction hb with
      | single h1 => exact hc tx (((hm tx).2 (.inl rfl)).resolve_right (by simp)) _ h1
      | tail _ h1 ih => exact hc _ (((hm _).2 (.inr ih.2)).resolve_right (by simp)) _ h1
    exact (key tx h).1 rfl
  | n + 1, done, sn, x :: r, hn, hr, hf, hm, hc, hw => by
    have hwx : x = tx ∨ WayT T tx x := by
      rcases (hm x).1 (.inr List.mem_cons_self) with h | h
      · exact .inl h
      · exact .inr (hw x h)
    have hto : ∀ d ∈ whomF T x, WayT T tx d := fun d hd => by
      rcases hwx with rfl | h
      · exact .single hd
      · exact .tail h hd
    unfold rngGo
    cases e : rngIn tx sn (x :: r) (whomF T x) with
    | none => exact ⟨fun _ => hto _ (rngIn_none _ _ _ e), fun _ => rfl⟩
    | some q =>
      obtain ⟨new, rfl, n1, n2, n3⟩ := rngIn_some _ _ _ _ e
      have hn2 := n3 hn
      have hr2 : ∀ y ∈ sn ++ new, 1 ≤ y ∧ y ≤ 6 := fun y hy => by
        rcases List.mem_append.1 hy with h | h
        · exact hr y h
        · exact whomF_rng I (n1 y h)
      have hl := len_nodup_six hn2 hr2
      have := rng_spec I tx n (x :: done) (sn ++ new) (r ++ new) hn2 hr2 (by
        simp only [List.length_append, List.length_cons] at hf hl ⊢
        omega) (fun y => by
          have hmy := hm y
          simp only [List.mem_cons, List.mem_append] at hmy ⊢
          constructor
          · rintro ((h | h) | (h | h))
            · rcases hmy.1 (.inr (.inl h)) with h | h
              · exact .inl h
              · exact .inr (.inl h)
            · rcases hmy.1 (.inl h) with h | h
              · exact .inl h
              · exact .inr (.inl h)
            · rcases hmy.1 (.inr (.inr h)) with h | h
              · exact .inl h
              · exact .inr (.inl h)
            · exact .inr (.inr h)
          · rintro (h | h | h)
            · rcases hmy.2 (.inl h) with h | h | h
              · exact .inl (.inr h)
              · exact .inl (.inl h)
              · exact .inr (.inl h)
            · rcases hmy.2 (.inr h) with h | h | h
              · exact .inl (.inr h)
              · exact .inl (.inl h)
              · exact .inr (.inl h)
            · exact .inr (.inr h)) (fun y hy d hd => by
          rcases List.mem_cons.1 hy with rfl | hy
          · exact n2 d hd
          · exact ⟨(hc y hy d hd).1, List.mem_append_left _ (hc y hy d hd).2⟩) (fun y hy => by
          rcases List.mem_append.1 hy with h | h
          · exact hw y h
          · exact hto y (n1 y h))
      simpa using this
theorem rng_way {T : LTab} (I : LInv T) (tx : Int) : rngF T tx = true ↔ WayT T tx tx := by
  unfold rngF
  exact rng_spec I tx 8 [] [] [tx] List.nodup_nil (fun _ h => by cases h) (by simp) (fun x => by simp) (fun _ h => by cases h) (fun _ h => by cases h)
theorem way_nat {T : LTab} (I : LInv T) {a b : Nat} : WayR (whomE T) a b ↔ WayT T (a : Int) (b : Int) := by
  constructor
  · intro h
    induction h with
    | single h1 => exact .single (mem_whomE.1 h1).2
    | tail _ h1 ih => exact .tail ih (mem_whomE.1 h1).2
  · intro h
    have key : ∀ y : Int, WayT T (a : Int) y → 1 ≤ (a : Int) ∧ (a : Int) ≤ 6 → WayR (whomE T) a y.toNat := by
      intro y hy ha
      induction hy with
      | single h1 =>
        have := whomF_rng I h1
        refine .single (mem_whomE.2 ⟨mem_six.2 ha, ?_⟩)
        rw [Int.toNat_of_nonneg (by omega)]; exact h1
      | @tail y z _ h1 ih =>
        have h3 := whomF_rng I h1
        have h2 : y ∈ sixI := by
          have h4 : whomF T y ≠ [] := fun e => by rw [e] at h1; cases h1
          unfold whomF at h4
          split at h4
          · exact absurd rfl h4
          · rename_i l hl
            obtain ⟨g1, g2⟩ := find_ofTx hl
            obtain ⟨a1, a2, _⟩ := lright_get (I.rightW l g1)
            rw [g2] at a1 a2
            exact mem_six.2 ⟨a1, a2⟩
        have h5 := mem_six.1 h2
        refine .tail ih (mem_whomE.2 ⟨?_, ?_⟩)
        · rw [Int.toNat_of_nonneg (by omega)]; exact h2
        · rw [Int.toNat_of_nonneg (by omega), Int.toNat_of_nonneg (by omega)]; exact h1
    have ha : 1 ≤ (a : Int) ∧ (a : Int) ≤ 6 := by
      have : ∃ c, c ∈ whomF T (a : Int) := by
        clear key
        generalize (b : Int) = b at h
        induction h with
        | single h1 => exact ⟨_, h1⟩
        | tail _ _ ih => exact ih
      obtain ⟨c, hc⟩ := this
      unfold whomF at hc
      split at hc
      · cases hc
      · rename_i l hl
        obtain ⟨g1, g2⟩ := find_ofTx hl
        obtain ⟨a1, a2, _⟩ := lright_get (I.rightW l g1)
        rw [g2] at a1 a2
        exact ⟨a1, a2⟩
    simpa using key (b : Int) h ha
/-- The reference's search for a ring finds what the program's does. -/
theorem ring_ways {T : LTab} (I : LInv T) {t : Nat} (h1 : 1 ≤ t) (h6 : t ≤ 6) : (waysF (whomE T))[t * 7 + t]? = some (rngF T t) := by
  rw [ways_reach (whomE_ok I) h1 h6 h1 h6]
  congr 1
  rw [Bool.eq_iff_iff, reachF_way (whomE_ok I), way_nat I, rng_way I]
end Go.Proofs.YtbccnafdfeempaaGreatDoor


namespace Go.Proofs.YtbccnafdfeempaaGreatDoor
open Go.RowKit

/-! ### The cells of its block. -/
def qpost (wb : Int → Bool) (op : Int → HOp) (vB : Int → Value) (ab : Int → Bool) (vT vV : Value) : List Value :=
  [.bool (wb 0), .bool (wb 1), .bool (wb 2), .bool (wb 3), .bool (wb 4), .bool (wb 5), .bool (wb 6), .int .i64 (op 0).tx, .int .i64 (op 0).what, .int .i64 (op 0).item, .int .i64 (op 1).tx, .int .i64 (op 1).what, .int .i64 (op 1).item, .int .i64 (op 2).tx, .int .i64 (op 2).what, .int .i64 (op 2).item, .int .i64 (op 3).tx, .int .i64 (op 3).what, .int .i64 (op 3).item, .int .i64 (op 4).tx, .int .i64 (op 4).what, .int .i64 (op 4).item, .int .i64 (op 5).tx, .int .i64 (op 5).what, .int .i64 (op 5).item, .int .i64 (op 6).tx, .int .i64 (op 6).what, .int .i64 (op 6).item, vB 0, vB 1, vB 2, vB 3, vB 4, vB 5, vB 6, .bool (ab 0), .bool (ab 1), .bool (ab 2), .bool (ab 3), .bool (ab 4), .bool (ab 5), .bool (ab 6), vT, vV]
def qcells (way : Int) (vH vW : Value) (wb : Int → Bool) (op : Int → HOp) (vB : Int → Value) (ab : Int → Bool) (vT vV : Value) : List Value := .int .i64 way :: vH :: vW :: qpost wb op vB ab vT vV
section
variable {way : Int} {vH vW : Value} {wb : Int → Bool} {op : Int → HOp} {vB : Int → Value} {ab : Int → Bool} {vT vV : Value}
theorem q_w {d : Nat} (hd : d ≤ 6) : (qcells way vH vW wb op vB ab vT vV)[3 + d]? = some (.bool (wb d)) := by
  match d, hd with
  | 0, _ => rfl
  | 1, _ => rfl
  | 2, _ => rfl
  | 3, _ => rfl
  | 4, _ => rfl
  | 5, _ => rfl
  | 6, _ => rfl
  | _ + 7, h => omega
theorem q_op {d : Nat} (hd : d ≤ 6) : (qcells way vH vW wb op vB ab vT vV)[10 + d * 3]? = some (.int .i64 (op d).tx) ∧ (qcells way vH vW wb op vB ab vT vV)[10 + d * 3 + 1]? = some (.int .i64 (op d).what) ∧ (qcells way vH vW wb op vB ab vT vV)[10 + d * 3 + 2]? = some (.int .i64 (op d).item) := by
  match d, hd with
  | 0, _ => exact ⟨rfl, rfl, rfl⟩
  | 1, _ => exact ⟨rfl, rfl, rfl⟩
  | 2, _ => exact ⟨rfl, rfl, rfl⟩
  | 3, _ => exact ⟨rfl, rfl, rfl⟩
  | 4, _ => exact ⟨rfl, rfl, rfl⟩
  | 5, _ => exact ⟨rfl, rfl, rfl⟩
  | 6, _ => exact ⟨rfl, rfl, rfl⟩
  | _ + 7, h => omega
theorem q_b {d : Nat} (hd : d ≤ 6) : (qcells way vH vW wb op vB ab vT vV)[31 + d]? = some (vB d) := by
  match d, hd with
  | 0, _ => rfl
  | 1, _ => rfl
  | 2, _ => rfl
  | 3, _ => rfl
  | 4, _ => rfl
  | 5, _ => rfl
  | 6, _ => rfl
  | _ + 7, h => omega
theorem q_a {d : Nat} (hd : d ≤ 6) : (qcells way vH vW wb op vB ab vT vV)[38 + d]? = some (.bool (ab d)) := by
  match d, hd with
  | 0, _ => rfl
  | 1, _ => rfl
  | 2, _ => rfl
  | 3, _ => rfl
  | 4, _ => rfl
  | 5, _ => rfl
  | 6, _ => rfl
  | _ + 7, h => omega
theorem q_setW {d : Nat} (hd : d ≤ 6) (b : Bool) : (qcells way vH vW wb op vB ab vT vV).set (3 + d) (.bool b) = qcells way vH vW (updR wb d b) op vB ab vT vV := by
  match d, hd with
  | 0, _ => simp [qcells, qpost, updR]
  | 1, _ => simp [qcells, qpost, updR]
  | 2, _ => simp [qcells, qpost, updR]
  | 3, _ => simp [qcells, qpost, updR]
  | 4, _ => simp [qcells, qpost, updR]
  | 5, _ => simp [qcells, qpost, updR]
  | 6, _ => simp [qcells, qpost, updR]
  | _ + 7, h => omega
theorem q_setO {d : Nat} (hd : d ≤ 6) (o : HOp) : (((qcells way vH vW wb op vB ab vT vV).set (10 + d * 3) (.int .i64 o.tx)).set (10 + d * 3 + 1) (.int .i64 o.what)).set (10 + d * 3 + 2) (.int .i64 o.item) = qcells way vH vW wb (updR op d o) vB ab vT vV := by
  match d, hd with
  | 0, _ => simp [qcells, qpost, updR]
  | 1, _ => simp [qcells, qpost, updR]
  | 2, _ => simp [qcells, qpost, updR]
  | 3, _ => simp [qcells, qpost, updR]
  | 4, _ => simp [qcells, qpost, updR]
  | 5, _ => simp [qcells, qpost, updR]
  | 6, _ => simp [qcells, qpost, updR]
  | _ + 7, h => omega
theorem q_setB {d : Nat} (hd : d ≤ 6) (v : Value) : (qcells way vH vW wb op vB ab vT vV).set (31 + d) v = qcells way vH vW wb op (updR vB d v) ab vT vV := by
  match d, hd with
  | 0, _ => simp [qcells, qpost, updR]
  | 1, _ => simp [qcells, qpost, updR]
  | 2, _ => simp [qcells, qpost, updR]
  | 3, _ => simp [qcells, qpost, updR]
  | 4, _ => simp [qcells, qpost, updR]
  | 5, _ => simp [qcells, qpost, updR]
  | 6, _ => simp [qcells, qpost, updR]
  | _ + 7, h => omega
theorem q_setA {d : Nat} (hd : d ≤ 6) (b : Bool) : (qcells way vH vW wb op vB ab vT vV).set (38 + d) (.bool b) = qcells way vH vW wb op vB (updR ab d b) vT vV := by
  match d, hd with
  | 0, _ => simp [qcells, qpost, updR]
  | 1, _ => simp [qcells, qpost, updR]
  | 2, _ => simp [qcells, qpost, updR]
  | 3, _ => simp [qcells, qpost, updR]
  | 4, _ => simp [qcells, qpost, updR]
  | 5, _ => simp [qcells, qpost, updR]
  | 6, _ => simp [qcells, qpost, updR]
  | _ + 7, h => omega
end

/-- Where the reference's runner's things lie. -/
structure QLay where
  g : Nat
  vH : Value
  vW : Value
  vT : Value
  vV : Value
  vB : Int → Value
  op : Int → HOp
def wbS (s : RSt) : Int → Bool := fun d => (s.wt d).isSome
theorem wbS_upd (s : RSt) (x : Int) (v : Option HOp) : wbS { s with wt := updR s.wt x v } = updR (wbS s) x v.isSome := by
  funext k
  unfold wbS updR
  dsimp only
  split <;> rfl
section
variable {way : Int} {lo : Nat} {w w' : World} {s : RSt} {L : QLay} {tag tag' : Nat → Int × Nat} {S : Int × Nat → Prop}
def QRows (lo : Nat) (w : World) (bh : Int → List HOp) (vB : Int → Value) (tag : Nat → Int × Nat) : Prop := ∀ k, (QRow w lo 43 (vB k) (bh k) ∧ ∀ j, (vB k).ownBlock = some j → tag j = (k, 9)) ∧ ∀ o ∈ bh k, rightB o = true
theorem QRows.but {bh : Int → List HOp} {vB : Int → Value} (h : QRows lo w bh vB tag) (hb : But w.heap.size tag S w w') (hs9 : ∀ k, ¬ S (k, 9)) (ht : ∀ k, k < w.heap.size → tag' k = tag k) : QRows lo w' bh vB tag' := fun k =>
  ⟨⟨(h k).1.1.kept fun g hg => hb.block g ((h k).1.1.lt hg).2 (by rw [(h k).1.2 g hg]; exact hs9 k), fun j hj => by
    rw [ht j ((h k).1.1.lt hj).2]
    exact (h k).1.2 j hj⟩, (h k).2⟩
structure QTab (lo : Nat) (w : World) (T : LTab) (vH vW : Value) (tag : Nat → Int × Nat) : Prop where
  held : HRow lo w 67 3 vH T.H.length (cellsH T.H) 2 tag
  waits : HRow lo w 67 3 vW T.W.length (cellsH T.W) 2 tag
  ne : ∀ k, vH.ownBlock = some k → vW.ownBlock ≠ some k
  inv : LInv T
theorem QTab.but {T : LTab} {vH vW : Value} (h : QTab lo w T vH vW tag) (hb : But w.heap.size tag S w w') (hs : ¬ S (0, 2)) (ht : ∀ k, k < w.heap.size → tag' k = tag k) : QTab lo w' T vH vW tag' := ⟨h.held.but hb hs ht, h.waits.but hb hs ht, h.ne, h.inv⟩
structure QHeap (way : Int) (lo : Nat) (w : World) (s : RSt) (L : QLay) (tag : Nat → Int × Nat) : Prop where
  run : Blk w L.g 47 (qcells way L.vH L.vW (wbS s) L.op L.vB s.ab L.vT L.vV)
  mark : tag L.g = (0, 0)
  loG : lo ≤ L.g
  tab : QTab lo w s.T L.vH L.vW tag
  ops : ∀ d o, s.wt d = some o → L.op d = o
  bh : QRows lo w s.bh L.vB tag
  told : HRow lo w 43 3 L.vT s.told.length (cellsH s.told) 6 tag
  vic : HRow lo w 3 1 L.vV s.vic.length (cellsI s.vic) 7 tag
theorem QHeap.loLe (H : QHeap way lo w s L tag) : lo ≤ w.heap.size := Nat.le_trans H.loG (Nat.le_of_lt H.run.lt)
/-- Nothing changed. -/
theorem QHeap.below (H : QHeap way lo w s L tag) (hb : Below w.heap.size w w') : QHeap way lo w' s L tag := by
  have hb' : But w.heap.size tag (fun _ => False) w w' := But.below hb (Nat.le_refl _)
  exact ⟨H.run.below hb H.run.lt, H.mark, H.loG, H.tab.but hb' id fun _ _ => rfl, H.ops, H.bh.but hb' (fun _ => id) fun _ _ => rfl, H.told.but hb' id fun _ _ => rfl, H.vic.but hb' id fun _ _ => rfl⟩
/-- The table within the block. -/
theorem QHeap.tabR (H : QHeap way lo w s L tag) : TabRn (.int .i64 way) (qpost (wbS s) L.op L.vB s.ab L.vT L.vV) w lo L.g L.vH L.vW s.T.H s.T.W :=
  ⟨H.run, H.tab.held.1, H.tab.waits.1, H.tab.ne, H.loG⟩
/-- One cell of the runner's own was set. -/
theorem QHeap.cell (H : QHeap way lo w s L tag) (i : Nat) (v : Value) : But w.heap.size tag (fun m => m = (0, 0)) w (w.setCell ⟨L.g, i, none⟩ v) := But.set (fun _ => H.mark) v
theorem qt0 : ∀ k, k < w.heap.size → tag k = tag k := fun _ _ => rfl
/-- A deal waits no more. -/
theorem QHeap.unwait (H : QHeap way lo w s L tag) {d : Nat} (hd : d ≤ 6) :
    QHeap way lo (w.setCell ⟨L.g, 3 + d, none⟩ (.bool false)) { s with wt := updR s.wt d none } L tag ∧ StepS w (w.setCell ⟨L.g, 3 + d, none⟩ (.bool false)) tag tag := by
  have hb := H.cell (3 + d) (.bool false)
  refine ⟨⟨?_, H.mark, H.loG, H.tab.but hb (by decide) qt0, fun k o hk => ?_, H.bh.but hb (fun k h => by injection h with _ h; omega) qt0, H.told.but hb (by decide) qt0, H.vic.but hb (by decide) qt0⟩, hb.mono (fun m h => by rw [h]; decide), qt0⟩
  · have h := H.run.put (3 + d) (.bool false)
    rw [q_setW hd] at h
    rw [wbS_upd]; exact h
  · dsimp only at hk
    unfold updR at hk
    split at hk
    · cases hk
    · exact H.ops k o hk
/-- A deal waits with an op. -/
theorem QHeap.wait (H : QHeap way lo w s L tag) {d : Nat} (hd : d ≤ 6) (o : HOp) {w' : World} (hw : w' = ((((w.setCell ⟨L.g, 3 + d, none⟩ (.bool true)).setCell ⟨L.g, 10 + d * 3, none⟩ (.int .i64 o.tx)).setCell ⟨L.g, 10 + d * 3 + 1, none⟩ (.int .i64 o.what)).setCell ⟨L.g, 10 + d * 3 + 2, none⟩ (.int .i64 o.item))) :
    QHeap way lo w' { s with wt := updR s.wt d (some o) } { L with op := updR L.op d o } tag ∧ StepS w w' tag tag := by
  subst hw
  have hb : But w.heap.size tag (fun m => m = (0, 0)) w ((((w.setCell ⟨L.g, 3 + d, none⟩ (.bool true)).setCell ⟨L.g, 10 + d * 3, none⟩ (.int .i64 o.tx)).setCell ⟨L.g, 10 + d * 3 + 1, none⟩ (.int .i64 o.what)).setCell ⟨L.g, 10 + d * 3 + 2, none⟩ (.int .i64 o.item)) :=
    (((H.cell (3 + d) (.bool true)).trans (But.set (fun _ => H.mark) _)).trans (But.set (fun _ => H.mark) _)).trans (But.set (fun _ => H.mark) _)
  refine ⟨⟨?_, H.mark, H.loG, H.tab.but hb (by decide) qt0, fun k o' hk => ?_, H.bh.but hb (fun k h => by injection h with _ h; omega) qt0, H.told.but hb (by decide) qt0, H.vic.but hb (by decide) qt0⟩, hb.mono (fun m h => by rw [h]; decide), qt0⟩
  · have h := (((H.run.put (3 + d) (.bool true)).put (10 + d * 3) (.int .i64 o.tx)).put (10 + d * 3 + 1) (.int .i64 o.what)).put (10 + d * 3 + 2) (.int .i64 o.item)
    rw [q_setW hd, q_setO hd] at h
    rw [wbS_upd]; exact h
  · dsimp only at hk ⊢
    unfold updR at hk ⊢
    split at hk
    · rename_i e
      rw [if_pos e]; injection hk
    · rename_i e
      rw [if_neg e]
      exact H.ops k o' hk
/-- A deal is aborted. -/
theorem QHeap.abortd (H : QHeap way lo w s L tag) {d : Nat} (hd : d ≤ 6) :
    QHeap way lo (w.setCell ⟨L.g, 38 + d, none⟩ (.bool true)) { s with ab := updR s.ab d true } L tag ∧ StepS w (w.setCell ⟨L.g, 38 + d, none⟩ (.bool true)) tag tag := by
  have hb := H.cell (38 + d) (.bool true)
  refine ⟨⟨?_, H.mark, H.loG, H.tab.but hb (by decide) qt0, H.ops, H.bh.but hb (fun k h => by injection h with _ h; omega) qt0, H.told.but hb (by decide) qt0, H.vic.but hb (by decide) qt0⟩, hb.mono (fun m h => by rw [h]; decide), qt0⟩
  have h := H.run.put (38 + d) (.bool true)
  rw [q_setA hd] at h
  exact h
/-- What stands behind a deal's op turned: its row is v. -/
theorem QHeap.behind (H : QHeap way lo w s L tag) {d : Nat} (hd : d ≤ 6) {v : Value} {l : List HOp} (hb1 : But w.heap.size tag (fun m => m = ((d : Int), 9)) w w') (ht : ∀ k, k < w.heap.size → tag' k = tag k) (hr : QRow w' lo 43 v l) (hv : ∀ j, v.ownBlock = some j → tag' j = ((d : Int), 9)) (hl : ∀ o ∈ l, rightB o = true) (hne : ∀ j, v.ownBlock = some j → j ≠ L.g) :
    QHeap way lo (w'.setCell ⟨L.g, 31 + d, none⟩ v) { s with bh := updR s.bh d l } { L with vB := updR L.vB d v } tag' ∧ StepS w (w'.setCell ⟨L.g, 31 + d, none⟩ v) tag tag' := by
  have hb : But w.heap.size tag (fun m => m = (0, 0) ∨ m = ((d : Int), 9)) w (w'.setCell ⟨L.g, 31 + d, none⟩ v) := (hb1.mono fun m h => .inr h).trans (But.set (fun _ => .inl H.mark) v)
  have hB := H.run.but hb1 (by rw [H.mark]; intro h; injection h with _ h; omega)
  have hno : ∀ j : Nat, 1 ≤ j → j ≤ 8 → ¬ (((0 : Int), j) = ((0 : Int), 0) ∨ ((0 : Int), j) = ((d : Int), 9)) := fun j h1 h2 h => by
    rcases h with h | h <;> (injection h with _ h; omega)
  refine ⟨⟨?_, by rw [ht _ H.run.lt]; exact H.mark, H.loG, H.tab.but hb (hno 2 (by omega) (by omega)) ht, H.ops, fun k => ?_, H.told.but hb (hno 6 (by omega) (by omega)) ht, H.vic.but hb (hno 7 (by omega) (by omega)) ht⟩, hb.mono (fun m h => by rcases h with rfl | rfl <;> (show _ < 10; omega)), ht⟩
  · have h := hB.put (31 + d) v
    rw [q_setB hd] at h
    exact h
  · by_cases hk : k = d
    · subst hk
      dsimp only
      rw [show updR s.bh (d : Int) l (d : Int) = l from updR_same _ _ _, show updR L.vB (d : Int) v (d : Int) = v from updR_same _ _ _]
      exact ⟨⟨hr.kept fun g hg => Below.heap_setCell _ _ _ _ (hne g hg), hv⟩, hl⟩
    · dsimp only
      rw [show updR s.bh (d : Int) l k = s.bh k from updR_ne hk, show updR L.vB (d : Int) v k = L.vB k from updR_ne hk]
      refine ⟨⟨(H.bh k).1.1.kept fun g hg => hb.block g ((H.bh k).1.1.lt hg).2 ?_, fun j hj => ?_⟩, (H.bh k).2⟩
      · rw [(H.bh k).1.2 g hg]
        intro h9
        rcases h9 with h9 | h9
        · injection h9 with _ h9; omega
        · injection h9 with h9 _; exact hk h9
      · rw [ht j ((H.bh k).1.1.lt hj).2]; exact (H.bh k).1.2 j hj
/-- An op is told. -/
theorem QHeap.tell (H : QHeap way lo w s L tag) {v : Value} {o : HOp} {n : Nat} (hn1 : n = s.told.length + 1) (ho : w'.ownsRow lo 43 3 v n (cellsH s.told ++ cellsH [o])) (hg : w.grownBy w' L.vT.ownBlock) (hn : v.ownBlock = L.vT.ownBlock ∨ v.ownBlock = some w.heap.size) :
    QHeap way lo (w'.setCell ⟨L.g, 45, none⟩ v) (s.tells o) { L with vT := v } (tagTo tag w.heap.size (0, 6)) ∧ StepS w (w'.setCell ⟨L.g, 45, none⟩ v) tag (tagTo tag w.heap.size (0, 6)) := by
  subst hn1
  have ht : ∀ k, k < w.heap.size → tagTo tag w.heap.size (0, 6) k = tag k := fun k hk => tagTo_old hk
  have hb1 : But w.heap.size tag (fun m => m = (0, 6)) w w' := grown_but hg fun k hk => H.told.2 k hk
  have hb2 : But w.heap.size tag (fun m => m = (0, 0) ∨ m = (0, 6)) w (w'.setCell ⟨L.g, 45, none⟩ v) := (hb1.mono fun m h => .inr h).trans (But.set (fun _ => .inl H.mark) v)
  have h1 := H.run.but hb1 (by rw [H.mark]; decide)
  refine ⟨⟨h1.put 45 v, by rw [ht _ H.run.lt]; exact H.mark, H.loG, H.tab.but hb2 (by decide) ht, H.ops, H.bh.but hb2 (fun k h => by rcases h with h | h <;> (injection h with _ h; omega)) ht, ⟨?_, fun k hk => ?_⟩, H.vic.but hb2 (by decide) ht⟩, hb2.mono (fun m h => by rcases h with rfl | rfl <;> decide), ht⟩
  · show (w'.setCell ⟨L.g, 45, none⟩ v).ownsRow lo 43 3 v (s.told ++ [o]).length (cellsH (s.told ++ [o]))
    rw [List.length_append, List.length_singleton, cellsH_append]
    exact own_set_blk ho h1 (by decide) 45 v
  · rcases hn with e | e
    · have hk2 := e.symm.trans hk
      rw [ht _ (H.told.1.lt k hk2).2]; exact H.told.2 k hk2
    · obtain rfl : w.heap.size = k := Option.some.inj (e.symm.trans hk)
      exact tagTo_new (Nat.le_refl _)
/-- A deal is a victim. -/
theorem QHeap.victim (H : QHeap way lo w s L tag) {v : Value} {x : Int} {n : Nat} (hn1 : n = s.vic.length + 1) (ho : w'.ownsRow lo 3 1 v n (cellsI s.vic ++ [.int .i64 x])) (hg : w.grownBy w' L.vV.ownBlock) (hn : v.ownBlock = L.vV.ownBlock ∨ v.ownBlock = some w.heap.size) :
    QHeap way lo (w'.setCell ⟨L.g, 46, none⟩ v) { s with vic := s.vic ++ [x] } { L with vV := v } (tagTo tag w.heap.size (0, 7)) ∧ StepS w (w'.setCell ⟨L.g, 46, none⟩ v) tag (tagTo tag w.heap.size (0, 7)) := by
  subst hn1
  have ht : ∀ k, k < w.heap.size → tagTo tag w.heap.size (0, 7) k = tag k := fun k hk => tagTo_old hk
  have hb1 : But w.heap.size tag (fun m => m = (0, 7)) w w' := grown_but hg fun k hk => H.vic.2 k hk
  have hb2 : But w.heap.size tag (fun m => m = (0, 0) ∨ m = (0, 7)) w (w'.setCell ⟨L.g, 46, none⟩ v) := (hb1.mono fun m h => .inr h).trans (But.set (fun _ => .inl H.mark) v)
  have h1 := H.run.but hb1 (by rw [H.mark]; decide)
  refine ⟨⟨h1.put 46 v, by rw [ht _ H.run.lt]; exact H.mark, H.loG, H.tab.but hb2 (by decide) ht, H.ops, H.bh.but hb2 (fun k h => by rcases h with h | h <;> (injection h with _ h; omega)) ht, H.told.but hb2 (by decide) ht, ⟨?_, fun k hk => ?_⟩⟩, hb2.mono (fun m h => by rcases h with rfl | rfl <;> decide), ht⟩
  · show (w'.setCell ⟨L.g, 46, none⟩ v).ownsRow lo 3 1 v (s.vic ++ [x]).length (cellsI (s.vic ++ [x]))
    rw [List.length_append, List.length_singleton]
    have e : cellsI (s.vic ++ [x]) = cellsI s.vic ++ [.int .i64 x] := by simp [cellsI]
    rw [e]
    exact own_set_blk ho h1 (by decide) 46 v
  · rcases hn with e | e
    · have hk2 := e.symm.trans hk
      rw [ht _ (H.vic.1.lt k hk2).2]; exact H.vic.2 k hk2
    · obtain rfl : w.heap.size = k := Option.some.inj (e.symm.trans hk)
      exact tagTo_new (Nat.le_refl _)
/-- The table turned. -/
theorem QHeap.table (H : QHeap way lo w s L tag) {T' : LTab} {v1 v2 : Value} (ht : ∀ k, k < w.heap.size → tag' k = tag k) (hT : TabRn (.int .i64 way) (qpost (wbS s) L.op L.vB s.ab L.vT L.vV) w' lo L.g v1 v2 T'.H T'.W) (hI : LInv T') (hK : KeptQ w w' L.g L.vH L.vW v1 v2) (hnew : ∀ k, w.heap.size ≤ k → v1.ownBlock = some k ∨ v2.ownBlock = some k → tag' k = (0, 2)) :
    QHeap way lo w' { s with T := T' } { L with vH := v1, vW := v2 } tag' ∧ StepS w w' tag tag' := by
  obtain ⟨hc, k1, k2⟩ := hK
  have hb : But w.heap.size tag (fun m => m = (0, 0) ∨ m = (0, 2)) w w' := ⟨hc.os, hc.tape, hc.output, hc.size, fun k hk hn => hc.block k hk fun h => hn (by
    rcases h with rfl | h | h
    · exact .inl H.mark
    · exact .inr (H.tab.held.2 k h)
    · exact .inr (H.tab.waits.2 k h))⟩
  have hm1 : ∀ k, v1.ownBlock = some k → tag' k = (0, 2) := fun k hk => by
    by_cases hlt : k < w.heap.size
    · rw [ht k hlt]
      rcases k1 with e | e | ⟨j, e, hj⟩
      · exact H.tab.held.2 k (e.symm.trans hk)
      · rw [e] at hk; cases hk
      · have := Option.some.inj (e.symm.trans hk); omega
    · exact hnew k (by omega) (.inl hk)
  have hm2 : ∀ k, v2.ownBlock = some k → tag' k = (0, 2) := fun k hk => by
    by_cases hlt : k < w.heap.size
    · rw [ht k hlt]
      rcases k2 with e | e | ⟨j, e, hj⟩
      · exact H.tab.waits.2 k (e.symm.trans hk)
      · rw [e] at hk; cases hk
      · have := Option.some.inj (e.symm.trans hk); omega
    · exact hnew k (by omega) (.inr hk)
  exact ⟨⟨hT.blk, by show tag' L.g = _; rw [ht _ H.run.lt]; exact H.mark, H.loG, ⟨⟨hT.held, hm1⟩, ⟨hT.waits, hm2⟩, hT.ne, hI⟩, H.ops, H.bh.but hb (fun k h => by rcases h with h | h <;> (injection h with _ h; omega)) ht, H.told.but hb (by decide) ht, H.vic.but hb (by decide) ht⟩, hb.mono (fun m h => by rcases h with rfl | rfl <;> decide), ht⟩
end

/-! ### What its functions leave. -/
def QPost (way : Int) (lo : Nat) (w : World) (s' : RSt) (L : QLay) (tag : Nat → Int × Nat) (e : Ending) (w' : World) : Prop :=
  (∃ v, e = .returned v) ∧ ∃ vH vW vT vV vB op tag', QHeap way lo w' s' ⟨L.g, vH, vW, vT, vV, vB, op⟩ tag' ∧ StepS w w' tag tag'
theorem QPost.after {way : Int} {lo : Nat} {w wx w' : World} {s' : RSt} {L Lx : QLay} {tag tagx : Nat → Int × Nat} {e : Ending} (h : QPost way lo wx s' Lx tagx e w') (hs : StepS w wx tag tagx) (hl : Lx.g = L.g) : QPost way lo w s' L tag e w' := by
  obtain ⟨h1, vH, vW, vT, vV, vB, op, tag', h2, h3⟩ := h
  rw [hl] at h2
  exact ⟨h1, vH, vW, vT, vV, vB, op, tag', h2, hs.trans h3⟩
def JCallQ (way : Int) (lo : Nat) (f : FuncId) (args : Nat → Array Value) (n : Nat) (j : Job) : Prop :=
  ∀ s s' L tag w, QHeap way lo w s L tag → runJ way n j s = some s' → s'.told.length ≤ 1000000 → s'.vic.length ≤ 1000000 → Calls Tryz.prog f (args L.g) w (QPost way lo w s' L tag)
def FreeQC (way : Int) (lo n : Nat) : Prop := ∀ tx, JCallQ way lo 17 (fun g => #[.pointer (some ⟨g, 0, none⟩), .int .i64 tx]) n (.free tx)
def AbortQC (way : Int) (lo n : Nat) : Prop := ∀ tx, 1 ≤ tx → tx ≤ 6 → JCallQ way lo 21 (fun g => #[.pointer (some ⟨g, 0, none⟩), .int .i64 tx]) n (.abort tx)
def DoQC (way : Int) (lo n : Nat) : Prop := ∀ o, rightB o = true → JCallQ way lo 11 (fun g => #[.pointer (some ⟨g, 0, none⟩), o.val]) n (.doo o)
end Go.Proofs.YtbccnafdfeempaaGreatDoor

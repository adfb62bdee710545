
/-
  THE HEAP OF A RUNNER that keeps locks: maps as functions, rows that are cut at their head, the runner's parts with marks on their blocks.
  THE HEAP OF A RUNNER, whole: its parts, with marks on their blocks; what each change leaves.
  CONTRACTS of locks.Waiting, and of the runner's forWhom, least.
  CONTRACTS of the runner's least and ring.
-/
import Derived.Test.YtbccnafdfeempaaGreatDoorQ14
import Derived.Test.YtbccnafdfeempaaGreatDoorLFor
import Derived.Test.YtbccnafdfeempaaGreatDoorQ2
import Derived.Test.YtbccnafdfeempaaGreatDoorQ19
import Derived.Test.YtbccnafdfeempaaGreatDoorQueue

namespace Go.Proofs.YtbccnafdfeempaaGreatDoor
open Go.RowKit

/-! ### Maps as functions. -/
def MapF (w : World) (b : Nat) (f : Int → Option Value) : Prop := ∃ m, MapI w b m ∧ (m.map (·.1)).Nodup ∧ ∀ k, getI m k = f k
theorem getI_put : ∀ (m : List (Int × Value)) (k : Int) (v : Value) (x : Int), getI (putI m k v) x = if x = k then some v else getI m x
  | [], k, v, x => by
    show (if k = x then some v else none) = _
    by_cases h : x = k
    · rw [if_pos h, if_pos h.symm]
    · rw [if_neg h, if_neg (fun e => h e.symm)]; rfl
  | p :: t, k, v, x => by
    unfold putI
    split
    · rename_i h
      show (if k = x then some v else getI t x) = if x = k then some v else (if p.1 = x then some p.2 else getI t x)
      by_cases h2 : x = k
      · rw [if_pos h2, if_pos h2.symm]
      · rw [if_neg h2, if_neg (fun e => h2 e.symm), if_neg (fun e => h2 (e.symm.trans h))]
    · rename_i h
      show (if p.1 = x then some p.2 else getI (putI t k v) x) = if x = k then some v else (if p.1 = x then some p.2 else getI t x)
      rw [getI_put t k v x]
      by_cases h2 : p.1 = x
      · rw [if_pos h2, if_pos h2, if_neg (fun e => h (h2.trans e))]
      · rw [if_neg h2, if_neg h2]
theorem keys_put : ∀ (m : List (Int × Value)) (k : Int) (v : Value), ∀ x ∈ (putI m k v).map (·.1), x = k ∨ x ∈ m.map (·.1)
  | [], k, v, x, h => by simp [putI] at h; exact .inl h
  | p :: t, k, v, x, h => by
    unfold putI at h
    split at h
    · rcases List.mem_cons.1 h with h | h
      · exact .inl h
      · exact .inr (List.mem_cons_of_mem _ h)
    · rcases List.mem_cons.1 h with h | h
      · exact .inr (by rw [h]; exact List.mem_cons_self ..)
      · exact (keys_put t k v x h).imp id (List.mem_cons_of_mem _)
theorem nodup_put : ∀ (m : List (Int × Value)) (k : Int) (v : Value), (m.map (·.1)).Nodup → ((putI m k v).map (·.1)).Nodup
  | [], k, v, _ => by simp [putI]
  | p :: t, k, v, h => by
    obtain ⟨h1, h2⟩ := List.nodup_cons.1 h
    unfold putI
    split
    · rename_i e
      exact List.nodup_cons.2 ⟨by rw [← e]; exact h1, h2⟩
    · rename_i e
      refine List.nodup_cons.2 ⟨fun hm => ?_, nodup_put t k v h2⟩
      rcases keys_put t k v _ hm with h3 | h3
      · exact e h3
      · exact h1 h3
theorem getI_none : ∀ (m : List (Int × Value)) (x : Int), x ∉ m.map (·.1) → getI m x = none
  | [], _, _ => rfl
  | p :: t, x, h => by
    simp only [List.map_cons, List.mem_cons, not_or] at h
    show (if p.1 = x then some p.2 else getI t x) = none
    rw [if_neg (fun e => h.1 e.symm)]
    exact getI_none t x h.2
theorem getI_del : ∀ (m : List (Int × Value)) (k x : Int), (m.map (·.1)).Nodup → getI (delI m k) x = if x = k then none else getI m x
  | [], k, x, _ => by show none = if x = k then none else none; split <;> rfl
  | p :: t, k, x, h => by
    obtain ⟨h1, h2⟩ := List.nodup_cons.1 h
    unfold delI
    split
    · rename_i e
      by_cases h3 : x = k
      · rw [if_pos h3]; exact getI_none t x (by rw [h3, ← e]; exact h1)
      · rw [if_neg h3]
        show getI t x = if p.1 = x then some p.2 else getI t x
        rw [if_neg (fun e2 => h3 (e2.symm.trans e))]
    · rename_i e
      show (if p.1 = x then some p.2 else getI (delI t k) x) = if x = k then none else (if p.1 = x then some p.2 else getI t x)
      rw [getI_del t k x h2]
      by_cases h3 : p.1 = x
      · rw [if_pos h3, if_pos h3, if_neg (fun e2 => e (h3.trans e2))]
      · rw [if_neg h3, if_neg h3]
theorem keys_del : ∀ (m : List (Int × Value)) (k : Int), ∀ x ∈ (delI m k).map (·.1), x ∈ m.map (·.1)
  | [], _, x, h => h
  | p :: t, k, x, h => by
    unfold delI at h
    split at h
    · exact List.mem_cons_of_mem _ h
    · rcases List.mem_cons.1 h with h | h
      · rw [h]; exact List.mem_cons_self ..
      · exact List.mem_cons_of_mem _ (keys_del t k x h)
theorem nodup_del : ∀ (m : List (Int × Value)) (k : Int), (m.map (·.1)).Nodup → ((delI m k).map (·.1)).Nodup
  | [], _, h => h
  | p :: t, k, h => by
    obtain ⟨h1, h2⟩ := List.nodup_cons.1 h
    unfold delI
    split
    · exact h2
    · exact List.nodup_cons.2 ⟨fun hm => h1 (keys_del t k _ hm), nodup_del t k h2⟩
theorem MapF.lt {w : World} {b : Nat} {f : Int → Option Value} (h : MapF w b f) : b < w.heap.size := by obtain ⟨m, hm, _⟩ := h; exact hm.lt
theorem MapF.kept {w w' : World} {b : Nat} {f : Int → Option Value} (h : MapF w b f) (hb : w'.heap[b]? = w.heap[b]?) : MapF w' b f := by obtain ⟨m, hm, h2⟩ := h; exact ⟨m, hm.kept hb, h2⟩
theorem MapF.new (w : World) : MapF (w.alloc (.map #[] 0)) w.heap.size fun _ => none := ⟨[], MapI.new w, List.nodup_nil, fun _ => rfl⟩
section
variable {P : Program} {w : World} {ops : Array Oper} {rest : List Oper} {o : Oper} {a : Act} {Q : Exit → Act → World → Prop} {t kt et : TypeId} {b : Nat} {f : Int → Option Value}
theorem wpList_lookupF (hg : o.guard = none) (mo x : Operand) (t : TypeId) (ok : Bool) (hop : o.op = Op.lookup t mo x ok) (ht : P.underlying t = some (.map kt et)) (hk : P.underlying kt = some (.int .i64))
    (hm : MapF w b f) {k : Int} {z : Value} (hz : ∀ w, (zeroValue et).run P w = .ok z w) (hmo : a.eval mo = .map (some b)) (hx : a.eval x = .int .i64 k)
    (h : wpList P ops Q rest (a.put o.dst (if ok then .tuple #[(f k).getD z, .bool (f k).isSome] else (f k).getD z)) w) : wpList P ops Q (o :: rest) a w := by
  obtain ⟨m, hm, _, hf⟩ := hm
  refine wpList_lookupI hg mo x t ok hop ht hk hm hz hmo hx ?_
  rw [hf k]; exact h
theorem run_lookupF (ht : P.underlying t = some (.map kt et)) (hk : P.underlying kt = some (.int .i64)) (hm : MapF w b f) (k : Int) {z : Value} (hz : (zeroValue et).run P w = .ok z w) (ok : Bool) :
    (Instr.lookup t (.map (some b)) (.int .i64 k) ok).run P w = .ok (if ok then .tuple #[(f k).getD z, .bool (f k).isSome] else (f k).getD z) w := by
  obtain ⟨m, hm, _, hf⟩ := hm
  rw [run_lookupI ht hk hm k hz ok, hf k]
theorem wpList_updateF (hg : o.guard = none) (mo x v : Operand) (t : TypeId) (hop : o.op = Op.mapUpdate t mo x v) (ht : P.underlying t = some (.map kt et)) (hk : P.underlying kt = some (.int .i64))
    (hm : MapF w b f) {k : Int} {u : Value} (hmo : a.eval mo = .map (some b)) (hx : a.eval x = .int .i64 k) (hv : a.eval v = u)
    (h : ∀ w', MapF w' b (updR f k (some u)) → w.grownBy w' (some b) → wpList P ops Q rest (a.put o.dst undef) w') : wpList P ops Q (o :: rest) a w := by
  obtain ⟨m, hm, hn, hf⟩ := hm
  refine wpList_updateI hg mo x v t hop ht hk hm hmo hx hv ?_
  intro w' hm' hg'
  refine h w' ⟨_, hm', nodup_put m k u hn, fun x => ?_⟩ hg'
  rw [getI_put]
  unfold updR
  rw [hf x]
theorem wpList_deleteF (hg : o.guard = none) (mo x : Operand) (t : TypeId) (hop : o.op = Op.call { callee := Callee.builtin Builtin.delete, args := #[mo, x], argTypes := #[t, kt] })
    (ht : P.underlying t = some (.map kt et)) (hk : P.underlying kt = some (.int .i64)) (hm : MapF w b f) {k : Int} (hmo : a.eval mo = .map (some b)) (hx : a.eval x = .int .i64 k)
    (h : ∀ w', MapF w' b (updR f k none) → w.grownBy w' (some b) → wpList P ops Q rest (a.put o.dst (.tuple #[])) w') : wpList P ops Q (o :: rest) a w := by
  obtain ⟨m, hm, hn, hf⟩ := hm
  refine wpList_deleteI hg mo x t hop ht hk hm hmo hx ?_
  intro w' hm' hg'
  refine h w' ⟨_, hm', nodup_del m k hn, fun x => ?_⟩ hg'
  rw [getI_del m k x hn]
  unfold updR
  rw [hf x]
end
end Go.Proofs.YtbccnafdfeempaaGreatDoor


namespace Go.Proofs.YtbccnafdfeempaaGreatDoor
open Go.RowKit

/-- Of what was there only the runner's own blocks turned; marks of what was there stay. -/
def StepS (w w' : World) (tag tag' : Nat → Int × Nat) : Prop := But w.heap.size tag (fun m => m.2 < 10) w w' ∧ ∀ k, k < w.heap.size → tag' k = tag k
theorem StepS.refl (w : World) (tag : Nat → Int × Nat) : StepS w w tag tag := ⟨But.refl _ _ _ _, fun _ _ => rfl⟩
theorem StepS.trans {a b c : World} {t1 t2 t3 : Nat → Int × Nat} (h : StepS a b t1 t2) (k : StepS b c t2 t3) : StepS a c t1 t3 := by
  have hs := h.1.size
  refine ⟨⟨k.1.os.trans h.1.os, k.1.tape.trans h.1.tape, k.1.output.trans h.1.output, Nat.le_trans hs k.1.size, fun i hi hn => ?_⟩, fun i hi => (k.2 i (Nat.lt_of_lt_of_le hi hs)).trans (h.2 i hi)⟩
  exact (k.1.block i (Nat.lt_of_lt_of_le hi hs) (by rw [h.2 i hi]; exact hn)).trans (h.1.block i hi hn)
theorem StepS.below {w w' : World} {tag : Nat → Int × Nat} (h : Below w.heap.size w w') : StepS w w' tag tag := ⟨But.below h (Nat.le_refl _), fun _ _ => rfl⟩
theorem StepS.own {w w' : World} {tag tag' : Nat → Int × Nat} {base : Nat} {e : TypeId} {size : Nat} {v : Value} {n : Nat} {xs : List Value} (h : w.ownsRow base e size v n xs) (hs : StepS w w' tag tag') (hm : ∀ k, v.ownBlock = some k → 10 ≤ (tag k).2) : w'.ownsRow base e size v n xs :=
  own_butM h hs.1 fun k hk => by have := hm k hk; omega
theorem StepS.tags {w w' : World} {tag tag' : Nat → Int × Nat} {base : Nat} {e : TypeId} {size : Nat} {v : Value} {n : Nat} {xs : List Value} (h : w.ownsRow base e size v n xs) (hs : StepS w w' tag tag') (hm : ∀ k, v.ownBlock = some k → 10 ≤ (tag k).2) : ∀ k, v.ownBlock = some k → 10 ≤ (tag' k).2 := fun k hk => by
  rw [hs.2 k (h.lt k hk).2]; exact hm k hk
theorem StepS.toBelow {w w' : World} {tag tag' : Nat → Int × Nat} {lo : Nat} (h : StepS w w' tag tag') (hlo : lo ≤ w.heap.size) (hm : ∀ k, k < lo → 10 ≤ (tag k).2) : Below lo w w' := h.1.toBelow hlo fun k hk e => by have := hm k hk; omega
def tagTo (tag : Nat → Int × Nat) (N : Nat) (m : Int × Nat) : Nat → Int × Nat := fun k => if k < N then tag k else m
theorem tagTo_old {tag : Nat → Int × Nat} {N : Nat} {m : Int × Nat} {k : Nat} (h : k < N) : tagTo tag N m k = tag k := by unfold tagTo; rw [if_pos h]
theorem tagTo_new {tag : Nat → Int × Nat} {N : Nat} {m : Int × Nat} {k : Nat} (h : N ≤ k) : tagTo tag N m k = m := by unfold tagTo; rw [if_neg (by omega)]

/-- Where a runner's things lie. -/
structure RLay where
  g : Nat
  gt : Nat
  gw : Nat
  gb : Nat
  ga : Nat
  vH : Value
  vW : Value
  vT : Value
  vV : Value
section
variable {way : Int} {lo : Nat} {w w' : World} {s : RSt} {L : RLay} {tag tag' : Nat → Int × Nat} {S : Int × Nat → Prop}
def HRun (way : Int) (lo : Nat) (w : World) (L : RLay) (tag : Nat → Int × Nat) : Prop :=
  Blk w L.g 58 [.int .i64 way, .pointer (some ⟨L.gt, 0, none⟩), .map (some L.gw), .map (some L.gb), .map (some L.ga), L.vT, L.vV] ∧ tag L.g = (0, 0) ∧ lo ≤ L.g
theorem HRun.but (h : HRun way lo w L tag) (hb : But w.heap.size tag S w w') (hs : ¬ S (0, 0)) (ht : ∀ k, k < w.heap.size → tag' k = tag k) : HRun way lo w' L tag' :=
  ⟨h.1.but hb (by rw [h.2.1]; exact hs), by rw [ht _ h.1.lt]; exact h.2.1, h.2.2⟩
def HTab (lo : Nat) (w : World) (T : LTab) (gt : Nat) (vH vW : Value) (tag : Nat → Int × Nat) : Prop :=
  Tab w lo gt vH vW T.H T.W ∧ tag gt = (0, 1) ∧ (∀ k, vH.ownBlock = some k ∨ vW.ownBlock = some k → tag k = (0, 2)) ∧ LInv T
theorem HTab.but {T : LTab} {gt : Nat} {vH vW : Value} (h : HTab lo w T gt vH vW tag) (hb : But w.heap.size tag S w w') (hs1 : ¬ S (0, 1)) (hs2 : ¬ S (0, 2)) (ht : ∀ k, k < w.heap.size → tag' k = tag k) : HTab lo w' T gt vH vW tag' := by
  obtain ⟨h1, h2, h3, h4⟩ := h
  refine ⟨⟨h1.blk.but hb (by rw [h2]; exact hs1), own_butM h1.held hb fun k hk => by rw [h3 k (.inl hk)]; exact hs2, own_butM h1.waits hb fun k hk => by rw [h3 k (.inr hk)]; exact hs2, h1.ne, h1.lo⟩, by rw [ht _ h1.blk.lt]; exact h2, fun k hk => ?_, h4⟩
  rw [ht k (by rcases hk with hk | hk; exact (h1.held.lt k hk).2; exact (h1.waits.lt k hk).2)]
  exact h3 k hk
def HMap (lo : Nat) (w : World) (f : Int → Option Value) (b : Nat) (m : Nat) (tag : Nat → Int × Nat) : Prop := MapF w b f ∧ tag b = (0, m) ∧ lo ≤ b
theorem HMap.but {f : Int → Option Value} {b m : Nat} (h : HMap lo w f b m tag) (hb : But w.heap.size tag S w w') (hs : ¬ S (0, m)) (ht : ∀ k, k < w.heap.size → tag' k = tag k) : HMap lo w' f b m tag' :=
  ⟨h.1.kept (hb.block b h.1.lt (by rw [h.2.1]; exact hs)), by rw [ht _ h.1.lt]; exact h.2.1, h.2.2⟩
def nilS : Value := .slice none 0 0
def HBh (lo : Nat) (w : World) (bh : Int → List HOp) (gb : Nat) (tag : Nat → Int × Nat) : Prop :=
  ∃ fb, HMap lo w fb gb 4 tag ∧ ∀ k, QRow w lo 43 ((fb k).getD nilS) (bh k) ∧ ∀ j, ((fb k).getD nilS).ownBlock = some j → tag j = (k, 9)
theorem HBh.but {bh : Int → List HOp} {gb : Nat} (h : HBh lo w bh gb tag) (hb : But w.heap.size tag S w w') (hs : ¬ S (0, 4)) (hs9 : ∀ k, ¬ S (k, 9)) (ht : ∀ k, k < w.heap.size → tag' k = tag k) : HBh lo w' bh gb tag' := by
  obtain ⟨fb, h1, h2⟩ := h
  refine ⟨fb, h1.but hb hs ht, fun k => ⟨(h2 k).1.kept fun g hg => hb.block g ((h2 k).1.lt hg).2 (by rw [(h2 k).2 g hg]; exact hs9 k), fun j hj => ?_⟩⟩
  rw [ht j ((h2 k).1.lt hj).2]
  exact (h2 k).2 j hj
def HRow (lo : Nat) (w : World) (e : TypeId) (size : Nat) (v : Value) (n : Nat) (xs : List Value) (m : Nat) (tag : Nat → Int × Nat) : Prop := w.ownsRow lo e size v n xs ∧ ∀ k, v.ownBlock = some k → tag k = (0, m)
theorem HRow.but {e : TypeId} {size : Nat} {v : Value} {n : Nat} {xs : List Value} {m : Nat} (h : HRow lo w e size v n xs m tag) (hb : But w.heap.size tag S w w') (hs : ¬ S (0, m)) (ht : ∀ k, k < w.heap.size → tag' k = tag k) : HRow lo w' e size v n xs m tag' :=
  ⟨own_butM h.1 hb fun k hk => by rw [h.2 k hk]; exact hs, fun k hk => by rw [ht k (h.1.lt k hk).2]; exact h.2 k hk⟩
def fWt (s : RSt) : Int → Option Value := fun k => (s.wt k).map HOp.val
def fAb (s : RSt) : Int → Option Value := fun k => if s.ab k = true then some (.bool true) else none
structure SHeap (way : Int) (lo : Nat) (w : World) (s : RSt) (L : RLay) (tag : Nat → Int × Nat) : Prop where
  run : HRun way lo w L tag
  tab : HTab lo w s.T L.gt L.vH L.vW tag
  wt : HMap lo w (fWt s) L.gw 3 tag
  bh : HBh lo w s.bh L.gb tag
  ab : HMap lo w (fAb s) L.ga 5 tag
  told : HRow lo w 43 3 L.vT s.told.length (cellsH s.told) 6 tag
  vic : HRow lo w 3 1 L.vV s.vic.length (cellsI s.vic) 7 tag
theorem SHeap.loLe (H : SHeap way lo w s L tag) : lo ≤ w.heap.size := Nat.le_trans H.run.2.2 (Nat.le_of_lt H.run.1.lt)
/-- Nothing changed. -/
theorem SHeap.below (H : SHeap way lo w s L tag) (hb : Below w.heap.size w w') : SHeap way lo w' s L tag := by
  have hb' : But w.heap.size tag (fun _ => False) w w' := But.below hb (Nat.le_refl _)
  exact ⟨H.run.but hb' id fun _ _ => rfl, H.tab.but hb' id id fun _ _ => rfl, H.wt.but hb' id fun _ _ => rfl, H.bh.but hb' id (fun _ => id) fun _ _ => rfl, H.ab.but hb' id fun _ _ => rfl, H.told.but hb' id fun _ _ => rfl, H.vic.but hb' id fun _ _ => rfl⟩
theorem SHeap.cells (H : SHeap way lo w s L tag) : w.cell? ⟨L.g, 0, none⟩ = some (.int .i64 way) ∧ w.cell? ⟨L.g, 1, none⟩ = some (.pointer (some ⟨L.gt, 0, none⟩)) ∧ w.cell? ⟨L.g, 2, none⟩ = some (.map (some L.gw)) ∧ w.cell? ⟨L.g, 3, none⟩ = some (.map (some L.gb)) ∧ w.cell? ⟨L.g, 4, none⟩ = some (.map (some L.ga)) ∧
    w.cell? ⟨L.g, 5, none⟩ = some L.vT ∧ w.cell? ⟨L.g, 6, none⟩ = some L.vV := by
  have h := H.run.1
  exact ⟨h.cellS rfl, h.cellS rfl, h.cellS rfl, h.cellS rfl, h.cellS rfl, h.cellS rfl, h.cellS rfl⟩
theorem grown_but {row : Option Nat} {P : Int × Nat → Prop} (hg : w.grownBy w' row) (hr : ∀ k, row = some k → P (tag k)) : But w.heap.size tag P w w' := But.grown hg (Nat.le_refl _) fun k hk _ => hr k hk
theorem blk_put {g : Nat} {t : TypeId} {cs : List Value} (h : Blk w g t cs) (i : Nat) (u : Value) : Blk (w.setCell ⟨g, i, none⟩ u) g t (cs.set i u) := h.put i u
/-- An op is told. -/
theorem SHeap.tell (H : SHeap way lo w s L tag) {v : Value} {o : HOp} {n : Nat} (hn1 : n = s.told.length + 1) (ho : w'.ownsRow lo 43 3 v n (cellsH s.told ++ cellsH [o])) (hg : w.grownBy w' L.vT.ownBlock) (hn : v.ownBlock = L.vT.ownBlock ∨ v.ownBlock = some w.heap.size) :
    SHeap way lo (w'.setCell ⟨L.g, 5, none⟩ v) (s.tells o) { L with vT := v } (tagTo tag w.heap.size (0, 6)) ∧ StepS w (w'.setCell ⟨L.g, 5, none⟩ v) tag (tagTo tag w.heap.size (0, 6)) := by
  subst hn1
  have ht : ∀ k, k < w.heap.size → tagTo tag w.heap.size (0, 6) k = tag k := fun k hk => tagTo_old hk
  have hb1 : But w.heap.size tag (fun m => m = (0, 6)) w w' := grown_but hg fun k hk => H.told.2 k hk
  have hgl := H.run.1.lt
  have hb2 : But w.heap.size tag (fun m => m = (0, 0) ∨ m = (0, 6)) w (w'.setCell ⟨L.g, 5, none⟩ v) := (hb1.mono fun m h => .inr h).trans (But.set (fun _ => .inl H.run.2.1) v)
  have h1 : Blk w' L.g 58 _ := H.run.1.but hb1 (by rw [H.run.2.1]; decide)
  refine ⟨⟨⟨blk_put h1 5 v, by rw [ht _ hgl]; exact H.run.2.1, H.run.2.2⟩, H.tab.but hb2 (by decide) (by decide) ht, H.wt.but hb2 (by decide) ht, H.bh.but hb2 (by decide) (fun k h => by rcases h with h | h <;> (injection h with _ h; omega)) ht, H.ab.but hb2 (by decide) ht, ⟨?_, fun k hk => ?_⟩, H.vic.but hb2 (by decide) ht⟩, hb2.mono (fun m h => by rcases h with rfl | rfl <;> decide), ht⟩
  · show (w'.setCell ⟨L.g, 5, none⟩ v).ownsRow lo 43 3 v (s.told ++ [o]).length (cellsH (s.told ++ [o]))
    rw [List.length_append, List.length_singleton, cellsH_append]
    exact own_set_blk ho h1 (by decide) 5 v
  · rcases hn with e | e
    · have hk2 := e.symm.trans hk
      rw [ht _ (H.told.1.lt k hk2).2]; exact H.told.2 k hk2
    · obtain rfl : w.heap.size = k := Option.some.inj (e.symm.trans hk)
      exact tagTo_new (Nat.le_refl _)
/-- A deal is a victim. -/
theorem SHeap.victim (H : SHeap way lo w s L tag) {v : Value} {x : Int} {n : Nat} (hn1 : n = s.vic.length + 1) (ho : w'.ownsRow lo 3 1 v n (cellsI s.vic ++ [.int .i64 x])) (hg : w.grownBy w' L.vV.ownBlock) (hn : v.ownBlock = L.vV.ownBlock ∨ v.ownBlock = some w.heap.size) :
    SHeap way lo (w'.setCell ⟨L.g, 6, none⟩ v) { s with vic := s.vic ++ [x] } { L with vV := v } (tagTo tag w.heap.size (0, 7)) ∧ StepS w (w'.setCell ⟨L.g, 6, none⟩ v) tag (tagTo tag w.heap.size (0, 7)) := by
  subst hn1
  have ht : ∀ k, k < w.heap.size → tagTo tag w.heap.size (0, 7) k = tag k := fun k hk => tagTo_old hk
  have hb1 : But w.heap.size tag (fun m => m = (0, 7)) w w' := grown_but hg fun k hk => H.vic.2 k hk
  have hgl := H.run.1.lt
  have hb2 : But w.heap.size tag (fun m => m = (0, 0) ∨ m = (0, 7)) w (w'.setCell ⟨L.g, 6, none⟩ v) := (hb1.mono fun m h => .inr h).trans (But.set (fun _ => .inl H.run.2.1) v)
  have h1 : Blk w' L.g 58 _ := H.run.1.but hb1 (by rw [H.run.2.1]; decide)
  refine ⟨⟨⟨blk_put h1 6 v, by rw [ht _ hgl]; exact H.run.2.1, H.run.2.2⟩, H.tab.but hb2 (by decide) (by decide) ht, H.wt.but hb2 (by decide) ht, H.bh.but hb2 (by decide) (fun k h => by rcases h with h | h <;> (injection h with _ h; omega)) ht, H.ab.but hb2 (by decide) ht, H.told.but hb2 (by decide) ht, ⟨?_, fun k hk => ?_⟩⟩, hb2.mono (fun m h => by rcases h with rfl | rfl <;> decide), ht⟩
  · show (w'.setCell ⟨L.g, 6, none⟩ v).ownsRow lo 3 1 v (s.vic ++ [x]).length (cellsI (s.vic ++ [x]))
    rw [List.length_append, List.length_singleton]
    have e : cellsI (s.vic ++ [x]) = cellsI s.vic ++ [.int .i64 x] := by simp [cellsI]
    rw [e]
    exact own_set_blk ho h1 (by decide) 6 v
  · rcases hn with e | e
    · have hk2 := e.symm.trans hk
      rw [ht _ (H.vic.1.lt k hk2).2]; exact H.vic.2 k hk2
    · obtain rfl : w.heap.size = k := Option.some.inj (e.symm.trans hk)
      exact tagTo_new (Nat.le_refl _)
/-- A deal waits with an op, or no more. -/
theorem SHeap.wait (H : SHeap way lo w s L tag) {x : Int} {v : Option HOp} (hm : MapF w' L.gw (updR (fWt s) x (v.map HOp.val))) (hg : w.grownBy w' (some L.gw)) :
    SHeap way lo w' { s with wt := updR s.wt x v } L tag ∧ StepS w w' tag tag := by
  have hb : But w.heap.size tag (fun m => m = (0, 3)) w w' := grown_but hg fun k hk => by injection hk with hk; rw [← hk]; exact H.wt.2.1
  have ht : ∀ k, k < w.heap.size → tag k = tag k := fun _ _ => rfl
  refine ⟨⟨H.run.but hb (by decide) ht, H.tab.but hb (by decide) (by decide) ht, ⟨?_, H.wt.2⟩, H.bh.but hb (by decide) (fun k h => by injection h with _ h; omega) ht, H.ab.but hb (by decide) ht, H.told.but hb (by decide) ht, H.vic.but hb (by decide) ht⟩, hb.mono (fun m h => by rw [h]; decide), ht⟩
  have e : fWt { s with wt := updR s.wt x v } = updR (fWt s) x (v.map HOp.val) := by
    funext k
    unfold fWt updR
    dsimp only
    split <;> rfl
  rw [e]; exact hm
/-- A deal is aborted. -/
theorem SHeap.abortd (H : SHeap way lo w s L tag) {x : Int} (hm : MapF w' L.ga (updR (fAb s) x (some (.bool true)))) (hg : w.grownBy w' (some L.ga)) :
    SHeap way lo w' { s with ab := updR s.ab x true } L tag ∧ StepS w w' tag tag := by
  have hb : But w.heap.size tag (fun m => m = (0, 5)) w w' := grown_but hg fun k hk => by injection hk with hk; rw [← hk]; exact H.ab.2.1
  have ht : ∀ k, k < w.heap.size → tag k = tag k := fun _ _ => rfl
  refine ⟨⟨H.run.but hb (by decide) ht, H.tab.but hb (by decide) (by decide) ht, H.wt.but hb (by decide) ht, H.bh.but hb (by decide) (fun k h => by injection h with _ h; omega) ht, ⟨?_, H.ab.2⟩, H.told.but hb (by decide) ht, H.vic.but hb (by decide) ht⟩, hb.mono (fun m h => by rw [h]; decide), ht⟩
  have e : fAb { s with ab := updR s.ab x true } = updR (fAb s) x (some (.bool true)) := by
    funext k
    unfold fAb updR
    dsimp only
    by_cases h : k = x <;> simp [h]
  rw [e]; exact hm
/-- What stands behind a deal's op: a row of its own, set in the map. -/
theorem HBh.put {w1 : World} {tag1 : Nat → Int × Nat} {bh : Int → List HOp} {gb : Nat} {fb : Int → Option Value} {x : Int} {v : Value} {l : List HOp} (h0 : HMap lo w fb gb 4 tag) (h : ∀ k, QRow w lo 43 ((fb k).getD nilS) (bh k) ∧ ∀ j, ((fb k).getD nilS).ownBlock = some j → tag j = (k, 9))
    (hb : But w.heap.size tag (fun m => m = (0, 4) ∨ m = (x, 9)) w w1) (ht : ∀ k, k < w.heap.size → tag1 k = tag k) (hm : MapF w1 gb (updR fb x (some v))) (hr : QRow w1 lo 43 v l) (hv : ∀ j, v.ownBlock = some j → tag1 j = (x, 9)) : HBh lo w1 (updR bh x l) gb tag1 := by
  refine ⟨_, ⟨hm, by rw [ht _ h0.1.lt]; exact h0.2.1, h0.2.2⟩, fun k => ?_⟩
  by_cases hk : k = x
  · subst hk
    rw [updR_same, updR_same]
    exact ⟨hr, hv⟩
  · rw [updR_ne hk, updR_ne hk]
    refine ⟨(h k).1.kept fun g hg => hb.block g ((h k).1.lt hg).2 ?_, fun j hj => ?_⟩
    · rw [(h k).2 g hg]
      intro h9
      rcases h9 with h9 | h9
      · injection h9 with _ h9; omega
      · injection h9 with h9 _; exact hk h9
    · rw [ht j ((h k).1.lt hj).2]; exact (h k).2 j hj
theorem HBh.del {w1 : World} {bh : Int → List HOp} {gb : Nat} {fb : Int → Option Value} {x : Int} (h0 : HMap lo w fb gb 4 tag) (h : ∀ k, QRow w lo 43 ((fb k).getD nilS) (bh k) ∧ ∀ j, ((fb k).getD nilS).ownBlock = some j → tag j = (k, 9))
    (hb : But w.heap.size tag (fun m => m = (0, 4)) w w1) (hm : MapF w1 gb (updR fb x none)) : HBh lo w1 (updR bh x []) gb tag := by
  refine ⟨_, ⟨hm, h0.2.1, h0.2.2⟩, fun k => ?_⟩
  by_cases hk : k = x
  · subst hk
    rw [updR_same, updR_same]
    exact ⟨QRow.nil _ _ _, fun j hj => by cases hj⟩
  · rw [updR_ne hk, updR_ne hk]
    refine ⟨(h k).1.kept fun g hg => hb.block g ((h k).1.lt hg).2 ?_, fun j hj => (h k).2 j hj⟩
    rw [(h k).2 g hg]
    intro h9
    injection h9 with _ h9; omega
theorem SHeap.behind (H : SHeap way lo w s L tag) {x : Int} {l : List HOp} (hb : But w.heap.size tag (fun m => m = (0, 4) ∨ m = (x, 9)) w w') (ht : ∀ k, k < w.heap.size → tag' k = tag k) (hB : HBh lo w' (updR s.bh x l) L.gb tag') :
    SHeap way lo w' { s with bh := updR s.bh x l } L tag' ∧ StepS w w' tag tag' := by
  refine ⟨⟨H.run.but hb ?_ ht, H.tab.but hb ?_ ?_ ht, H.wt.but hb ?_ ht, hB, H.ab.but hb ?_ ht, H.told.but hb ?_ ht, H.vic.but hb ?_ ht⟩, hb.mono (fun m h => by rcases h with rfl | rfl <;> (show _ < 10; omega)), ht⟩
  all_goals
    intro h
    rcases h with h | h <;> (injection h with _ h; omega)
/-- The table turned. -/
theorem SHeap.table (H : SHeap way lo w s L tag) {T' : LTab} {v1 v2 : Value} (ht : ∀ k, k < w.heap.size → tag' k = tag k) (hT : Tab w' lo L.gt v1 v2 T'.H T'.W) (hI : LInv T') (hK : Kept w w' L.gt L.vH L.vW v1 v2) (hnew : ∀ k, w.heap.size ≤ k → v1.ownBlock = some k ∨ v2.ownBlock = some k → tag' k = (0, 2)) :
    SHeap way lo w' { s with T := T' } { L with vH := v1, vW := v2 } tag' ∧ StepS w w' tag tag' := by
  obtain ⟨hc, k1, k2⟩ := hK
  have hb : But w.heap.size tag (fun m => m = (0, 1) ∨ m = (0, 2)) w w' := ⟨hc.os, hc.tape, hc.output, hc.size, fun k hk hn => hc.block k hk fun h => hn (by
    rcases h with rfl | h
    · exact .inl H.tab.2.1
    · exact .inr (H.tab.2.2.1 k h))⟩
  refine ⟨⟨H.run.but hb (by decide) ht, ⟨hT, by show tag' L.gt = _; rw [ht _ H.tab.1.blk.lt]; exact H.tab.2.1, fun k hk => ?_, hI⟩, H.wt.but hb (by decide) ht, H.bh.but hb (by decide) (fun k h => by rcases h with h | h <;> (injection h with _ h; omega)) ht, H.ab.but hb (by decide) ht, H.told.but hb (by decide) ht, H.vic.but hb (by decide) ht⟩, hb.mono (fun m h => by rcases h with rfl | rfl <;> decide), ht⟩
  by_cases hlt : k < w.heap.size
  · rw [ht k hlt]
    rcases hk with hk | hk
    · rcases k1 with e | ⟨j, e, hj⟩
      · exact H.tab.2.2.1 k (.inl (e.symm.trans hk))
      · have := Option.some.inj (e.symm.trans hk); omega
    · rcases k2 with e | e | ⟨j, e, hj⟩
      · exact H.tab.2.2.1 k (.inr (e.symm.trans hk))
      · rw [e] at hk; cases hk
      · have := Option.some.inj (e.symm.trans hk); omega
  · exact hnew k (by omega) hk
end
end Go.Proofs.YtbccnafdfeempaaGreatDoor


namespace Go.Proofs.YtbccnafdfeempaaGreatDoor
open Go.RowKit

theorem find_idx {W : List HOp} {tx : Int} : (W.find? (ofTx tx) = none ∧ idxGo (fun y : HOp => decide (y.tx = tx)) 0 W < 0) ∨ ∃ (i : Nat) (l : HOp), W.find? (ofTx tx) = some l ∧ W[i]? = some l ∧ idxGo (fun y : HOp => decide (y.tx = tx)) 0 W = i := by
  rcases idxGo_spec (fun y : HOp => decide (y.tx = tx)) 0 W with ⟨h1, h2⟩ | ⟨i, o, h1, h2, h3, h4⟩
  · exact .inl ⟨List.find?_eq_none.2 (fun x hx => by simpa [ofTx] using h1 x hx), by omega⟩
  · refine .inr ⟨i, o, ?_, h1, by omega⟩
    have hi := (List.getElem?_eq_some_iff.1 h1).1
    rw [List.find?_eq_some_iff_getElem]
    refine ⟨h2, i, hi, (List.getElem?_eq_some_iff.1 h1).2, fun j hj => ?_⟩
    have : W[j]'(by omega) ∈ W.take i := by
      rw [List.mem_iff_getElem?]
      exact ⟨j, by rw [List.getElem?_take, if_pos hj, List.getElem?_eq_getElem]⟩
    simpa [ofTx] using h3 _ this

set_option maxHeartbeats 400000 in
theorem lwaiting_no (lo g : Nat) (v1 v2 : Value) (H W : List HOp) (tx : Int) (w : World) (T : Tab w lo g v1 v2 H W) (hm : W.length ≤ 1000000) (hn : idxGo (fun y : HOp => decide (y.tx = tx)) 0 W < 0) :
    Calls Tryz.prog 64 #[.pointer (some ⟨g, 0, none⟩), .int .i64 tx] w fun e w' => e = .returned (.tuple #[(⟨0, 0, 0⟩ : HOp).val, .bool false]) ∧ Below w.heap.size w w' := by
  have hb0 : Below w.heap.size w (w.alloc (.cells #[.int .i64 0, .int .i64 0, .int .i64 0] 67)) := (Below.refl _ _).alloc (Nat.le_refl _) _
  have C := hide (waiting_any lo g v1 v2 H W tx _ (T.below hb0) hm)
  have hB := Blk.new w 67 [.int .i64 0, .int .i64 0, .int .i64 0]
  generalize idxGo (fun y : HOp => decide (y.tx = tx)) 0 W = j at *
  unfold HOp.val
  go_enter Tryz.func64, Tryz.ntmps64
  go_wp2_with fail
  refine (unhide C).mono ?_
  rintro e w1 ⟨rfl, hb1⟩
  have hB1 := hB.below hb1 (by simp)
  have c0 := hB1.cellS (i := 0) (v := .int .i64 0) rfl
  have c1 := hB1.cellS (i := 1) (v := .int .i64 0) rfl
  have c2 := hB1.cellS (i := 2) (v := .int .i64 0) rfl
  have f0 := hB1.frozen 0
  have f1 := hB1.frozen 1
  have f2 := hB1.frozen 2
  have hbw := hb0.trans (hb1.mono hb0.size)
  have hB2 := ((hB1.put 0 (.int .i64 0)).put 1 (.int .i64 0)).put 2 (.int .i64 0)
  have r0 := hB2.cellS (i := 0) (v := .int .i64 0) rfl
  have r1 := hB2.cellS (i := 1) (v := .int .i64 0) rfl
  have r2 := hB2.cellS (i := 2) (v := .int .i64 0) rfl
  have hbw2 := ((hbw.setCell (p := ⟨w.heap.size, 0, none⟩) (Nat.le_refl _) (.int .i64 0)).setCell (p := ⟨w.heap.size, 1, none⟩) (Nat.le_refl _) (.int .i64 0)).setCell (p := ⟨w.heap.size, 2, none⟩) (Nat.le_refl _) (.int .i64 0)
  clear hB2 hbw
  go_wp2
  refine bodyPost_ret (v := .tuple #[.agg #[.int .i64 0, .int .i64 0, .int .i64 0], .bool false]) (by simp [results, Tryz.results64, go_sem, r0, r1, r2]) rfl ?_
  exact ⟨rfl, hbw2⟩

set_option maxHeartbeats 400000 in
theorem lwaiting_yes (lo g : Nat) (v1 v2 : Value) (H W : List HOp) (tx : Int) (i : Nat) (l : HOp) (w : World) (T : Tab w lo g v1 v2 H W) (hm : W.length ≤ 1000000) (hi : W[i]? = some l) (hn : idxGo (fun y : HOp => decide (y.tx = tx)) 0 W = i) :
    Calls Tryz.prog 64 #[.pointer (some ⟨g, 0, none⟩), .int .i64 tx] w fun e w' => e = .returned (.tuple #[l.val, .bool true]) ∧ Below w.heap.size w w' := by
  have hb0 : Below w.heap.size w (w.alloc (.cells #[.int .i64 0, .int .i64 0, .int .i64 0] 67)) := (Below.refl _ _).alloc (Nat.le_refl _) _
  obtain ⟨A2, c2, rfl⟩ := own_slice T.waits
  have C := hide (waiting_any lo g _ _ H W tx _ (T.below hb0) hm)
  rw [hn] at C
  have hB := Blk.new w 67 [.int .i64 0, .int .i64 0, .int .i64 0]
  have hil : i < W.length := (List.getElem?_eq_some_iff.1 hi).1
  have HT := hide (fun w1 (hb : Below w.heap.size w w1) => T.below hb)
  have HI := Lib.hid hi
  obtain ⟨nw, hnw⟩ : ∃ nw, W.length = nw := ⟨_, rfl⟩
  have HN := Lib.hid hnw
  rw [hnw] at hil hm
  clear T hi hn
  obtain ⟨l1, l2, l3⟩ := l
  unfold HOp.val
  go_enter Tryz.func64, Tryz.ntmps64
  go_wp2_with fail
  refine (unhide C).mono ?_
  rintro e w1 ⟨rfl, hb1⟩
  have hB1 := hB.below hb1 (by simp)
  have c0 := hB1.cellS (i := 0) (v := .int .i64 0) rfl
  have c1 := hB1.cellS (i := 1) (v := .int .i64 0) rfl
  have c2' := hB1.cellS (i := 2) (v := .int .i64 0) rfl
  have f0 := hB1.frozen 0
  have f1 := hB1.frozen 1
  have f2 := hB1.frozen 2
  have hbw := hb0.trans (hb1.mono hb0.size)
  have hT1 := unhide HT _ hbw
  rw [HN.out] at hT1
  have q1 := hT1.blk.cellS (i := 1) (v := .slice A2 nw c2) rfl
  have hW1 := hT1.waits
  rw [HN.out] at hW1
  have hR1 := rd_own hW1
  obtain ⟨b, off, o, he, hb, ho, z0, z1, z2⟩ := hR1.op (k := i) hil
  cases he
  obtain rfl : (⟨l1, l2, l3⟩ : HOp) = o := Option.some.inj (HI.out.symm.trans ho)
  simp only at z0 z1 z2
  have hB2 := ((hB1.put 0 (.int .i64 l1)).put 1 (.int .i64 l2)).put 2 (.int .i64 l3)
  have r0 := hB2.cellS (i := 0) (v := .int .i64 l1) rfl
  have r1 := hB2.cellS (i := 1) (v := .int .i64 l2) rfl
  have r2 := hB2.cellS (i := 2) (v := .int .i64 l3) rfl
  have hbw2 := ((hbw.setCell (p := ⟨w.heap.size, 0, none⟩) (Nat.le_refl _) (.int .i64 l1)).setCell (p := ⟨w.heap.size, 1, none⟩) (Nat.le_refl _) (.int .i64 l2)).setCell (p := ⟨w.heap.size, 2, none⟩) (Nat.le_refl _) (.int .i64 l3)
  clear hB2 hbw hT1 hR1 ho hW1
  go_wp2
  refine bodyPost_ret (v := .tuple #[.agg #[.int .i64 l1, .int .i64 l2, .int .i64 l3], .bool true]) (by simp [results, Tryz.results64, go_sem, r0, r1, r2]) rfl ?_
  exact ⟨rfl, hbw2⟩

set_option maxHeartbeats 1000000 in
theorem forWhom_any {way : Int} {lo : Nat} {s : RSt} {L : RLay} {tag : Nat → Int × Nat} (tx : Int) (w : World) (H : SHeap way lo w s L tag) :
    Calls Tryz.prog 45 #[.pointer (some ⟨L.g, 0, none⟩), .int .i64 tx] w fun e w' => ∃ v, e = .returned (.tuple #[v, .nilIface]) ∧ w'.ownsRow w.heap.size 3 1 v (whomF s.T tx).length (cellsI (whomF s.T tx)) ∧ Below w.heap.size w w' := by
  have hI := H.tab.2.2.2
  have hW6 := linv_waits hI
  have hH36 := linv_held hI
  have hT := H.tab.1
  obtain ⟨_, k1, _⟩ := H.cells
  have hgl := H.run.1.lt
  have HK1 := hide (fun w' (hb : Below w.heap.size w w') => (H.below hb).cells.2.1)
  have HLT := hide (fun w' (hb : Below w.heap.size w w') => (H.below hb).tab.1)
  rcases find_idx (W := s.T.W) (tx := tx) with ⟨h1, h2⟩ | ⟨i, l, h1, h2, h3⟩
  · have C := hide (lwaiting_no lo L.gt L.vH L.vW s.T.H s.T.W tx w hT (by omega) h2)
    have e1 : whomF s.T tx = [] := by unfold whomF; rw [h1]
    rw [e1]
    unfold HOp.val at C
    clear h1 h2 hT hI H HLT
    go_enter Tryz.func45, Tryz.ntmps45
    go_wp2_with fail
    refine (unhide C).mono ?_
    rintro e w1 ⟨rfl, hb1⟩
    have hbw := hb1.alloc hb1.size (.cells #[.int .i64 0, .int .i64 0, .int .i64 0] 67)
    go_wp2
    go_ret2
    exact ⟨_, rfl, World.ownsRow_nil _ _ _ _, hbw⟩
  · have C := hide (lwaiting_yes lo L.gt L.vH L.vW s.T.H s.T.W tx i l w hT (by omega) h2 h3)
    have e1 : whomF s.T tx = forF s.T l := by unfold whomF; rw [h1]
    rw [e1]
    have hR := hI.rightW l (List.mem_of_getElem? h2)
    have CF := hide (fun w1 (hb : Below w.heap.size w w1) => lfor_walk lo L.gt L.vH L.vW s.T.H s.T.W l w1 (unhide HLT w1 hb) (by omega) (by omega) hR)
    generalize hq : forF s.T l = q at *
    obtain ⟨l1, l2, l3⟩ := l
    unfold HOp.val at C CF
    clear h1 h2 h3 hT hI H hR hq HLT
    go_enter Tryz.func45, Tryz.ntmps45
    go_wp2_with fail
    refine (unhide C).mono ?_
    rintro e w1 ⟨rfl, hb1⟩
    have hB1 := Blk.new w1 67 [.int .i64 l1, .int .i64 l2, .int .i64 l3]
    have c0 := hB1.cellS (i := 0) (v := .int .i64 l1) rfl
    have c1 := hB1.cellS (i := 1) (v := .int .i64 l2) rfl
    have c2 := hB1.cellS (i := 2) (v := .int .i64 l3) rfl
    have hbw := hb1.alloc hb1.size (.cells #[.int .i64 l1, .int .i64 l2, .int .i64 l3] 67)
    have k2 := unhide HK1 _ hbw
    have hg1 : L.g < w1.heap.size := Nat.lt_of_lt_of_le hgl hb1.size
    have hbwd := hbw.drew
    go_wp2_with fail
    go_region_with (first | (go_at_call 65; refine (unhide CF _ hbwd).mono ?_; rintro e w3 ⟨v, rfl, ho3, hb3⟩; skip))
    all_goals
      have ho4 := own_mono ho3 hbwd.size
      have hbw3 := hbwd.trans (hb3.mono hbwd.size)
      go_wp2
      go_ret2
      exact ⟨v, rfl, ho4, hbw3⟩
end Go.Proofs.YtbccnafdfeempaaGreatDoor


namespace Go.Proofs.YtbccnafdfeempaaGreatDoor
open Go.RowKit

def lenQ : Value → Nat
  | .slice _ n _ => n
  | _ => 0
theorem run_qapp2 {P : Program} {w : World} {t ty e : TypeId} {base : Nat} (T : SlT P t e 1 8) {v : Value} {l : List Int} (h : QOwn w base e v l) {ad : Addr} {c1 : Nat} {x : Int} (hx : w.cell? ad = some (.int .i64 x)) (hb : (l.length + 1) * 8 ≤ 140737488355328) (hbase : base ≤ w.heap.size) :
    ∃ v' w', (Builtin.append_ #[t, t] ty #[v, .slice (some ad) 1 c1]).run P w = .ok v' w' ∧ QOwn w' base e v' (l ++ [x]) ∧ w.grownBy w' v.ownBlock ∧ (v'.ownBlock = v.ownBlock ∨ ∃ k, v'.ownBlock = some k ∧ w.heap.size ≤ k) := by
  obtain ⟨v', w', hrun, hq, hbl⟩ := run_qapp (P := P) (ty := ty) (c1 := c1) T h hx hb hbase
  refine ⟨v', w', hrun, hq, ?_⟩
  obtain ⟨i, z, ht, hi, hz, hsize, hby, hzs, h0, hb0, _⟩ := T
  obtain ⟨g, o, c, cur, rfl, h2, h3, h4, h5, h6, h7⟩ := h
  have hnews : ∀ (j : Nat) (u : Value), ([Value.int .i64 x] : List Value)[j]? = some u → w.cell? (ad.add j) = some u := by
    intro j u hu
    cases j with
    | zero => simp at hu; rw [← hu]; exact hx
    | succ j => simp at hu
  by_cases hroom : l.length + 1 ≤ c
  · have hr := run_append_room_cells (P := P) (w := w) t ty e i ht hi g o l.length c ad 1 c1 [.int .i64 x] (by simp [hsize]) hnews (one1 rfl) hroom
      (fun j hj => by
        have hj0 : j = 0 := by simpa using hj
        subst hj0
        have : o + l.length < cur.size := by omega
        simp [World.cell?, h3, hsize, this])
      (fun j hj => by simp [World.frozen?, h3])
    rw [hrun] at hr
    injection hr with e1 e2
    subst e1 e2
    refine ⟨⟨rfl, rfl, rfl, by simp [World.setCells, World.setCell], fun k hk hne => ?_⟩, .inl rfl⟩
    have hk2 : k ≠ g := fun e => hne (by rw [e]; rfl)
    simp only [World.setCells]
    exact Below.heap_setCell _ _ _ k hk2
  · have holds : ∀ j u, (cellsI l)[j]? = some u → w.cell? ((⟨g, o, none⟩ : Addr).add j) = some u := by
      intro j u hu
      rw [cellsI, List.getElem?_map] at hu
      cases hy : l[j]? with
      | none => rw [hy] at hu; cases hu
      | some y =>
        rw [hy] at hu
        have hj := h7 j y hy
        unfold Addr.add
        split
        · next h => subst h; simp only [Nat.add_zero] at hj; simp only [World.cell?, h3, hj]; exact hu
        · simp only [World.cell?, h3, hj]; exact hu
    obtain ⟨v2, w2, hr, h8, h9⟩ := run_append_arg_grows (P := P) (w := w) t ty e i z 1 8 ht hi hz hsize hby hzs (by omega) ⟨g, o, none⟩ l.length c (cellsI l) (by simp [cellsI]) holds ad 1 c1 [.int .i64 x] (by simp) hnews (by omega) (by unfold maxLen; omega) hb
    rw [hrun] at hr
    injection hr with e1 e2
    subst e1 e2
    refine ⟨⟨h9.os, h9.tape, h9.output, h9.size, fun k hk _ => h9.block k hk (by simp)⟩, .inr ?_⟩
    rcases h8.2 with ⟨_, h0⟩ | ⟨k, cap, cur', rfl, hk, _⟩
    · omega
    · exact ⟨k, rfl, hk⟩
theorem wpList_qapp2 {P : Program} {w : World} {ops : Array Oper} {rest : List Oper} {o : Oper} {a : Act} {Q : Exit → Act → World → Prop} (hgd : o.guard = none) (s x : Operand) (t : TypeId)
    (ho : o.op = .call { callee := .builtin .append, args := #[s, x], argTypes := #[t, t] })
    {e : TypeId} (base : Nat) (T : SlT P t e 1 8) {v : Value} {l : List Int} (hs : a.eval s = v) (hown : QOwn w base e v l) {ad : Addr} {c1 : Nat} {y : Int} (hx : a.eval x = .slice (some ad) 1 c1) (hc : w.cell? ad = some (.int .i64 y))
    (hb : (l.length + 1) * 8 ≤ 140737488355328) (hbase : base ≤ w.heap.size)
    (h : ∀ v' w', QOwn w' base e v' (l ++ [y]) → w.grownBy w' v.ownBlock → (v'.ownBlock = v.ownBlock ∨ ∃ k, v'.ownBlock = some k ∧ w.heap.size ≤ k) → wpList P ops Q rest (a.put o.dst v') w') : wpList P ops Q (o :: rest) a w :=
  wpList_plain hgd fun _ hK => by
    obtain ⟨v', w', hrun, h2, h3, h4⟩ := run_qapp2 (P := P) (ty := o.type) (c1 := c1) T hown hc hb hbase
    unfold Oper.wp execOp
    simp only [ho, resolve, invoke, builtin, Sem.run_bind, Sem.run_pure, Result.andThen_ok, List.map_toArray, List.map_cons, List.map_nil, hs, hx, hrun]
    exact hK _ _ (h v' w' h2 h3 h4)
theorem QOwn.lt {w : World} {base : Nat} {e : TypeId} {v : Value} {l : List Int} (h : QOwn w base e v l) {k : Nat} (hk : v.ownBlock = some k) : base ≤ k ∧ k < w.heap.size := by
  obtain ⟨g, o, c, cur, rfl, h2, h3, _⟩ := h
  obtain rfl : g = k := Option.some.inj hk
  exact ⟨h2, (Array.getElem?_eq_some_iff.1 h3).1⟩

set_option maxHeartbeats 1000000 in
theorem least_any (A : Option Addr) (n c : Nat) (l : List Int) (b : Int) (w : World) (hr : Rd w w.heap.size 1 A n (cellsI l)) (hm : n ≤ 1000) :
    Calls Tryz.prog 46 #[.slice A n c, .int .i64 b] w fun e w' => e = .returned (.int .i64 ((l.find? fun d => decide (b < d)).getD 0)) ∧ Below w.heap.size w w' := by
  have hl : l.length = n := by have := hr.1; simpa [cellsI] using this
  have HL := Lib.hid hl
  obtain ⟨q, hq⟩ : ∃ q, (l.find? fun d => decide (b < d)).getD 0 = q := ⟨_, rfl⟩
  have HQ := Lib.hid hq
  rw [hq]
  clear hq hl
  go_enter Tryz.func46, Tryz.ntmps46
  go_wp2
  go_loopw [9] (fun i wr => ∃ k : Nat, k ≤ n ∧ i = .int .i64 k ∧ Hid (q = ((l.drop k).find? fun d => decide (b < d)).getD 0) ∧ Below w.heap.size w wr) (fun i _ => n - (intOf i).toNat)
  case atStart => exact ⟨0, Nat.zero_le _, rfl, Lib.hid HQ.out.symm, Below.refl _ _⟩
  case round =>
    obtain ⟨k, hk, rfl, HE, hbw⟩ := hrel
    by_cases hlt : k < n
    · obtain ⟨b1, o1, d, he, hb1, hd, z0⟩ := (hr.below hbw).int (k := k) hlt
      cases he
      have HD : Hid (l.drop k = d :: l.drop (k + 1)) := drop_at hd
      clear hd
      by_cases hbd : b < d
      · have HF : Hid (q = d) := Lib.hid (by rw [HE.out, HD.out, List.find?_cons_of_pos (by simpa using hbd)]; rfl)
        clear HE HD
        go_wp2
        go_ret
        exact ⟨by rw [HF.out]; rfl, hbw⟩
      · have HE2 : Hid (q = ((l.drop (k + 1)).find? fun d => decide (b < d)).getD 0) := Lib.hid (by rw [HE.out, HD.out, List.find?_cons_of_neg (by simpa using hbd)])
        clear HE HD
        go_wp2
        go_roundw
        case rel => exact ⟨k + 1, by omega, by go_num, HE2, hbw⟩
        case measure => simp [intOf]; omega
    · have HF : Hid (q = 0) := Lib.hid (by rw [HE.out, drop_end (by rw [HL.out]; omega)]; rfl)
      clear HE
      go_wp2
      go_ret
      exact ⟨by rw [HF.out]; rfl, hbw⟩

set_option maxRecDepth 100000 in
set_option maxHeartbeats 4000000 in
theorem ring_any {way : Int} {lo : Nat} {s : RSt} {L : RLay} {tag : Nat → Int × Nat} (tx : Int) (w : World) (H : SHeap way lo w s L tag) :
    Calls Tryz.prog 43 #[.pointer (some ⟨L.g, 0, none⟩), .int .i64 tx] w fun e w' => e = .returned (.tuple #[.bool (rngF s.T tx), .nilIface]) ∧ Below w.heap.size w w' := by
  have hI := H.tab.2.2.2
  have C := hide (fun (d : Int) w1 (hb : Below w.heap.size w w1) => forWhom_any d w1 (H.below hb))
  have HRG := hide (fun (x d : Int) (h : d ∈ whomF s.T x) => whomF_rng hI h)
  have hmapT : Tryz.prog.underlying 56 = some (.map 3 4) := by kernel_rfl
  have hintT : Tryz.prog.underlying 3 = some (.int .i64) := by kernel_rfl
  have hzT : ∀ w, (zeroValue 4).run Tryz.prog w = .ok (.bool false) w := fun w => by kernel_rfl
  have HT := Lib.hid (And.intro hmapT (And.intro hintT hzT))
  have HRF : Hid (rngF s.T tx = rngGo s.T tx 8 [] [tx]) := Lib.hid rfl
  generalize rngF s.T tx = R at *
  generalize s.T = T at *
  have HLN := hide (fun (x : Int) => whomF_len hI x)
  clear hI hmapT hintT hzT H
  generalize L.g = g0 at *
  have hmm := @run_makeMap Tryz.prog
  go_enter Tryz.func43, Tryz.ntmps43
  go_wp2
  have hM0 : MapI ((w.alloc (.map #[] 0)).alloc (.cells #[.int .i64 tx] 3)) w.heap.size (mpT []) := by
    have := (MapI.new w).alloc (.cells #[.int .i64 tx] 3)
    simpa [mpT] using this
  have hQ0 := QOwn.start (base := w.heap.size + 1) (w.alloc (.map #[] 0)) 3 tx (by simp)
  rw [show (w.alloc (.map #[] 0)).heap.size = w.heap.size + 1 by simp] at hQ0
  have hbw0 : Below w.heap.size w ((w.alloc (.map #[] 0)).alloc (.cells #[.int .i64 tx] 3)) := ((Below.refl _ _).alloc (Nat.le_refl _) _).alloc (by simp) _
  clear hmm
  generalize (w.alloc (.map #[] 0)).alloc (.cells #[.int .i64 tx] 3) = w1 at *
  have hgs : w.heap.size ≤ w.heap.size := Nat.le_refl _
  go_loopw [7] (fun s7 wr => ∃ (f : Nat) (sn row : List Int), QOwn wr (w.heap.size + 1) 3 s7 row ∧ MapI wr w.heap.size (mpT sn) ∧ sn.Nodup ∧ (∀ x ∈ sn, 1 ≤ x ∧ x ≤ 6) ∧ sn.length ≤ 6 ∧ 6 - sn.length + row.length ≤ f ∧ f ≤ 8 ∧ Hid (R = rngGo T tx f sn row) ∧ Below w.heap.size w wr) (fun s7 wr => 6 - mcount wr w.heap.size + lenQ s7)
  case atStart => exact ⟨8, [], [tx], hQ0, hM0, List.nodup_nil, (fun x h => by cases h), Nat.zero_le _, (show 6 - 0 + 1 ≤ 8 by omega), Nat.le_refl _, HRF, hbw0⟩
  case round =>
    clear hQ0 hM0 hbw0 HRF
    obtain ⟨f, sn, row, hQ, hM, hnd, hrg, hs6, hfu, hf8, HB, hbw⟩ := hrel
    obtain ⟨ad, c, rfl, hlc, hRd⟩ := hQ.rd
    cases row with
    | nil =>
      have HF : Hid (R = false) := Lib.hid (by
        rw [HB.out]
        cases f <;> rfl)
      clear hRd hQ hM hlc
      go_wp2
      go_ret2
      exact ⟨by rw [HF.out]; rfl, hbw⟩
    | cons x r =>
      obtain ⟨f', rfl⟩ : ∃ f', f = f' + 1 := ⟨f - 1, by simp at hfu; omega⟩
      have HB2 : Hid (R = match rngIn tx sn (x :: r) (whomF T x) with | none => true | some q => rngGo T tx f' q.1 q.2.tail) := Lib.hid (HB.out.trans rfl)
      have HMC := Lib.hid (mcount_map hM)
      have hgo := hM.lt
      clear HB
      obtain ⟨wo, rfl⟩ : ∃ wo : World, wo = wr := ⟨_, rfl⟩
      obtain ⟨n0, hn0⟩ : ∃ n0, (x :: r).length = n0 := ⟨_, rfl⟩
      obtain ⟨b0, o0, x0, he, hb0', hx0, q0⟩ := hRd.int (k := 0) (by simp)
      cases he
      obtain rfl : x = x0 := by simpa using hx0
      rw [Nat.add_zero] at q0
      have CW := hide (unhide C x wo hbw)
      have HRX := hide (fun d hd => unhide HRG x d hd)
      have hE6 := unhide HLN x
      generalize whomF T x = E at *
      rw [hn0] at hlc hfu hRd
      rw [hn0]
      have hnr : n0 = r.length + 1 := by rw [← hn0]; rfl
      have HNR := Lib.hid hnr
      have hn8 : n0 ≤ 8 := by omega
      have hn1 : 0 < n0 := by omega
      have hfu2 : 6 - sn.length + r.length ≤ f' := by omega
      clear hn0 hnr hRd hfu hx0
      go_wp2_with fail
      refine (unhide CW).mono ?_
      rintro e w2 ⟨vE, rfl, hoE, hb2⟩
      obtain ⟨AE, cE, rfl⟩ := own_slice hoE
      have hQ2 := hQ.below hb2
      have hM2 := hM.below hb2 hM.lt
      have hbw2 := hbw.trans (hb2.mono hbw.size)
      have HNE0 : Hid (∀ k, (Value.slice (some ⟨b0, o0, none⟩) n0 c).ownBlock = some k → (Value.slice AE E.length cE).ownBlock = some k → False) := Lib.hid (fun k hk h2 => by
        have h3 := (hQ.lt (by simpa [Value.ownBlock] using hk)).2
        have h4 := (hoE.lt k h2).1
        omega)
      have hEl : E.length = E.length := rfl
      have HEL := Lib.hid (show ∃ nE, E.length = nE from ⟨_, rfl⟩)
      obtain ⟨nE, hnE⟩ := HEL.out
      rw [hnE] at hoE HNE0 hE6
      rw [hnE]
      have HN6 := Lib.hid hnE
      clear CW hnE hEl HEL hQ hM hbw
      go_wp2
      go_loopw [7, 33] (fun s7 s33 wx => ∃ (i : Nat) (sn2 rr : List Int), i ≤ nE ∧ s33 = .int .i64 i ∧ QOwn wx (w.heap.size + 1) 3 s7 (x :: rr) ∧ MapI wx w.heap.size (mpT sn2) ∧ sn2.Nodup ∧ (∀ y ∈ sn2, 1 ≤ y ∧ y ≤ 6) ∧ sn2.length ≤ 6 ∧ sn.length ≤ sn2.length ∧ sn2.length + r.length = sn.length + rr.length ∧
          Hid (rngIn tx sn (x :: r) E = rngIn tx sn2 (x :: rr) (E.drop i)) ∧ wx.ownsRow wo.heap.size 3 1 (.slice AE nE cE) nE (cellsI E) ∧ Hid (∀ k, s7.ownBlock = some k → (Value.slice AE nE cE).ownBlock ≠ some k) ∧ Below w.heap.size w wx) (fun _ s33 _ => nE - (intOf s33).toNat)
      case atStart => exact ⟨0, sn, r, Nat.zero_le _, rfl, by first | exact hQ2 | (rw [HNR.out]; exact hQ2), hM2, hnd, hrg, hs6, Nat.le_refl _, rfl, rfl, hoE, Lib.hid (fun k hk h => HNE0.out k (by simpa [Value.ownBlock] using hk) h), hbw2⟩
      case round =>
        clear hQ2 hM2 hbw2 hoE HNE0
        obtain ⟨i, sn2, rr, hi, rfl, hQ, hM, hnd2, hrg2, hs62, hle2, hcnt, HI, hoE, HNE, hbx⟩ := hrel
        obtain ⟨ad2, c2, rfl, hlc2, hRd2⟩ := hQ.rd
        have hm8 : rr.length + 1 ≤ 8 := by omega
        rw [List.length_cons] at hlc2 HNE ⊢
        by_cases hin : i < nE
        · obtain ⟨be, oe, d, he, hbe, hd, z0⟩ := (rd_own hoE).int (k := i) hin
          cases he
          have hdr := unhide HRX d (List.mem_of_getElem? hd)
          have HS1 := Lib.hid (rngIn_step (tx := tx) (sn := sn2) (row := x :: rr) (drop_at hd))
          clear hd hRd2
          by_cases hdt : d = tx
          · subst hdt
            have HF : Hid (R = true) := Lib.hid (by rw [HB2.out, HI.out, HS1.out, if_pos rfl])
            clear HI HS1
            go_wp2
            go_ret2
            exact ⟨by rw [HF.out]; rfl, hbx⟩
          · have hdtb : (d == tx) = false := by simpa using hdt
            by_cases hds : d ∈ sn2
            · have HI2 : Hid (rngIn tx sn (x :: r) E = rngIn tx sn2 (x :: rr) (E.drop (i + 1))) := Lib.hid (by rw [HI.out, HS1.out, if_neg hdt, if_pos hds])
              have HV := Lib.hid (decide_eq_true hds)
              clear hds HI HS1
              go_wp2_with ((with_reducible show wpList _ _ _ _ _ _); (refine wpList_hasI rfl (.tmp 40) (.tmp 41) _ rfl HT.out.1 HT.out.2.1 (l := sn2) (k := d) (b := w.heap.size) hM HT.out.2.2 rfl rfl ?_; rw [HV.out]))
              go_roundw
              case rel => exact ⟨i + 1, sn2, rr, by omega, by go_num, hQ, hM, hnd2, hrg2, hs62, hle2, hcnt, HI2, hoE, HNE, hbx⟩
              case measure => simp [intOf]; omega
            · have HI2 : Hid (rngIn tx sn (x :: r) E = rngIn tx (sn2 ++ [d]) (x :: (rr ++ [d])) (E.drop (i + 1))) := Lib.hid (by rw [HI.out, HS1.out, if_neg hdt, if_neg hds]; rfl)
              have HV := Lib.hid (decide_eq_false hds)
              have HVT := Lib.hid hds
              have hnd3 : (sn2 ++ [d]).Nodup := List.nodup_append.2 ⟨hnd2, (by simp), fun a ha b hb e => hds (by rw [← List.mem_singleton.1 hb, ← e]; exact ha)⟩
              have hrg3 : ∀ y ∈ sn2 ++ [d], 1 ≤ y ∧ y ≤ 6 := fun y hy => by
                rcases List.mem_append.1 hy with hy | hy
                · exact hrg2 y hy
                · rw [List.mem_singleton.1 hy]; exact hdr
              have hl3 := len_nodup_six hnd3 hrg3
              have hln3 : (sn2 ++ [d]).length = sn2.length + 1 := by simp
              have hgx := hM.lt
              clear hds HI HS1
              go_wp2_with (first
                | ((with_reducible show wpList _ _ _ _ _ _); (refine wpList_hasI rfl (.tmp 40) (.tmp 41) _ rfl HT.out.1 HT.out.2.1 (l := sn2) (k := d) (b := w.heap.size) hM HT.out.2.2 rfl rfl ?_; rw [HV.out]))
                | ((with_reducible show wpList _ _ _ _ _ _); (refine wpList_updateI rfl (.tmp 44) (.tmp 45) (.const (.bool true)) _ rfl HT.out.1 HT.out.2.1 (b := w.heap.size) (m := mpT sn2) (k := d) (u := .bool true) hM rfl rfl rfl ?_; intro w4 hM4 hg4; rw [putI_mpT _ _ HVT.out] at hM4; have hz4 := hg4.size; have hQ4 := hQ.kept (w' := w4) (fun g hg1 hg2 => hg4.block g hg2 (by simp; omega)); have hoE4 := own_same hoE (w' := w4) (fun k hk => hg4.block k (hoE.lt k hk).2 (by have := (hoE.lt k hk).1; simp; omega))))
                | (at_builtin; (refine wpList_qapp2 rfl (.tmp 46) (.tmp 48) _ rfl (w.heap.size + 1) slt_int (v := .slice (some ad2) (rr.length + 1) c2) (l := x :: rr) (y := d) rfl (hQ4.alloc _) rfl (by first | (simp; done) | (rw [World.cell?_alloc_at _ _ _ _ (by simp)]; rfl)) (by simp; omega) (by simp; omega) ?_; intro v5 w5 hQ5 hg5 hn5)))
              have hz5 := hg5.size
              simp at hz5
              have hoE5 : w5.ownsRow wo.heap.size 3 1 (.slice (some ⟨be, oe, none⟩) nE cE) nE (cellsI E) := (own_alloc hoE4 (.cells #[.int .i64 d] 3)).kept hg5 (by
                cases hv : (Value.slice (some ⟨be, oe, none⟩) nE cE).ownBlock with
                | none => exact .inl rfl
                | some k => exact .inr fun e => HNE.out k e.symm hv)
              have hM5 := (hM4.alloc (.cells #[.int .i64 d] 3)).grown hg5 (fun k hk e => by
                have := (hQ4.lt (k := k) (by simpa [Value.ownBlock] using hk)).1
                omega)
              have HNE5 : Hid (∀ k, v5.ownBlock = some k → (Value.slice (some ⟨be, oe, none⟩) nE cE).ownBlock ≠ some k) := Lib.hid (fun k hk h => by
                rcases hn5 with e | ⟨j, e, hj⟩
                · exact HNE.out k (e.symm.trans hk) h
                · have h3 := (hoE4.lt k h).2
                  have := Option.some.inj (e.symm.trans hk)
                  simp at hj
                  omega)
              have hbw4 : Below w.heap.size w w4 := hbx.trans (below_grown hg4 (Nat.le_refl _) hbx.size)
              have hbw5 : Below w.heap.size w w5 := (hbw4.alloc hbw4.size (.cells #[.int .i64 d] 3)).grown hg5 (by have := hbw4.size; simp; omega) (fun k hk => by have := (hQ4.lt (k := k) (by simpa [Value.ownBlock] using hk)).1; omega)
              go_roundw
              case rel => exact ⟨i + 1, sn2 ++ [d], rr ++ [d], by omega, by go_num, hQ5, hM5, hnd3, hrg3, hl3, by omega, by simp; omega, HI2, hoE5, HNE5, hbw5⟩
              case measure => simp [intOf]; omega
        · have HB3 : Hid (R = rngGo T tx f' sn2 rr) := Lib.hid (by
            have e : E.drop i = [] := drop_end (by rw [HN6.out]; omega)
            rw [HB2.out, HI.out, e, rngIn]; rfl)
          obtain ⟨_, hc1, htA, htB⟩ := hQ.tail
          rw [List.length_cons, Nat.add_sub_cancel] at htA htB
          have hfin : 6 - sn2.length + rr.length ≤ f' := by omega
          have HM2 := Lib.hid (mcount_map hM)
          have HCN := Lib.hid (And.intro hcnt (And.intro hle2 (And.intro hs62 hs6)))
          have hl1 : (1 : Int) ≤ (rr.length : Int) + 1 := by omega
          have hl2 : (rr.length : Int) + 1 ≤ (c2 : Int) := by omega
          by_cases hc1' : c2 = 1
          · have hQ' := htA hc1'
            subst hc1'
            have hr0 : rr.length = 0 := by omega
            clear htA htB HI hcnt hQ hRd2 hoE
            obtain rfl : rr = [] := List.eq_nil_of_length_eq_zero hr0
            go_wp2
            go_roundw
            case rel => exact ⟨f', sn2, [], by simpa using hQ', hM, hnd2, hrg2, hs62, hfin, by omega, HB3, hbx⟩
            case measure => rw [HM2.out, HMC.out, mpT_length, mpT_length]; simp [lenQ]; have h1 := HCN.out; have h2 := HNR.out; simp at h1; omega
          · have hQ' := htB hc1'
            clear htA htB HI hcnt hQ hRd2 hoE
            go_wp2
            go_roundw
            case rel => exact ⟨f', sn2, rr, by simpa using hQ', hM, hnd2, hrg2, hs62, hfin, by omega, HB3, hbx⟩
            case measure => rw [HM2.out, HMC.out, mpT_length, mpT_length]; simp [lenQ]; have h1 := HCN.out; have h2 := HNR.out; omega
end Go.Proofs.YtbccnafdfeempaaGreatDoor

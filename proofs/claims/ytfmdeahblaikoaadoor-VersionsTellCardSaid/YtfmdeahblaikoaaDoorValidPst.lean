
/-
  THE STATE OF valid.Play's walk: a run's heap, what lies beside it, and what each of its steps makes of it.
-/
import Derived.Test.YtfmdeahblaikoaaDoorValidF

namespace Go.Proofs.YtfmdeahblaikoaaDoor
open Go.RowKit

structure PSt (tk tl : TypeId) (w0 w : World) (gm gl : Nat) (temps : List (Nat × TypeId × List Value)) (s : VSt) (L : VLay) (tag : Nat → Int × Nat) : Prop where
  heap : VHeap (vT tk tl) w0.heap.size w s L tag
  gm : L.gm = gm
  gl : L.gl = gl
  temps : ∀ x ∈ temps, Blk w x.1 x.2.1 x.2.2 ∧ tag x.1 = (0, 9)
  old : ∀ b, b < w0.heap.size → tag b = (0, 9)
  below : Below w0.heap.size w0 w
  kp : L.kp.map (·.1) = if tk = tl then none else some w0.heap.size
def updL {α : Type} (f : Int → α) (t : Int) (x : α) : Int → α := fun u => if u = t then x else f u
theorem updL_self {α : Type} (f : Int → α) (t : Int) (x : α) : updL f t x t = x := if_pos rfl
theorem updL_ne {α : Type} (f : Int → α) {t u : Int} (x : α) (h : u ≠ t) : updL f t x u = f u := if_neg h
section
variable {tk tl : TypeId} {w0 w w' w1 w2 w3 w4 : World} {gm gl : Nat} {temps : List (Nat × TypeId × List Value)} {s s' : VSt} {L L' : VLay} {tag tag' : Nat → Int × Nat} {S : Int × Nat → Prop}
theorem PSt.step (P : PSt tk tl w0 w gm gl temps s L tag) (hb : But w.heap.size tag S w w') (hS : ¬ S (0, 9)) (ht : ∀ k, k < w.heap.size → tag' k = tag k) (H : VHeap (vT tk tl) w0.heap.size w' s' L' tag') (hgm : L'.gm = L.gm) (hgl : L'.gl = L.gl) (hkp : L'.kp.map (·.1) = L.kp.map (·.1)) : PSt tk tl w0 w' gm gl temps s' L' tag' :=
  ⟨H, hgm.trans P.gm, hgl.trans P.gl, fun x hx => by
    obtain ⟨h1, h2⟩ := P.temps x hx
    exact ⟨h1.but hb (by rw [h2]; exact hS), by rw [ht _ h1.lt]; exact h2⟩, fun b hb' => by rw [ht b (Nat.lt_of_lt_of_le hb' P.below.size)]; exact P.old b hb',
    P.below.trans ((hb.toBelow (B := w0.heap.size) P.below.size fun k hk => by rw [P.old k hk]; exact hS)), hkp.trans P.kp⟩
theorem PSt.below' (P : PSt tk tl w0 w gm gl temps s L tag) (hb : Below w.heap.size w w') : PSt tk tl w0 w' gm gl temps s L tag :=
  P.step (S := fun _ => False) (But.below hb (Nat.le_refl _)) id (fun _ _ => rfl) (P.heap.below hb) rfl rfl rfl
/-- A new block beside the run. -/
theorem PSt.temp (P : PSt tk tl w0 w gm gl temps s L tag) (t : TypeId) (cs : List Value) : ∃ tag', PSt tk tl w0 (w.alloc (.cells cs.toArray t)) gm gl ((w.heap.size, t, cs) :: temps) s L tag' := by
  have hb : Below w.heap.size w (w.alloc (.cells cs.toArray t)) := (Below.refl _ _).alloc (Nat.le_refl _) _
  have hb' : But w.heap.size tag (fun _ => False) w (w.alloc (.cells cs.toArray t)) := But.below hb (Nat.le_refl _)
  have ht : ∀ k, k < w.heap.size → (fun k => if k < w.heap.size then tag k else ((0 : Int), 9)) k = tag k := fun k hk => if_pos hk
  have H := P.heap
  have H2 : VHeap (vT tk tl) w0.heap.size (w.alloc (.cells cs.toArray t)) s L (fun k => if k < w.heap.size then tag k else ((0 : Int), 9)) := by
    have hl := H.done.lt
    exact ⟨H.map.but hb' id, (ht _ H.map.lt).trans H.mapM, H.mapL, H.last.but hb' id, (ht _ H.last.lt).trans H.lastM, H.lastL, own_butM H.done hb' fun _ _ => id, fun k hk => (ht _ (hl k hk).2).trans (H.doneM k hk),
      fun d hd => (H.deals d hd).but hb' (fun _ _ => id) ht rfl rfl rfl rfl, H.nodup, H.sub, H.keep.but hb' id id ht⟩
  have P2 := P.step hb' id ht H2 rfl rfl rfl
  refine ⟨_, ⟨P2.heap, P2.gm, P2.gl, fun x hx => ?_, P2.old, P2.below, P2.kp⟩⟩
  rcases List.mem_cons.1 hx with rfl | hx
  · exact ⟨Blk.new w t cs, if_neg (Nat.lt_irrefl _)⟩
  · exact P2.temps x hx
theorem PSt.drop {x : Nat × TypeId × List Value} (P : PSt tk tl w0 w gm gl (x :: temps) s L tag) : PSt tk tl w0 w gm gl temps s L tag :=
  ⟨P.heap, P.gm, P.gl, fun y hy => P.temps y (List.mem_cons_of_mem _ hy), P.old, P.below, P.kp⟩
/-- A deal begins. -/
theorem PSt.new (P : PSt tk tl w0 w1 gm gl temps s L tag) {tx : Int} {k : Nat} (hnew : dget s.ds tx = none) (hl6 : s.last.length = 6) (hb : Below w1.heap.size w1 w2) {v : Value} (ho : w2.ownsRow w1.heap.size 3 1 v 6 (cellsI s.last)) (hb3 : Below w2.heap.size w2 w3)
    (hd : Blk w3 w2.heap.size 87 [.int .i64 tx, .int .i64 k, .int .i64 (-1), .slice none 0 0, .slice none 0 0, v]) (hm : MapI w4 gm (putI (mapD L s.ds) tx (.pointer (some ⟨w2.heap.size, 0, none⟩)))) (hg : w3.grownBy w4 (some gm)) :
    ∃ L' tag', PSt tk tl w0 w4 gm gl temps (openS s k tx) L' tag' ∧ L'.vd = L.vd ∧ L'.g tx = w2.heap.size := by
  have H := P.heap
  obtain ⟨hbd, hnm⟩ := openS_new (k := k) hnew
  have hgm := H.map.lt
  rw [P.gm] at hgm
  have hz2 := hb.size
  have hz3 := hb3.size
  have hlo := P.below.size
  let tag' : Nat → Int × Nat := fun j => if j < w1.heap.size then tag j else if j = w2.heap.size then (tx, 5) else (tx, 8)
  let L' : VLay := { L with g := updL L.g tx w2.heap.size, vs := updL L.vs tx (.slice none 0 0), vw := updL L.vw tx (.slice none 0 0), vp := updL L.vp tx v }
  have ht : ∀ j, j < w1.heap.size → tag' j = tag j := fun j hj => if_pos hj
  have hbut : But w1.heap.size tag (fun m => m = (0, 0)) w1 w4 := (But.below (hb.trans (hb3.mono hz2)) (Nat.le_refl _)).trans (But.grown hg (by omega) fun j hj _ => by
    injection hj with e
    rw [← e, ← P.gm]; exact H.mapM)
  have hsn := (own_mono ho hlo)
  have hd' : DealH (vT tk tl) w0.heap.size w4 L' tag' (begD s k tx) := by
    rw [hbd]
    refine ⟨?_, ?_, ?_, ?_, ?_, ?_, ?_, ?_, ?_⟩
    · show Blk w4 (updL L.g tx w2.heap.size tx) 87 [.int .i64 tx, .int .i64 k, .int .i64 (-1), updL L.vs tx (.slice none 0 0) tx, updL L.vw tx (.slice none 0 0) tx, updL L.vp tx v tx]
      rw [updL_self, updL_self, updL_self, updL_self]
      exact hd.grown hg fun j hj => by injection hj; omega
    · show tag' (updL L.g tx w2.heap.size tx) = (tx, 5)
      rw [updL_self]
      show (if w2.heap.size < w1.heap.size then _ else _) = _
      rw [if_neg (by omega), if_pos rfl]
    · show _ ≤ updL L.g tx w2.heap.size tx
      rw [updL_self]; omega
    · show w4.ownsRow _ _ _ (updL L.vs tx (.slice none 0 0) tx) _ _
      rw [updL_self]; exact World.ownsRow_nil _ _ _ _
    · show ∀ j, (updL L.vs tx (.slice none 0 0) tx).ownBlock = some j → _
      rw [updL_self]; intro j hj; cases hj
    · show w4.ownsRow _ _ _ (updL L.vw tx (.slice none 0 0) tx) _ _
      rw [updL_self]; exact World.ownsRow_nil _ _ _ _
    · show ∀ j, (updL L.vw tx (.slice none 0 0) tx).ownBlock = some j → _
      rw [updL_self]; intro j hj; cases hj
    · show w4.ownsRow _ _ _ (updL L.vp tx v tx) s.last.length _
      rw [updL_self, hl6]
      refine (own_below hsn hb3 (Nat.le_refl _)).kept hg ?_
      cases hv : v.ownBlock with
      | none => exact .inl rfl
      | some j =>
        have := ho.lt j hv
        exact .inr (by simp; omega)
    · show ∀ j, (updL L.vp tx v tx).ownBlock = some j → _
      rw [updL_self]
      intro j hj
      have := ho.lt j hj
      show (if j < w1.heap.size then _ else _) = _
      rw [if_neg (by omega), if_neg (by omega)]
  have H4 : VHeap (vT tk tl) w0.heap.size w4 (openS s k tx) L' tag' := H.add (d' := begD s k tx) (by rw [begD_tx]; exact hnm) rfl rfl rfl rfl (fun t ht2 => by
    rw [begD_tx] at ht2
    exact ⟨updL_ne _ _ ht2, updL_ne _ _ ht2, updL_ne _ _ ht2, updL_ne _ _ ht2⟩) hbut ht (by
      rw [begD_tx, P.gm]
      show MapI w4 gm (putI (mapD L s.ds) tx (.pointer (some ⟨updL L.g tx w2.heap.size tx, 0, none⟩)))
      rw [updL_self]; exact hm) hd'
  exact ⟨L', tag', P.step hbut (by decide) ht H4 rfl rfl rfl, rfl, updL_self _ _ _⟩
/-- A deal saw. -/
theorem PSt.seen (P : PSt tk tl w0 w1 gm gl temps s L tag) {d : Dl} (hd : dget s.ds d.tx = some d) (q : HOp) (hb : Below w1.heap.size w1 w2) {v : Value} (ho : w3.ownsRow w0.heap.size 133 3 v (d.seen.length + 1) (cellsH (d.seen ++ [q]))) (hg : w2.grownBy w3 (L.vs d.tx).ownBlock) (hv : v.ownBlock = (L.vs d.tx).ownBlock ∨ v.ownBlock = some w2.heap.size) :
    ∃ L' tag', PSt tk tl w0 (w3.setCell ⟨L.g d.tx, 3, none⟩ v) gm gl temps { s with ds := dput s.ds { d with seen := d.seen ++ [q] } } L' tag' ∧ L'.vd = L.vd ∧ L'.g = L.g := by
  have H := P.heap
  have hD := H.deals d (dget_tx hd).2
  have hz2 := hb.size
  have hz3 := hg.size
  have hBl := hD.blk.lt
  have hsl := hD.seen.lt
  let tag' : Nat → Int × Nat := fun j => if j < w1.heap.size then tag j else (d.tx, 6)
  let L' : VLay := { L with vs := updL L.vs d.tx v }
  have ht : ∀ j, j < w1.heap.size → tag' j = tag j := fun j hj => if_pos hj
  have hbut : But w1.heap.size tag (fun m => m.1 = d.tx ∧ 5 ≤ m.2 ∧ m.2 < 9) w1 (w3.setCell ⟨L.g d.tx, 3, none⟩ v) :=
    ((But.below hb (Nat.le_refl _)).trans (But.grown hg hz2 fun j hj _ => by rw [hD.seenM j hj]; exact ⟨rfl, by simp, by simp⟩)).trans (But.set (fun _ => by show (tag (L.g d.tx)).1 = _ ∧ 5 ≤ (tag (L.g d.tx)).2 ∧ (tag (L.g d.tx)).2 < 9; rw [hD.blkM]; exact ⟨rfl, by simp, by simp⟩) v)
  have hvM : ∀ j, v.ownBlock = some j → tag' j = (d.tx, 6) := fun j hj => by
    rcases hv with h | h
    · rw [h] at hj
      rw [ht j (hsl j hj).2]; exact hD.seenM j hj
    · rw [h] at hj
      injection hj with e
      show (if j < w1.heap.size then _ else _) = _
      rw [if_neg (by omega)]
  have hbut3 : But w1.heap.size tag (fun m => m = (d.tx, 6)) w1 w3 := (But.below hb (Nat.le_refl _)).trans (But.grown hg hz2 fun j hj _ => hD.seenM j hj)
  have hB3 := hD.blk.but hbut3 (by rw [hD.blkM]; intro e; injection e with _ e; omega)
  have hne : ∀ {x : Value} {m : Nat}, m ≠ 5 → (∀ j, x.ownBlock = some j → tag' j = (d.tx, m)) → ∀ j, x.ownBlock = some j → j ≠ L.g d.tx := fun hm hx j hj e => by
    have := hx j hj
    rw [e, ht _ hBl, hD.blkM] at this
    injection this with _ e2
    exact hm e2.symm
  have hfar : ∀ {e : TypeId} {size : Nat} {x : Value} {n : Nat} {xs : List Value}, w3.ownsRow w0.heap.size e size x n xs → (∀ j, x.ownBlock = some j → j ≠ L.g d.tx) → (w3.setCell ⟨L.g d.tx, 3, none⟩ v).ownsRow w0.heap.size e size x n xs := fun h hx => own_butM (tag := fun j => ((j : Int), 0)) (S := fun m => m = ((L.g d.tx : Int), 0)) h (But.set (N := w3.heap.size) (tag := fun j => ((j : Int), 0)) (S := fun m => m = ((L.g d.tx : Int), 0)) (p := ⟨L.g d.tx, 3, none⟩) (fun _ => rfl) v) fun j hj e => hx j hj (by injection e; omega)
  have hd' : DealH (vT tk tl) w0.heap.size (w3.setCell ⟨L.g d.tx, 3, none⟩ v) L' tag' { d with seen := d.seen ++ [q] } := by
    refine ⟨?_, ?_, hD.blkL, ?_, ?_, ?_, ?_, ?_, ?_⟩
    · have := hB3.put 3 v
      show Blk _ (L.g d.tx) 87 [.int .i64 d.tx, .int .i64 d.began, .int .i64 d.ended, updL L.vs d.tx v d.tx, L.vw d.tx, L.vp d.tx]
      rw [updL_self]; exact this
    · rw [show L'.g d.tx = L.g d.tx from rfl, ht _ hBl]; exact hD.blkM
    · show (w3.setCell ⟨L.g d.tx, 3, none⟩ v).ownsRow _ _ _ (updL L.vs d.tx v d.tx) (d.seen ++ [q]).length _
      rw [updL_self, List.length_append]
      exact hfar ho (hne (by decide) hvM)
    · show ∀ j, (updL L.vs d.tx v d.tx).ownBlock = some j → _
      rw [updL_self]; exact hvM
    · have hM : ∀ j, (L.vw d.tx).ownBlock = some j → tag' j = (d.tx, 7) := fun j hj => by rw [ht j (hD.wrote.lt j hj).2]; exact hD.wroteM j hj
      exact hfar (own_butM hD.wrote hbut3 fun j hj => by rw [hD.wroteM j hj]; intro e; injection e with _ e; omega) (hne (by decide) hM)
    · intro j hj
      rw [ht j (hD.wrote.lt j hj).2]; exact hD.wroteM j hj
    · have hM : ∀ j, (L.vp d.tx).ownBlock = some j → tag' j = (d.tx, 8) := fun j hj => by rw [ht j (hD.snap.lt j hj).2]; exact hD.snapM j hj
      exact hfar (own_butM hD.snap hbut3 fun j hj => by rw [hD.snapM j hj]; intro e; injection e with _ e; omega) (hne (by decide) hM)
    · intro j hj
      rw [ht j (hD.snap.lt j hj).2]; exact hD.snapM j hj
  have H4 := H.put (d' := { d with seen := d.seen ++ [q] }) (L' := L') (List.mem_map.2 ⟨d, (dget_tx hd).2, rfl⟩) rfl rfl rfl rfl (fun _ => rfl) (fun t ht2 => ⟨updL_ne _ _ ht2, rfl, rfl⟩) hbut ht hd'
  exact ⟨L', tag', P.step hbut (fun e => absurd e.2.2 (by decide)) ht H4 rfl rfl rfl, rfl, rfl⟩
/-- A deal wrote. -/
theorem PSt.wrote (P : PSt tk tl w0 w1 gm gl temps s L tag) {d : Dl} (hd : dget s.ds d.tx = some d) (q : Int) (hb : Below w1.heap.size w1 w2) {v : Value} (ho : w3.ownsRow w0.heap.size 3 1 v (d.wrote.length + 1) (cellsI (d.wrote ++ [q]))) (hg : w2.grownBy w3 (L.vw d.tx).ownBlock) (hv : v.ownBlock = (L.vw d.tx).ownBlock ∨ v.ownBlock = some w2.heap.size) :
    ∃ L' tag', PSt tk tl w0 (w3.setCell ⟨L.g d.tx, 4, none⟩ v) gm gl temps { s with ds := dput s.ds { d with wrote := d.wrote ++ [q] } } L' tag' ∧ L'.vd = L.vd ∧ L'.g = L.g := by
  have H := P.heap
  have hD := H.deals d (dget_tx hd).2
  have hz2 := hb.size
  have hz3 := hg.size
  have hBl := hD.blk.lt
  have hsl := hD.wrote.lt
  let tag' : Nat → Int × Nat := fun j => if j < w1.heap.size then tag j else (d.tx, 7)
  let L' : VLay := { L with vw := updL L.vw d.tx v }
  have ht : ∀ j, j < w1.heap.size → tag' j = tag j := fun j hj => if_pos hj
  have hbut : But w1.heap.size tag (fun m => m.1 = d.tx ∧ 5 ≤ m.2 ∧ m.2 < 9) w1 (w3.setCell ⟨L.g d.tx, 4, none⟩ v) :=
    ((But.below hb (Nat.le_refl _)).trans (But.grown hg hz2 fun j hj _ => by rw [hD.wroteM j hj]; exact ⟨rfl, by simp, by simp⟩)).trans (But.set (fun _ => by show (tag (L.g d.tx)).1 = _ ∧ 5 ≤ (tag (L.g d.tx)).2 ∧ (tag (L.g d.tx)).2 < 9; rw [hD.blkM]; exact ⟨rfl, by simp, by simp⟩) v)
  have hvM : ∀ j, v.ownBlock = some j → tag' j = (d.tx, 7) := fun j hj => by
    rcases hv with h | h
    · rw [h] at hj
      rw [ht j (hsl j hj).2]; exact hD.wroteM j hj
    · rw [h] at hj
      injection hj with e
      show (if j < w1.heap.size then _ else _) = _
      rw [if_neg (by omega)]
  have hbut3 : But w1.heap.size tag (fun m => m = (d.tx, 7)) w1 w3 := (But.below hb (Nat.le_refl _)).trans (But.grown hg hz2 fun j hj _ => hD.wroteM j hj)
  have hB3 := hD.blk.but hbut3 (by rw [hD.blkM]; intro e; injection e with _ e; omega)
  have hne : ∀ {x : Value} {m : Nat}, m ≠ 5 → (∀ j, x.ownBlock = some j → tag' j = (d.tx, m)) → ∀ j, x.ownBlock = some j → j ≠ L.g d.tx := fun hm hx j hj e => by
    have := hx j hj
    rw [e, ht _ hBl, hD.blkM] at this
    injection this with _ e2
    exact hm e2.symm
  have hfar : ∀ {e : TypeId} {size : Nat} {x : Value} {n : Nat} {xs : List Value}, w3.ownsRow w0.heap.size e size x n xs → (∀ j, x.ownBlock = some j → j ≠ L.g d.tx) → (w3.setCell ⟨L.g d.tx, 4, none⟩ v).ownsRow w0.heap.size e size x n xs := fun h hx => own_butM (tag := fun j => ((j : Int), 0)) (S := fun m => m = ((L.g d.tx : Int), 0)) h (But.set (N := w3.heap.size) (tag := fun j => ((j : Int), 0)) (S := fun m => m = ((L.g d.tx : Int), 0)) (p := ⟨L.g d.tx, 4, none⟩) (fun _ => rfl) v) fun j hj e => hx j hj (by injection e; omega)
  have hd' : DealH (vT tk tl) w0.heap.size (w3.setCell ⟨L.g d.tx, 4, none⟩ v) L' tag' { d with wrote := d.wrote ++ [q] } := by
    refine ⟨?_, ?_, hD.blkL, ?_, ?_, ?_, ?_, ?_, ?_⟩
    · have := hB3.put 4 v
      show Blk _ (L.g d.tx) 87 [.int .i64 d.tx, .int .i64 d.began, .int .i64 d.ended, L.vs d.tx, updL L.vw d.tx v d.tx, L.vp d.tx]
      rw [updL_self]; exact this
    · rw [show L'.g d.tx = L.g d.tx from rfl, ht _ hBl]; exact hD.blkM
    · have hM : ∀ j, (L.vs d.tx).ownBlock = some j → tag' j = (d.tx, 6) := fun j hj => by rw [ht j (hD.seen.lt j hj).2]; exact hD.seenM j hj
      exact hfar (own_butM hD.seen hbut3 fun j hj => by rw [hD.seenM j hj]; intro e; injection e with _ e; omega) (hne (by decide) hM)
    · intro j hj
      rw [ht j (hD.seen.lt j hj).2]; exact hD.seenM j hj
    · show (w3.setCell ⟨L.g d.tx, 4, none⟩ v).ownsRow _ _ _ (updL L.vw d.tx v d.tx) (d.wrote ++ [q]).length _
      rw [updL_self, List.length_append]
      exact hfar ho (hne (by decide) hvM)
    · show ∀ j, (updL L.vw d.tx v d.tx).ownBlock = some j → _
      rw [updL_self]; exact hvM
    · have hM : ∀ j, (L.vp d.tx).ownBlock = some j → tag' j = (d.tx, 8) := fun j hj => by rw [ht j (hD.snap.lt j hj).2]; exact hD.snapM j hj
      exact hfar (own_butM hD.snap hbut3 fun j hj => by rw [hD.snapM j hj]; intro e; injection e with _ e; omega) (hne (by decide) hM)
    · intro j hj
      rw [ht j (hD.snap.lt j hj).2]; exact hD.snapM j hj
  have H4 := H.put (d' := { d with wrote := d.wrote ++ [q] }) (L' := L') (List.mem_map.2 ⟨d, (dget_tx hd).2, rfl⟩) rfl rfl rfl rfl (fun _ => rfl) (fun t ht2 => ⟨rfl, updL_ne _ _ ht2, rfl⟩) hbut ht hd'
  exact ⟨L', tag', P.step hbut (fun e => absurd e.2.2 (by decide)) ht H4 rfl rfl rfl, rfl, rfl⟩
/-- A deal ends. -/
theorem PSt.ended (P : PSt tk tl w0 w1 gm gl temps s L tag) {d : Dl} (hd : dget s.ds d.tx = some d) (x : Int) : PSt tk tl w0 (w1.setCell ⟨L.g d.tx, 2, none⟩ (.int .i64 x)) gm gl temps { s with ds := dput s.ds { d with ended := x } } L tag := by
  have H := P.heap
  have hD := H.deals d (dget_tx hd).2
  have hBl := hD.blk.lt
  have hbut : But w1.heap.size tag (fun m => m = (d.tx, 5)) w1 (w1.setCell ⟨L.g d.tx, 2, none⟩ (.int .i64 x)) := But.set (fun _ => hD.blkM) _
  have hbut2 : But w1.heap.size tag (fun m => m.1 = d.tx ∧ 5 ≤ m.2 ∧ m.2 < 9) w1 (w1.setCell ⟨L.g d.tx, 2, none⟩ (.int .i64 x)) := hbut.mono fun m hm => by rw [hm]; exact ⟨rfl, by simp, by simp⟩
  have hd' : DealH (vT tk tl) w0.heap.size (w1.setCell ⟨L.g d.tx, 2, none⟩ (.int .i64 x)) L tag { d with ended := x } :=
    ⟨hD.blk.put 2 (.int .i64 x), hD.blkM, hD.blkL, own_butM hD.seen hbut fun j hj => by rw [hD.seenM j hj]; intro e; injection e with _ e; omega, hD.seenM, own_butM hD.wrote hbut fun j hj => by rw [hD.wroteM j hj]; intro e; injection e with _ e; omega, hD.wroteM, own_butM hD.snap hbut fun j hj => by rw [hD.snapM j hj]; intro e; injection e with _ e; omega, hD.snapM⟩
  have H4 := H.put (d' := { d with ended := x }) (L' := L) (List.mem_map.2 ⟨d, (dget_tx hd).2, rfl⟩) rfl rfl rfl rfl (fun _ => rfl) (fun t ht2 => ⟨rfl, rfl, rfl⟩) hbut2 (fun _ _ => rfl) hd'
  exact P.step hbut2 (fun e => absurd e.2.2 (by decide)) (fun _ _ => rfl) H4 rfl rfl rfl
/-- A deal is done. -/
theorem PSt.doneAdd (P : PSt tk tl w0 w1 gm gl temps s L tag) {t : Int} (hex : t ∈ s.ds.map (·.tx)) (hb : Below w1.heap.size w1 w2) {v : Value} (ho : w3.ownsRow w0.heap.size 84 1 v (s.dn.length + 1) (s.dn.map (ptrD L) ++ [ptrD L t])) (hg : w2.grownBy w3 L.vd.ownBlock) (hv : v.ownBlock = L.vd.ownBlock ∨ v.ownBlock = some w2.heap.size) :
    ∃ tag', PSt tk tl w0 w3 gm gl temps { s with dn := s.dn ++ [t] } { L with vd := v } tag' := by
  have H := P.heap
  have hz2 := hb.size
  have hl := H.done.lt
  have ht : ∀ j, j < w1.heap.size → (fun j => if j < w1.heap.size then tag j else ((0 : Int), 2)) j = tag j := fun j hj => if_pos hj
  have hbut : But w1.heap.size tag (fun m => m = (0, 2)) w1 w3 := (But.below hb (Nat.le_refl _)).trans (But.grown hg hz2 fun j hj _ => H.doneM j hj)
  have hM : ∀ k, v.ownBlock = some k → (fun j => if j < w1.heap.size then tag j else ((0 : Int), 2)) k = (0, 2) := fun k hk => by
    rcases hv with h | h
    · rw [h] at hk
      exact (ht k (hl k hk).2).trans (H.doneM k hk)
    · rw [h] at hk
      injection hk with e
      exact if_neg (by omega)
  exact ⟨_, P.step hbut (by decide) ht (H.doneAdd hex hbut ht ho hM) rfl rfl rfl⟩
/-- An item was written. -/
theorem PSt.lastSet (P : PSt tk tl w0 w1 gm gl temps s L tag) (j : Nat) (x : Int) : PSt tk tl w0 (w1.setCell ⟨gl, j, none⟩ (.int .i64 x)) gm gl temps { s with last := s.last.set j x } L tag := by
  have H := P.heap
  have hbut : But w1.heap.size tag (fun m => m = (0, 1)) w1 (w1.setCell ⟨gl, j, none⟩ (.int .i64 x)) := But.set (fun _ => by show tag gl = _; rw [← P.gl]; exact H.lastM) _
  have hl := H.last.put j (.int .i64 x)
  have e : (cellsI s.last).set j (.int .i64 x) = cellsI (s.last.set j x) := by unfold cellsI; rw [List.map_set]
  rw [e, P.gl] at hl
  exact P.step hbut (by decide) (fun _ _ => rfl) (H.lastSet hbut (by rw [P.gl]; exact hl)) rfl rfl rfl
end
end Go.Proofs.YtfmdeahblaikoaaDoor


/-
  THE HEAP OF A RUN (valid.Play): each deal's block, what it saw, what it wrote, what it knew when it began; who is done; who wrote last; the map of those that run; the looks. Blocks carry marks, so that no two things lie in one.
-/
import Derived.Test.YtaaahfbcpgdoiaaGreatDoorQ35
import Derived.Test.YtaaahfbcpgdoiaaGreatDoorQ20
import Derived.Test.YtaaahfbcpgdoiaaGreatDoorQ0

namespace Go.Proofs.YtaaahfbcpgdoiaaGreatDoor
open Go.RowKit

/-- Of the first N blocks none changed but those of some marks. -/
structure But (N : Nat) (tag : Nat → Int × Nat) (S : Int × Nat → Prop) (w w' : World) : Prop where
  os : w'.os = w.os
  tape : w'.tape = w.tape
  output : w'.output = w.output
  size : w.heap.size ≤ w'.heap.size
  block : ∀ k, k < N → ¬ S (tag k) → w'.heap[k]? = w.heap[k]?
section
variable {N : Nat} {tag : Nat → Int × Nat} {S : Int × Nat → Prop} {w w' w'' : World}
theorem But.refl (N : Nat) (tag : Nat → Int × Nat) (S : Int × Nat → Prop) (w : World) : But N tag S w w := ⟨rfl, rfl, rfl, Nat.le_refl _, fun _ _ _ => rfl⟩
theorem But.trans (h : But N tag S w w') (h' : But N tag S w' w'') : But N tag S w w'' :=
  ⟨h'.os.trans h.os, h'.tape.trans h.tape, h'.output.trans h.output, Nat.le_trans h.size h'.size, fun k hk hs => (h'.block k hk hs).trans (h.block k hk hs)⟩
theorem But.below {B : Nat} (h : Below B w w') (hB : N ≤ B) : But N tag S w w' := ⟨h.os, h.tape, h.output, h.size, fun k hk _ => h.block k (Nat.lt_of_lt_of_le hk hB)⟩
theorem But.grown {row : Option Nat} (h : w.grownBy w' row) (hN : N ≤ w.heap.size) (hr : ∀ k, row = some k → k < N → S (tag k)) : But N tag S w w' :=
  ⟨h.os, h.tape, h.output, h.size, fun k hk hs => h.block k (Nat.lt_of_lt_of_le hk hN) (fun e => hs (hr k e.symm hk))⟩
theorem But.set {p : Addr} (hp : p.block < N → S (tag p.block)) (v : Value) : But N tag S w (w.setCell p v) :=
  have h := (Below.refl p.block w).setCell (p := p) (Nat.le_refl _) v
  ⟨h.os, h.tape, h.output, h.size, fun k hk hs => Below.heap_setCell w p v k (fun e => hs (by rw [e]; exact hp (by rw [← e]; exact hk)))⟩
theorem But.mono {S' : Int × Nat → Prop} (h : But N tag S w w') (hs : ∀ m, S m → S' m) : But N tag S' w w' := ⟨h.os, h.tape, h.output, h.size, fun k hk hn => h.block k hk (fun e => hn (hs _ e))⟩
theorem But.toBelow {B : Nat} (h : But N tag S w w') (hB : B ≤ N) (hs : ∀ k, k < B → ¬ S (tag k)) : Below B w w' := ⟨h.os, h.tape, h.output, h.size, fun k hk => h.block k (Nat.lt_of_lt_of_le hk hB) (hs k hk)⟩
theorem Blk.but {g : Nat} {t : TypeId} {cs : List Value} (h : Blk w g t cs) (hb : But w.heap.size tag S w w') (hs : ¬ S (tag g)) : Blk w' g t cs := (hb.block g h.lt hs).trans h
theorem MapI.but {b : Nat} {m : List (Int × Value)} (h : MapI w b m) (hb : But w.heap.size tag S w w') (hs : ¬ S (tag b)) : MapI w' b m := h.kept (hb.block b h.lt hs)
theorem own_butM {base : Nat} {e : TypeId} {size : Nat} {v : Value} {n : Nat} {xs : List Value} (h : w.ownsRow base e size v n xs) (hb : But w.heap.size tag S w w') (hs : ∀ k, v.ownBlock = some k → ¬ S (tag k)) : w'.ownsRow base e size v n xs := by
  refine ⟨h.1, ?_⟩
  rcases h.2 with hn | ⟨g, cap, cur, rfl, hbb, hgg, rest⟩
  · exact .inl hn
  · refine .inr ⟨g, cap, cur, rfl, hbb, ?_, rest⟩
    rw [hb.block g (Array.getElem?_eq_some_iff.1 hgg).1 (hs g rfl)]
    exact hgg
end

/-- The types of a run. -/
structure VTy where
  deal : TypeId
  seen : TypeId
  num : TypeId
  ptr : TypeId
  keeper : TypeId
  look : TypeId
/-- Where a run's things lie. -/
structure VLay where
  gm : Nat
  gl : Nat
  vd : Value
  kp : Option (Nat × Value)
  g : Int → Nat
  vs : Int → Value
  vw : Int → Value
  vp : Int → Value
structure DealH (T : VTy) (lo : Nat) (w : World) (L : VLay) (tag : Nat → Int × Nat) (d : Dl) : Prop where
  blk : Blk w (L.g d.tx) T.deal [.int .i64 d.tx, .int .i64 d.began, .int .i64 d.ended, L.vs d.tx, L.vw d.tx, L.vp d.tx]
  blkM : tag (L.g d.tx) = (d.tx, 5)
  blkL : lo ≤ L.g d.tx
  seen : w.ownsRow lo T.seen 3 (L.vs d.tx) d.seen.length (cellsH d.seen)
  seenM : ∀ k, (L.vs d.tx).ownBlock = some k → tag k = (d.tx, 6)
  wrote : w.ownsRow lo T.num 1 (L.vw d.tx) d.wrote.length (cellsI d.wrote)
  wroteM : ∀ k, (L.vw d.tx).ownBlock = some k → tag k = (d.tx, 7)
  snap : w.ownsRow lo T.num 1 (L.vp d.tx) d.snap.length (cellsI d.snap)
  snapM : ∀ k, (L.vp d.tx).ownBlock = some k → tag k = (d.tx, 8)
def KeepH (T : VTy) (lo : Nat) (w : World) (tag : Nat → Int × Nat) (looks : List HOp) : Option (Nat × Value) → Prop
  | none => True
  | some (k, v) => Blk w k T.keeper [v] ∧ lo ≤ k ∧ tag k = (0, 3) ∧ w.ownsRow lo T.look 3 v looks.length (cellsH looks) ∧ ∀ j, v.ownBlock = some j → tag j = (0, 4)
def ptrD (L : VLay) (t : Int) : Value := .pointer (some ⟨L.g t, 0, none⟩)
def mapD (L : VLay) (ds : List Dl) : List (Int × Value) := ds.map fun d => (d.tx, ptrD L d.tx)
structure VHeap (T : VTy) (lo : Nat) (w : World) (s : VSt) (L : VLay) (tag : Nat → Int × Nat) : Prop where
  map : MapI w L.gm (mapD L s.ds)
  mapM : tag L.gm = (0, 0)
  mapL : lo ≤ L.gm
  last : Blk w L.gl T.num (cellsI s.last)
  lastM : tag L.gl = (0, 1)
  lastL : lo ≤ L.gl
  done : w.ownsRow lo T.ptr 1 L.vd s.dn.length (s.dn.map (ptrD L))
  doneM : ∀ k, L.vd.ownBlock = some k → tag k = (0, 2)
  deals : ∀ d ∈ s.ds, DealH T lo w L tag d
  nodup : (s.ds.map (·.tx)).Nodup
  sub : ∀ t ∈ s.dn, t ∈ s.ds.map (·.tx)
  keep : KeepH T lo w tag s.looks L.kp
section
variable {T : VTy} {lo : Nat} {w w' : World} {s : VSt} {L L' : VLay} {tag tag' : Nat → Int × Nat} {S : Int × Nat → Prop} {d d' : Dl}
theorem DealH.but (h : DealH T lo w L tag d) (hb : But w.heap.size tag S w w') (hs : ∀ j, 5 ≤ j → ¬ S (d.tx, j)) (ht : ∀ k, k < w.heap.size → tag' k = tag k) (hg : L'.g d.tx = L.g d.tx) (h1 : L'.vs d.tx = L.vs d.tx) (h2 : L'.vw d.tx = L.vw d.tx) (h3 : L'.vp d.tx = L.vp d.tx) : DealH T lo w' L' tag' d := by
  obtain ⟨a1, a2, a3, a4, a5, a6, a7, a8, a9⟩ := h
  have hl1 := a1.lt
  have hl2 := a4.lt
  have hl3 := a6.lt
  have hl4 := a8.lt
  refine ⟨?_, ?_, ?_, ?_, ?_, ?_, ?_, ?_, ?_⟩
  · rw [hg, h1, h2, h3]; exact a1.but hb (by rw [a2]; exact hs 5 (by omega))
  · rw [hg, ht _ hl1]; exact a2
  · rw [hg]; exact a3
  · rw [h1]; exact own_butM a4 hb fun k hk => by rw [a5 k hk]; exact hs 6 (by omega)
  · rw [h1]; intro k hk; rw [ht _ (hl2 k hk).2]; exact a5 k hk
  · rw [h2]; exact own_butM a6 hb fun k hk => by rw [a7 k hk]; exact hs 7 (by omega)
  · rw [h2]; intro k hk; rw [ht _ (hl3 k hk).2]; exact a7 k hk
  · rw [h3]; exact own_butM a8 hb fun k hk => by rw [a9 k hk]; exact hs 8 (by omega)
  · rw [h3]; intro k hk; rw [ht _ (hl4 k hk).2]; exact a9 k hk
theorem KeepH.but {looks : List HOp} : ∀ {kp : Option (Nat × Value)}, KeepH T lo w tag looks kp → But w.heap.size tag S w w' → (¬ S (0, 3)) → (¬ S (0, 4)) → (∀ k, k < w.heap.size → tag' k = tag k) → KeepH T lo w' tag' looks kp
  | none, _, _, _, _, _ => trivial
  | some (k, v), ⟨a1, a2, a3, a4, a5⟩, hb, h3, h4, ht => ⟨a1.but hb (by rw [a3]; exact h3), a2, by rw [ht _ a1.lt]; exact a3, own_butM a4 hb fun j hj => by rw [a5 j hj]; exact h4, fun j hj => by rw [ht _ (a4.lt j hj).2]; exact a5 j hj⟩
theorem mapD_put (L : VLay) (ds : List Dl) (hd : d.tx ∈ ds.map (·.tx)) : mapD L (dput ds d) = mapD L ds := by
  have h : ∀ l : List Dl, mapD L l = (l.map (·.tx)).map fun t => (t, ptrD L t) := fun l => by simp [mapD]
  rw [h, h, dput_txs, if_pos hd]
theorem mapD_congr (h : ∀ t ∈ s.ds.map (·.tx), L'.g t = L.g t) : mapD L' s.ds = mapD L s.ds := by
  unfold mapD ptrD
  refine List.map_congr_left fun e he => ?_
  rw [h e.tx (List.mem_map.2 ⟨e, he, rfl⟩)]
theorem ptrs_congr (H : VHeap T lo w s L tag) (h : ∀ t ∈ s.ds.map (·.tx), L'.g t = L.g t) : s.dn.map (ptrD L') = s.dn.map (ptrD L) := by
  unfold ptrD
  refine List.map_congr_left fun t ht => ?_
  rw [h t (H.sub t ht)]

/-- Nothing changed. -/
theorem VHeap.below (H : VHeap T lo w s L tag) (hb : Below w.heap.size w w') : VHeap T lo w' s L tag := by
  have hb' : But w.heap.size tag (fun _ => False) w w' := But.below hb (Nat.le_refl _)
  exact ⟨H.map.but hb' id, H.mapM, H.mapL, H.last.but hb' id, H.lastM, H.lastL, own_butM H.done hb' fun _ _ => id, H.doneM, fun d hd => (H.deals d hd).but hb' (fun _ _ => id) (fun _ _ => rfl) rfl rfl rfl rfl, H.nodup, H.sub, H.keep.but hb' id id fun _ _ => rfl⟩
/-- One deal's things changed. -/
theorem VHeap.put (H : VHeap T lo w s L tag) (hex : d'.tx ∈ s.ds.map (·.tx)) (hgm : L'.gm = L.gm) (hgl : L'.gl = L.gl) (hvd : L'.vd = L.vd) (hkp : L'.kp = L.kp) (hg : ∀ t, L'.g t = L.g t) (hv : ∀ t, t ≠ d'.tx → L'.vs t = L.vs t ∧ L'.vw t = L.vw t ∧ L'.vp t = L.vp t)
    (hb : But w.heap.size tag (fun m => m.1 = d'.tx ∧ 5 ≤ m.2 ∧ m.2 < 9) w w') (ht : ∀ k, k < w.heap.size → tag' k = tag k) (hd : DealH T lo w' L' tag' d') : VHeap T lo w' { s with ds := dput s.ds d' } L' tag' := by
  have hl := H.done.lt
  refine ⟨?_, ?_, ?_, ?_, ?_, ?_, ?_, ?_, ?_, dput_nodup H.nodup _, ?_, ?_⟩
  · show MapI w' L'.gm (mapD L' (dput s.ds d'))
    rw [mapD_put L' s.ds hex, mapD_congr (fun t _ => hg t), hgm]; exact H.map.but hb (by rw [H.mapM]; omega)
  · rw [hgm, ht _ H.map.lt]; exact H.mapM
  · rw [hgm]; exact H.mapL
  · rw [hgl]; exact H.last.but hb (by rw [H.lastM]; omega)
  · rw [hgl, ht _ H.last.lt]; exact H.lastM
  · rw [hgl]; exact H.lastL
  · rw [hvd, ptrs_congr H (fun t _ => hg t)]; exact own_butM H.done hb fun k hk => by rw [H.doneM k hk]; omega
  · rw [hvd]; intro k hk; rw [ht _ (hl k hk).2]; exact H.doneM k hk
  · intro e he
    by_cases h : e.tx = d'.tx
    · rcases mem_dput he with rfl | he2
      · exact hd
      · have h1 := dget_mem (dput_nodup H.nodup d') he
        have h2 := dget_put s.ds d' e.tx
        rw [if_pos h.symm] at h2
        obtain rfl := Option.some.inj (h1.symm.trans h2)
        exact hd
    · rcases mem_dput he with rfl | he2
      · exact absurd rfl h
      · obtain ⟨h1, h2, h3⟩ := hv e.tx h
        exact (H.deals e he2).but hb (fun j hj hS => h hS.1) ht (hg _) h1 h2 h3
  · intro t h
    have := H.sub t h
    show t ∈ (dput s.ds d').map (·.tx)
    rw [dput_txs, if_pos hex]; exact this
  · rw [hkp]; exact H.keep.but hb (by omega) (by omega) ht
theorem putI_new {m : List (Int × Value)} {k : Int} {v : Value} (h : k ∉ m.map (·.1)) : putI m k v = m ++ [(k, v)] := by
  induction m with
  | nil => rfl
  | cons p t ih =>
    simp only [List.map_cons, List.mem_cons, not_or] at h
    rw [putI, if_neg (fun e => h.1 e.symm), ih h.2]; rfl
theorem getI_mapD (L : VLay) : ∀ (ds : List Dl) (t : Int), getI (mapD L ds) t = (dget ds t).map fun d => ptrD L d.tx
  | [], t => rfl
  | d :: ds, t => by
    show (if d.tx = t then some (ptrD L d.tx) else getI (mapD L ds) t) = _
    rw [dget, getI_mapD L ds t]
    split <;> rfl
theorem dput_new : ∀ {l : List Dl} {d : Dl}, d.tx ∉ l.map (·.tx) → dput l d = l ++ [d]
  | [], _, _ => rfl
  | x :: t, d, h => by
    simp only [List.map_cons, List.mem_cons, not_or] at h
    rw [dput, if_neg (fun e => h.1 e.symm), dput_new h.2]; rfl
/-- A deal began. -/
theorem VHeap.add (H : VHeap T lo w s L tag) (hnew : d'.tx ∉ s.ds.map (·.tx)) (hgm : L'.gm = L.gm) (hgl : L'.gl = L.gl) (hvd : L'.vd = L.vd) (hkp : L'.kp = L.kp) (hv : ∀ t, t ≠ d'.tx → L'.g t = L.g t ∧ L'.vs t = L.vs t ∧ L'.vw t = L.vw t ∧ L'.vp t = L.vp t)
    (hb : But w.heap.size tag (fun m => m = (0, 0)) w w') (ht : ∀ k, k < w.heap.size → tag' k = tag k) (hm : MapI w' L.gm (putI (mapD L s.ds) d'.tx (ptrD L' d'.tx))) (hd : DealH T lo w' L' tag' d') : VHeap T lo w' { s with ds := dput s.ds d' } L' tag' := by
  have hl := H.done.lt
  have hg : ∀ t ∈ s.ds.map (·.tx), L'.g t = L.g t := fun t h => (hv t (fun e => hnew (by rw [← e]; exact h))).1
  refine ⟨?_, ?_, ?_, ?_, ?_, ?_, ?_, ?_, ?_, dput_nodup H.nodup _, ?_, ?_⟩
  · show MapI w' L'.gm (mapD L' (dput s.ds d'))
    rw [putI_new (by simpa [mapD] using hnew)] at hm
    rw [hgm, dput_new hnew]
    have e : mapD L' (s.ds ++ [d']) = mapD L s.ds ++ [(d'.tx, ptrD L' d'.tx)] := by
      rw [← mapD_congr (L' := L') hg]; simp [mapD]
    rw [e]; exact hm
  · rw [hgm, ht _ H.map.lt]; exact H.mapM
  · rw [hgm]; exact H.mapL
  · rw [hgl]; exact H.last.but hb (by rw [H.lastM]; decide)
  · rw [hgl, ht _ H.last.lt]; exact H.lastM
  · rw [hgl]; exact H.lastL
  · rw [hvd, ptrs_congr H hg]; exact own_butM H.done hb fun k hk => by rw [H.doneM k hk]; decide
  · rw [hvd]; intro k hk; rw [ht _ (hl k hk).2]; exact H.doneM k hk
  · intro e he
    rcases mem_dput he with rfl | he2
    · exact hd
    · have h : e.tx ≠ d'.tx := fun e' => hnew (by rw [← e']; exact List.mem_map.2 ⟨e, he2, rfl⟩)
      obtain ⟨h0, h1, h2, h3⟩ := hv e.tx h
      exact (H.deals e he2).but hb (fun j hj hS => by injection hS with _ e2; omega) ht h0 h1 h2 h3
  · intro t h
    have := H.sub t h
    show t ∈ (dput s.ds d').map (·.tx)
    rw [dput_txs, if_neg hnew]; exact List.mem_append_left _ this
  · rw [hkp]; exact H.keep.but hb (by decide) (by decide) ht
/-- A deal is done. -/
theorem VHeap.doneAdd (H : VHeap T lo w s L tag) {t : Int} {v : Value} (hex : t ∈ s.ds.map (·.tx)) (hb : But w.heap.size tag (fun m => m = (0, 2)) w w') (ht : ∀ k, k < w.heap.size → tag' k = tag k)
    (hd : w'.ownsRow lo T.ptr 1 v (s.dn.length + 1) (s.dn.map (ptrD L) ++ [ptrD L t])) (hm : ∀ k, v.ownBlock = some k → tag' k = (0, 2)) : VHeap T lo w' { s with dn := s.dn ++ [t] } { L with vd := v } tag' := by
  refine ⟨H.map.but hb (by rw [H.mapM]; decide), ?_, H.mapL, H.last.but hb (by rw [H.lastM]; decide), ?_, H.lastL, ?_, hm, ?_, H.nodup, ?_, H.keep.but hb (by decide) (by decide) ht⟩
  · show tag' L.gm = _
    rw [ht _ H.map.lt]; exact H.mapM
  · show tag' L.gl = _
    rw [ht _ H.last.lt]; exact H.lastM
  · show w'.ownsRow lo T.ptr 1 v (s.dn ++ [t]).length ((s.dn ++ [t]).map (ptrD { L with vd := v }))
    rw [List.length_append, List.map_append]; exact hd
  · exact fun e he => (H.deals e he).but hb (fun j hj hS => by injection hS with _ e2; omega) ht rfl rfl rfl rfl
  · intro x hx
    rcases List.mem_append.1 hx with hx | hx
    · exact H.sub x hx
    · rw [List.mem_singleton.1 hx]; exact hex
/-- An item was written. -/
theorem VHeap.lastSet (H : VHeap T lo w s L tag) {l : List Int} (hb : But w.heap.size tag (fun m => m = (0, 1)) w w') (hl : Blk w' L.gl T.num (cellsI l)) : VHeap T lo w' { s with last := l } L tag :=
  ⟨H.map.but hb (by rw [H.mapM]; decide), H.mapM, H.mapL, hl, H.lastM, H.lastL, own_butM H.done hb fun k hk => by rw [H.doneM k hk]; decide, H.doneM,
    fun e he => (H.deals e he).but hb (fun j hj hS => by injection hS with _ e2; omega) (fun _ _ => rfl) rfl rfl rfl rfl, H.nodup, H.sub, H.keep.but hb (by decide) (by decide) fun _ _ => rfl⟩
/-- Someone looked. -/
theorem VHeap.lookAdd (H : VHeap T lo w s L tag) {k : Nat} {v : Value} {l : List HOp} (hb : But w.heap.size tag (fun m => m = (0, 3) ∨ m = (0, 4)) w w') (ht : ∀ j, j < w.heap.size → tag' j = tag j) (hk : KeepH T lo w' tag' l (some (k, v))) : VHeap T lo w' { s with looks := l } { L with kp := some (k, v) } tag' := by
  have hl := H.done.lt
  refine ⟨H.map.but hb (by rw [H.mapM]; decide), ?_, H.mapL, H.last.but hb (by rw [H.lastM]; decide), ?_, H.lastL, own_butM H.done hb fun j hj => by rw [H.doneM j hj]; decide, ?_, ?_, H.nodup, H.sub, hk⟩
  · show tag' L.gm = _
    rw [ht _ H.map.lt]; exact H.mapM
  · show tag' L.gl = _
    rw [ht _ H.last.lt]; exact H.lastM
  · intro j hj
    rw [ht _ (hl j hj).2]; exact H.doneM j hj
  · exact fun e he => (H.deals e he).but hb (fun j hj hS => by rcases hS with hS | hS <;> (injection hS with _ e2; omega)) ht rfl rfl rfl rfl
end
end Go.Proofs.YtaaahfbcpgdoiaaGreatDoor

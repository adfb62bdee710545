
/-
  PLAIN LAWS: a run of deals that are looked at when they end (valid.Play): its states, its steps. What was seen, (Tx, Item, From), and a look, (item, from, by), are kept as three numbers (HOp).
  THE HEAP OF A RUN (valid.Play): each deal's block, what it saw, what it wrote, what it knew when it began; who is done; who wrote last; the map of those that run; the looks. Blocks carry marks, so that no two things lie in one.
-/
import Derived.Test.YtfmdeahblaikoaaGreatDoorBG0
import Derived.Test.YtfmdeahblaikoaaGreatDoorBG1

namespace Go.Proofs.YtfmdeahblaikoaaGreatDoor
open Go.RowKit

structure Dl where
  tx : Int
  began : Int
  ended : Int
  seen : List HOp
  wrote : List Int
  snap : List Int
  deriving DecidableEq, Repr, Inhabited
structure VSt where
  ds : List Dl
  dn : List Int
  last : List Int
  looks : List HOp
  deriving DecidableEq, Repr, Inhabited
def dget : List Dl → Int → Option Dl
  | [], _ => none
  | d :: t, x => if d.tx = x then some d else dget t x
def dput : List Dl → Dl → List Dl
  | [], d => [d]
  | e :: t, d => if e.tx = d.tx then d :: t else e :: dput t d
/-- A run's rules: what a read sees, who has looked then, whether a deal may commit. -/
structure VRules where
  see : VSt → Dl → Int → Int
  look : VSt → Dl → Int → List HOp
  may : VSt → Dl → Bool
def begD (s : VSt) (at_ : Nat) (tx : Int) : Dl := (dget s.ds tx).getD ⟨tx, at_, -1, [], [], s.last⟩
def openS (s : VSt) (at_ : Nat) (tx : Int) : VSt := { s with ds := dput s.ds (begD s at_ tx) }
def setsL (tx : Int) : List Int → List Int → List Int
  | [], l => l
  | i :: t, l => setsL tx t (l.set (i.toNat - 1) tx)
def vstep (R : VRules) (at_ : Nat) (o : HOp) (s0 : VSt) : VSt :=
  let s := openS s0 at_ o.tx
  let d := begD s0 at_ o.tx
  if o.what = 1 then
    if o.item ∈ d.wrote then { s with ds := dput s.ds { d with seen := d.seen ++ [⟨o.tx, o.item, o.tx⟩] } }
    else { s with ds := dput s.ds { d with seen := d.seen ++ [⟨o.tx, o.item, R.see s d o.item⟩] }, looks := R.look s d o.item }
  else if o.what = 2 then { s with ds := dput s.ds { d with wrote := d.wrote ++ [o.item] } }
  else if o.what = 3 then
    if R.may s d then { s with ds := dput s.ds { d with ended := at_ }, dn := s.dn ++ [o.tx], last := setsL o.tx d.wrote s.last }
    else s
  else s
def vrun (R : VRules) : Nat → List HOp → VSt → VSt
  | _, [], s => s
  | k, o :: t, s => vrun R (k + 1) t (vstep R k o s)
def vs00 : VSt := ⟨[], [], [0, 0, 0, 0, 0, 0], []⟩
def playV (R : VRules) (h : List HOp) : VSt := vrun R 0 h vs00
/-- Of a state: who is done, as they are. -/
def doneD (s : VSt) : List Dl := s.dn.map fun t => (dget s.ds t).getD ⟨t, 0, 0, [], [], []⟩
def readD (d : Dl) (item : Int) : Bool := d.seen.any fun s => decide (s.what = item) && !decide (s.item = d.tx)
def sinceD (began : Int) (done : List Dl) (is : Int → Bool) : Bool := done.any fun d => decide (d.ended > began) && d.wrote.any is
def atOnceD (a b : Dl) : Bool := (decide (b.ended < 0) || decide (a.began < b.ended)) && (decide (a.ended < 0) || decide (b.began < a.ended))

theorem dget_put : ∀ (l : List Dl) (d : Dl) (x : Int), dget (dput l d) x = if d.tx = x then some d else dget l x
  | [], d, x => by simp only [dput, dget]
  | e :: t, d, x => by
    by_cases h : e.tx = d.tx
    · rw [dput, if_pos h, dget, dget]
      by_cases h2 : d.tx = x
      · rw [if_pos h2, if_pos h2]
      · rw [if_neg h2, if_neg h2, if_neg (fun e' => h2 (h.symm.trans e'))]
    · rw [dput, if_neg h, dget, dget, dget_put t d x]
      by_cases h2 : e.tx = x
      · rw [if_pos h2, if_neg (fun e' => h (h2.trans e'.symm)), if_pos h2]
      · rw [if_neg h2, if_neg h2]
theorem dget_tx : ∀ {l : List Dl} {x : Int} {d : Dl}, dget l x = some d → d.tx = x ∧ d ∈ l
  | [], _, _, h => by cases h
  | e :: t, x, d, h => by
    rw [dget] at h
    split at h
    · rename_i he
      cases h
      exact ⟨he, List.mem_cons_self⟩
    · have := dget_tx h
      exact ⟨this.1, List.mem_cons_of_mem _ this.2⟩
theorem mem_dput : ∀ {l : List Dl} {d e : Dl}, e ∈ dput l d → e = d ∨ e ∈ l
  | [], d, e, h => by simp only [dput, List.mem_singleton] at h; exact .inl h
  | x :: t, d, e, h => by
    rw [dput] at h
    split at h
    · rcases List.mem_cons.1 h with h | h
      · exact .inl h
      · exact .inr (List.mem_cons_of_mem _ h)
    · rcases List.mem_cons.1 h with h | h
      · exact .inr (by rw [h]; exact List.mem_cons_self)
      · rcases mem_dput h with h | h
        · exact .inl h
        · exact .inr (List.mem_cons_of_mem _ h)
theorem mem_dput_self : ∀ (l : List Dl) (d : Dl), d ∈ dput l d
  | [], d => List.mem_singleton.2 rfl
  | x :: t, d => by
    rw [dput]
    split
    · exact List.mem_cons_self
    · exact List.mem_cons_of_mem _ (mem_dput_self t d)
/-- The numbers of the deals: those that were there, and behind them the new one. -/
theorem dput_txs : ∀ (l : List Dl) (d : Dl), (dput l d).map (·.tx) = if d.tx ∈ l.map (·.tx) then l.map (·.tx) else l.map (·.tx) ++ [d.tx]
  | [], d => rfl
  | x :: t, d => by
    rw [dput]
    by_cases h : x.tx = d.tx
    · rw [if_pos h, if_pos (by simp [h])]
      simp [h]
    · rw [if_neg h, List.map_cons, dput_txs t d]
      by_cases h2 : d.tx ∈ t.map (·.tx)
      · rw [if_pos h2, if_pos (by simp only [List.map_cons]; exact List.mem_cons_of_mem _ h2), List.map_cons]
      · rw [if_neg h2, if_neg (by simp only [List.map_cons, List.mem_cons, not_or]; exact ⟨fun e => h e.symm, h2⟩)]
        rfl
theorem dput_nodup {l : List Dl} (hn : (l.map (·.tx)).Nodup) (d : Dl) : ((dput l d).map (·.tx)).Nodup := by
  rw [dput_txs]
  split
  · exact hn
  · rename_i h
    exact List.nodup_append.2 ⟨hn, by simp, fun x hx y hy e => h (by rw [List.mem_singleton] at hy; rw [← hy, ← e]; exact hx)⟩
theorem dget_mem : ∀ {l : List Dl}, (l.map (·.tx)).Nodup → ∀ {d : Dl}, d ∈ l → dget l d.tx = some d
  | [], _, _, h => by cases h
  | x :: t, hn, d, h => by
    rw [List.map_cons, List.nodup_cons] at hn
    rw [dget]
    rcases List.mem_cons.1 h with rfl | h
    · rw [if_pos rfl]
    · rw [if_neg (fun e => hn.1 (by rw [e]; exact List.mem_map.2 ⟨d, h, rfl⟩)), dget_mem hn.2 h]
theorem dput_put : ∀ (l : List Dl) {d d' : Dl}, d.tx = d'.tx → dput (dput l d) d' = dput l d'
  | [], d, d', h => by simp [dput, h]
  | x :: t, d, d', h => by
    simp only [dput]
    by_cases h2 : x.tx = d.tx
    · rw [if_pos h2, if_pos (h2.trans h)]
      simp [dput, h]
    · rw [if_neg h2, if_neg (fun e => h2 (e.trans h.symm))]
      simp only [dput]
      rw [if_neg (fun e => h2 (e.trans h.symm)), dput_put t h]
theorem setsL_len (tx : Int) : ∀ (l m : List Int), (setsL tx l m).length = m.length
  | [], _ => rfl
  | i :: t, m => by rw [setsL, setsL_len tx t]; simp
end Go.Proofs.YtfmdeahblaikoaaGreatDoor


namespace Go.Proofs.YtfmdeahblaikoaaGreatDoor
open Go.RowKit

/-- Of the first N blocks none changed but those of some marks. -/
structure But (N : Nat) (tag : Nat → Int × Nat) (S : Int × Nat → Prop) (w w' : World) : Prop where
  os : w'.os = w.os
  tape : w'.tape = w.tape
  output : w'.output = w.output
  size : w.heap.size ≤ w'.heap.size
  block : ∀ k, k < N → ¬ S (tag k) → w'.heap[k]? = w.heap[k]?
section
variable {N : Nat} {tag : Nat → Int × Nat} {S : Int × Nat → Prop} {w w' w'' : World}
theorem But.refl (N : Nat) (tag : Nat → Int × Nat) (S : Int × Nat → Prop) (w : World) : But N tag S w w := ⟨rfl, rfl, rfl, Nat.le_refl _, fun _ _ _ => rfl⟩
theorem But.trans (h : But N tag S w w') (h' : But N tag S w' w'') : But N tag S w w'' :=
  ⟨h'.os.trans h.os, h'.tape.trans h.tape, h'.output.trans h.output, Nat.le_trans h.size h'.size, fun k hk hs => (h'.block k hk hs).trans (h.block k hk hs)⟩
theorem But.below {B : Nat} (h : Below B w w') (hB : N ≤ B) : But N tag S w w' := ⟨h.os, h.tape, h.output, h.size, fun k hk _ => h.block k (Nat.lt_of_lt_of_le hk hB)⟩
theorem But.grown {row : Option Nat} (h : w.grownBy w' row) (hN : N ≤ w.heap.size) (hr : ∀ k, row = some k → k < N → S (tag k)) : But N tag S w w' :=
  ⟨h.os, h.tape, h.output, h.size, fun k hk hs => h.block k (Nat.lt_of_lt_of_le hk hN) (fun e => hs (hr k e.symm hk))⟩
theorem But.set {p : Addr} (hp : p.block < N → S (tag p.block)) (v : Value) : But N tag S w (w.setCell p v) :=
  have h := (Below.refl p.block w).setCell (p := p) (Nat.le_refl _) v
  ⟨h.os, h.tape, h.output, h.size, fun k hk hs => Below.heap_setCell w p v k (fun e => hs (by rw [e]; exact hp (by rw [← e]; exact hk)))⟩
theorem But.mono {S' : Int × Nat → Prop} (h : But N tag S w w') (hs : ∀ m, S m → S' m) : But N tag S' w w' := ⟨h.os, h.tape, h.output, h.size, fun k hk hn => h.block k hk (fun e => hn (hs _ e))⟩
theorem But.toBelow {B : Nat} (h : But N tag S w w') (hB : B ≤ N) (hs : ∀ k, k < B → ¬ S (tag k)) : Below B w w' := ⟨h.os, h.tape, h.output, h.size, fun k hk => h.block k (Nat.lt_of_lt_of_le hk hB) (hs k hk)⟩
theorem Blk.but {g : Nat} {t : TypeId} {cs : List Value} (h : Blk w g t cs) (hb : But w.heap.size tag S w w') (hs : ¬ S (tag g)) : Blk w' g t cs := (hb.block g h.lt hs).trans h
theorem MapI.but {b : Nat} {m : List (Int × Value)} (h : MapI w b m) (hb : But w.heap.size tag S w w') (hs : ¬ S (tag b)) : MapI w' b m := h.kept (hb.block b h.lt hs)
theorem own_butM {base : Nat} {e : TypeId} {size : Nat} {v : Value} {n : Nat} {xs : List Value} (h : w.ownsRow base e size v n xs) (hb : But w.heap.size tag S w w') (hs : ∀ k, v.ownBlock = some k → ¬ S (tag k)) : w'.ownsRow base e size v n xs := by
  refine ⟨h.1, ?_⟩
  rcases h.2 with hn | ⟨g, cap, cur, rfl, hbb, hgg, rest⟩
  · exact .inl hn
  · refine .inr ⟨g, cap, cur, rfl, hbb, ?_, rest⟩
    rw [hb.block g (Array.getElem?_eq_some_iff.1 hgg).1 (hs g rfl)]
    exact hgg
end

/-- The types of a run. -/
structure VTy where
  deal : TypeId
  seen : TypeId
  num : TypeId
  ptr : TypeId
  keeper : TypeId
  look : TypeId
/-- Where a run's things lie. -/
structure VLay where
  gm : Nat
  gl : Nat
  vd : Value
  kp : Option (Nat × Value)
  g : Int → Nat
  vs : Int → Value
  vw : Int → Value
  vp : Int → Value
structure DealH (T : VTy) (lo : Nat) (w : World) (L : VLay) (tag : Nat → Int × Nat) (d : Dl) : Prop where
  blk : Blk w (L.g d.tx) T.deal [.int .i64 d.tx, .int .i64 d.began, .int .i64 d.ended, L.vs d.tx, L.vw d.tx, L.vp d.tx]
  blkM : tag (L.g d.tx) = (d.tx, 5)
  blkL : lo ≤ L.g d.tx
  seen : w.ownsRow lo T.seen 3 (L.vs d.tx) d.seen.length (cellsH d.seen)
  seenM : ∀ k, (L.vs d.tx).ownBlock = some k → tag k = (d.tx, 6)
  wrote : w.ownsRow lo T.num 1 (L.vw d.tx) d.wrote.length (cellsI d.wrote)
  wroteM : ∀ k, (L.vw d.tx).ownBlock = some k → tag k = (d.tx, 7)
  snap : w.ownsRow lo T.num 1 (L.vp d.tx) d.snap.length (cellsI d.snap)
  snapM : ∀ k, (L.vp d.tx).ownBlock = some k → tag k = (d.tx, 8)
def KeepH (T : VTy) (lo : Nat) (w : World) (tag : Nat → Int × Nat) (looks : List HOp) : Option (Nat × Value) → Prop
  | none => True
  | some (k, v) => Blk w k T.keeper [v] ∧ lo ≤ k ∧ tag k = (0, 3) ∧ w.ownsRow lo T.look 3 v looks.length (cellsH looks) ∧ ∀ j, v.ownBlock = some j → tag j = (0, 4)
def ptrD (L : VLay) (t : Int) : Value := .pointer (some ⟨L.g t, 0, none⟩)
def mapD (L : VLay) (ds : List Dl) : List (Int × Value) := ds.map fun d => (d.tx, ptrD L d.tx)
structure VHeap (T : VTy) (lo : Nat) (w : World) (s : VSt) (L : VLay) (tag : Nat → Int × Nat) : Prop where
  map : MapI w L.gm (mapD L s.ds)
  mapM : tag L.gm = (0, 0)
  mapL : lo ≤ L.gm
  last : Blk w L.gl T.num (cellsI s.last)
  lastM : tag L.gl = (0, 1)
  lastL : lo ≤ L.gl
  done : w.ownsRow lo T.ptr 1 L.vd s.dn.length (s.dn.map (ptrD L))
  doneM : ∀ k, L.vd.ownBlock = some k → tag k = (0, 2)
  deals : ∀ d ∈ s.ds, DealH T lo w L tag d
  nodup : (s.ds.map (·.tx)).Nodup
  sub : ∀ t ∈ s.dn, t ∈ s.ds.map (·.tx)
  keep : KeepH T lo w tag s.looks L.kp
section
variable {T : VTy} {lo : Nat} {w w' : World} {s : VSt} {L L' : VLay} {tag tag' : Nat → Int × Nat} {S : Int × Nat → Prop} {d d' : Dl}
theorem DealH.but (h : DealH T lo w L tag d) (hb : But w.heap.size tag S w w') (hs : ∀ j, 5 ≤ j → ¬ S (d.tx, j)) (ht : ∀ k, k < w.heap.size → tag' k = tag k) (hg : L'.g d.tx = L.g d.tx) (h1 : L'.vs d.tx = L.vs d.tx) (h2 : L'.vw d.tx = L.vw d.tx) (h3 : L'.vp d.tx = L.vp d.tx) : DealH T lo w' L' tag' d := by
  obtain ⟨a1, a2, a3, a4, a5, a6, a7, a8, a9⟩ := h
  have hl1 := a1.lt
  have hl2 := a4.lt
  have hl3 := a6.lt
  have hl4 := a8.lt
  refine ⟨?_, ?_, ?_, ?_, ?_, ?_, ?_, ?_, ?_⟩
  · rw [hg, h1, h2, h3]; exact a1.but hb (by rw [a2]; exact hs 5 (by omega))
  · rw [hg, ht _ hl1]; exact a2
  · rw [hg]; exact a3
  · rw [h1]; exact own_butM a4 hb fun k hk => by rw [a5 k hk]; exact hs 6 (by omega)
  · rw [h1]; intro k hk; rw [ht _ (hl2 k hk).2]; exact a5 k hk
  · rw [h2]; exact own_butM a6 hb fun k hk => by rw [a7 k hk]; exact hs 7 (by omega)
  · rw [h2]; intro k hk; rw [ht _ (hl3 k hk).2]; exact a7 k hk
  · rw [h3]; exact own_butM a8 hb fun k hk => by rw [a9 k hk]; exact hs 8 (by omega)
  · rw [h3]; intro k hk; rw [ht _ (hl4 k hk).2]; exact a9 k hk
theorem KeepH.but {looks : List HOp} : ∀ {kp : Option (Nat × Value)}, KeepH T lo w tag looks kp → But w.heap.size tag S w w' → (¬ S (0, 3)) → (¬ S (0, 4)) → (∀ k, k < w.heap.size → tag' k = tag k) → KeepH T lo w' tag' looks kp
  | none, _, _, _, _, _ => trivial
  | some (k, v), ⟨a1, a2, a3, a4, a5⟩, hb, h3, h4, ht => ⟨a1.but hb (by rw [a3]; exact h3), a2, by rw [ht _ a1.lt]; exact a3, own_butM a4 hb fun j hj => by rw [a5 j hj]; exact h4, fun j hj => by rw [ht _ (a4.lt j hj).2]; exact a5 j hj⟩
theorem mapD_put (L : VLay) (ds : List Dl) (hd : d.tx ∈ ds.map (·.tx)) : mapD L (dput ds d) = mapD L ds := by
  have h : ∀ l : List Dl, mapD L l = (l.map (·.tx)).map fun t => (t, ptrD L t) := fun l => by simp [mapD]
  rw [h, h, dput_txs, if_pos hd]
theorem mapD_congr (h : ∀ t ∈ s.ds.map (·.tx), L'.g t = L.g t) : mapD L' s.ds = mapD L s.ds := by
  unfold mapD ptrD
  refine List.map_congr_left fun e he => ?_
  rw [h e.tx (List.mem_map.2 ⟨e, he, rfl⟩)]
theorem ptrs_congr (H : VHeap T lo w s L tag) (h : ∀ t ∈ s.ds.map (·.tx), L'.g t = L.g t) : s.dn.map (ptrD L') = s.dn.map (ptrD L) := by
  unfold ptrD
  refine List.map_congr_left fun t ht => ?_
  rw [h t (H.sub t ht)]

/-- Nothing changed. -/
theorem VHeap.below (H : VHeap T lo w s L tag) (hb : Below w.heap.size w w') : VHeap T lo w' s L tag := by
  have hb' : But w.heap.size tag (fun _ => False) w w' := But.below hb (Nat.le_refl _)
  exact ⟨H.map.but hb' id, H.mapM, H.mapL, H.last.but hb' id, H.lastM, H.lastL, own_butM H.done hb' fun _ _ => id, H.doneM, fun d hd => (H.deals d hd).but hb' (fun _ _ => id) (fun _ _ => rfl) rfl rfl rfl rfl, H.nodup, H.sub, H.keep.but hb' id id fun _ _ => rfl⟩
/-- One deal's things changed. -/
theorem VHeap.put (H : VHeap T lo w s L tag) (hex : d'.tx ∈ s.ds.map (·.tx)) (hgm : L'.gm = L.gm) (hgl : L'.gl = L.gl) (hvd : L'.vd = L.vd) (hkp : L'.kp = L.kp) (hg : ∀ t, L'.g t = L.g t) (hv : ∀ t, t ≠ d'.tx → L'.vs t = L.vs t ∧ L'.vw t = L.vw t ∧ L'.vp t = L.vp t)
    (hb : But w.heap.size tag (fun m => m.1 = d'.tx ∧ 5 ≤ m.2 ∧ m.2 < 9) w w') (ht : ∀ k, k < w.heap.size → tag' k = tag k) (hd : DealH T lo w' L' tag' d') : VHeap T lo w' { s with ds := dput s.ds d' } L' tag' := by
  have hl := H.done.lt
  refine ⟨?_, ?_, ?_, ?_, ?_, ?_, ?_, ?_, ?_, dput_nodup H.nodup _, ?_, ?_⟩
  · show MapI w' L'.gm (mapD L' (dput s.ds d'))
    rw [mapD_put L' s.ds hex, mapD_congr (fun t _ => hg t), hgm]; exact H.map.but hb (by rw [H.mapM]; omega)
  · rw [hgm, ht _ H.map.lt]; exact H.mapM
  · rw [hgm]; exact H.mapL
  · rw [hgl]; exact H.last.but hb (by rw [H.lastM]; omega)
  · rw [hgl, ht _ H.last.lt]; exact H.lastM
  · rw [hgl]; exact H.lastL
  · rw [hvd, ptrs_congr H (fun t _ => hg t)]; exact own_butM H.done hb fun k hk => by rw [H.doneM k hk]; omega
  · rw [hvd]; intro k hk; rw [ht _ (hl k hk).2]; exact H.doneM k hk
  · intro e he
    by_cases h : e.tx = d'.tx
    · rcases mem_dput he with rfl | he2
      · exact hd
      · have h1 := dget_mem (dput_nodup H.nodup d') he
        have h2 := dget_put s.ds d' e.tx
        rw [if_pos h.symm] at h2
        obtain rfl := Option.some.inj (h1.symm.trans h2)
        exact hd
    · rcases mem_dput he with rfl | he2
      · exact absurd rfl h
      · obtain ⟨h1, h2, h3⟩ := hv e.tx h
        exact (H.deals e he2).but hb (fun j hj hS => h hS.1) ht (hg _) h1 h2 h3
  · intro t h
    have := H.sub t h
    show t ∈ (dput s.ds d').map (·.tx)
    rw [dput_txs, if_pos hex]; exact this
  · rw [hkp]; exact H.keep.but hb (by omega) (by omega) ht
theorem putI_new {m : List (Int × Value)} {k : Int} {v : Value} (h : k ∉ m.map (·.1)) : putI m k v = m ++ [(k, v)] := by
  induction m with
  | nil => rfl
  | cons p t ih =>
    simp only [List.map_cons, List.mem_cons, not_or] at h
    rw [putI, if_neg (fun e => h.1 e.symm), ih h.2]; rfl
theorem getI_mapD (L : VLay) : ∀ (ds : List Dl) (t : Int), getI (mapD L ds) t = (dget ds t).map fun d => ptrD L d.tx
  | [], t => rfl
  | d :: ds, t => by
    show (if d.tx = t then some (ptrD L d.tx) else getI (mapD L ds) t) = _
    rw [dget, getI_mapD L ds t]
    split <;> rfl
theorem dput_new : ∀ {l : List Dl} {d : Dl}, d.tx ∉ l.map (·.tx) → dput l d = l ++ [d]
  | [], _, _ => rfl
  | x :: t, d, h => by
    simp only [List.map_cons, List.mem_cons, not_or] at h
    rw [dput, if_neg (fun e => h.1 e.symm), dput_new h.2]; rfl
/-- A deal began. -/
theorem VHeap.add (H : VHeap T lo w s L tag) (hnew : d'.tx ∉ s.ds.map (·.tx)) (hgm : L'.gm = L.gm) (hgl : L'.gl = L.gl) (hvd : L'.vd = L.vd) (hkp : L'.kp = L.kp) (hv : ∀ t, t ≠ d'.tx → L'.g t = L.g t ∧ L'.vs t = L.vs t ∧ L'.vw t = L.vw t ∧ L'.vp t = L.vp t)
    (hb : But w.heap.size tag (fun m => m = (0, 0)) w w') (ht : ∀ k, k < w.heap.size → tag' k = tag k) (hm : MapI w' L.gm (putI (mapD L s.ds) d'.tx (ptrD L' d'.tx))) (hd : DealH T lo w' L' tag' d') : VHeap T lo w' { s with ds := dput s.ds d' } L' tag' := by
  have hl := H.done.lt
  have hg : ∀ t ∈ s.ds.map (·.tx), L'.g t = L.g t := fun t h => (hv t (fun e => hnew (by rw [← e]; exact h))).1
  refine ⟨?_, ?_, ?_, ?_, ?_, ?_, ?_, ?_, ?_, dput_nodup H.nodup _, ?_, ?_⟩
  · show MapI w' L'.gm (mapD L' (dput s.ds d'))
    rw [putI_new (by simpa [mapD] using hnew)] at hm
    rw [hgm, dput_new hnew]
    have e : mapD L' (s.ds ++ [d']) = mapD L s.ds ++ [(d'.tx, ptrD L' d'.tx)] := by
      rw [← mapD_congr (L' := L') hg]; simp [mapD]
    rw [e]; exact hm
  · rw [hgm, ht _ H.map.lt]; exact H.mapM
  · rw [hgm]; exact H.mapL
  · rw [hgl]; exact H.last.but hb (by rw [H.lastM]; decide)
  · rw [hgl, ht _ H.last.lt]; exact H.lastM
  · rw [hgl]; exact H.lastL
  · rw [hvd, ptrs_congr H hg]; exact own_butM H.done hb fun k hk => by rw [H.doneM k hk]; decide
  · rw [hvd]; intro k hk; rw [ht _ (hl k hk).2]; exact H.doneM k hk
  · intro e he
    rcases mem_dput he with rfl | he2
    · exact hd
    · have h : e.tx ≠ d'.tx := fun e' => hnew (by rw [← e']; exact List.mem_map.2 ⟨e, he2, rfl⟩)
      obtain ⟨h0, h1, h2, h3⟩ := hv e.tx h
      exact (H.deals e he2).but hb (fun j hj hS => by injection hS with _ e2; omega) ht h0 h1 h2 h3
  · intro t h
    have := H.sub t h
    show t ∈ (dput s.ds d').map (·.tx)
    rw [dput_txs, if_neg hnew]; exact List.mem_append_left _ this
  · rw [hkp]; exact H.keep.but hb (by decide) (by decide) ht
/-- A deal is done. -/
theorem VHeap.doneAdd (H : VHeap T lo w s L tag) {t : Int} {v : Value} (hex : t ∈ s.ds.map (·.tx)) (hb : But w.heap.size tag (fun m => m = (0, 2)) w w') (ht : ∀ k, k < w.heap.size → tag' k = tag k)
    (hd : w'.ownsRow lo T.ptr 1 v (s.dn.length + 1) (s.dn.map (ptrD L) ++ [ptrD L t])) (hm : ∀ k, v.ownBlock = some k → tag' k = (0, 2)) : VHeap T lo w' { s with dn := s.dn ++ [t] } { L with vd := v } tag' := by
  refine ⟨H.map.but hb (by rw [H.mapM]; decide), ?_, H.mapL, H.last.but hb (by rw [H.lastM]; decide), ?_, H.lastL, ?_, hm, ?_, H.nodup, ?_, H.keep.but hb (by decide) (by decide) ht⟩
  · show tag' L.gm = _
    rw [ht _ H.map.lt]; exact H.mapM
  · show tag' L.gl = _
    rw [ht _ H.last.lt]; exact H.lastM
  · show w'.ownsRow lo T.ptr 1 v (s.dn ++ [t]).length ((s.dn ++ [t]).map (ptrD { L with vd := v }))
    rw [List.length_append, List.map_append]; exact hd
  · exact fun e he => (H.deals e he).but hb (fun j hj hS => by injection hS with _ e2; omega) ht rfl rfl rfl rfl
  · intro x hx
    rcases List.mem_append.1 hx with hx | hx
    · exact H.sub x hx
    · rw [List.mem_singleton.1 hx]; exact hex
/-- An item was written. -/
theorem VHeap.lastSet (H : VHeap T lo w s L tag) {l : List Int} (hb : But w.heap.size tag (fun m => m = (0, 1)) w w') (hl : Blk w' L.gl T.num (cellsI l)) : VHeap T lo w' { s with last := l } L tag :=
  ⟨H.map.but hb (by rw [H.mapM]; decide), H.mapM, H.mapL, hl, H.lastM, H.lastL, own_butM H.done hb fun k hk => by rw [H.doneM k hk]; decide, H.doneM,
    fun e he => (H.deals e he).but hb (fun j hj hS => by injection hS with _ e2; omega) (fun _ _ => rfl) rfl rfl rfl rfl, H.nodup, H.sub, H.keep.but hb (by decide) (by decide) fun _ _ => rfl⟩
/-- Someone looked. -/
theorem VHeap.lookAdd (H : VHeap T lo w s L tag) {k : Nat} {v : Value} {l : List HOp} (hb : But w.heap.size tag (fun m => m = (0, 3) ∨ m = (0, 4)) w w') (ht : ∀ j, j < w.heap.size → tag' j = tag j) (hk : KeepH T lo w' tag' l (some (k, v))) : VHeap T lo w' { s with looks := l } { L with kp := some (k, v) } tag' := by
  have hl := H.done.lt
  refine ⟨H.map.but hb (by rw [H.mapM]; decide), ?_, H.mapL, H.last.but hb (by rw [H.lastM]; decide), ?_, H.lastL, own_butM H.done hb fun j hj => by rw [H.doneM j hj]; decide, ?_, ?_, H.nodup, H.sub, hk⟩
  · show tag' L.gm = _
    rw [ht _ H.map.lt]; exact H.mapM
  · show tag' L.gl = _
    rw [ht _ H.last.lt]; exact H.lastM
  · intro j hj
    rw [ht _ (hl j hj).2]; exact H.doneM j hj
  · exact fun e he => (H.deals e he).but hb (fun j hj hS => by rcases hS with hS | hS <;> (injection hS with _ e2; omega)) ht rfl rfl rfl rfl
end
end Go.Proofs.YtfmdeahblaikoaaGreatDoor

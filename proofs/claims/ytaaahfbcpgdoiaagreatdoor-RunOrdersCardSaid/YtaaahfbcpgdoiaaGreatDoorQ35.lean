
/-
  PLAIN LAWS: a run of deals that are looked at when they end (valid.Play): its states, its steps. What was seen, (Tx, Item, From), and a look, (item, from, by), are kept as three numbers (HOp).
  PLAIN FACT: where a deal ends nothing of it comes behind.
  CONTRACT of run.Run, over what its desk answers to a line.
-/
import Derived.Test.YtaaahfbcpgdoiaaGreatDoorQ0
import Derived.Test.YtaaahfbcpgdoiaaGreatDoorQ10
import Derived.Test.YtaaahfbcpgdoiaaGreatDoorQ9
import Derived.Test.YtaaahfbcpgdoiaaGreatDoorQ23
import Derived.Test.YtaaahfbcpgdoiaaGreatDoorQ34
import Derived.Shelf.RegionOpen
import Derived.Laws.Concat

namespace Go.Proofs.YtaaahfbcpgdoiaaGreatDoor
open Go.RowKit

structure Dl where
  tx : Int
  began : Int
  ended : Int
  seen : List HOp
  wrote : List Int
  snap : List Int
  deriving DecidableEq, Repr, Inhabited
structure VSt where
  ds : List Dl
  dn : List Int
  last : List Int
  looks : List HOp
  deriving DecidableEq, Repr, Inhabited
def dget : List Dl → Int → Option Dl
  | [], _ => none
  | d :: t, x => if d.tx = x then some d else dget t x
def dput : List Dl → Dl → List Dl
  | [], d => [d]
  | e :: t, d => if e.tx = d.tx then d :: t else e :: dput t d
/-- A run's rules: what a read sees, who has looked then, whether a deal may commit. -/
structure VRules where
  see : VSt → Dl → Int → Int
  look : VSt → Dl → Int → List HOp
  may : VSt → Dl → Bool
def begD (s : VSt) (at_ : Nat) (tx : Int) : Dl := (dget s.ds tx).getD ⟨tx, at_, -1, [], [], s.last⟩
def openS (s : VSt) (at_ : Nat) (tx : Int) : VSt := { s with ds := dput s.ds (begD s at_ tx) }
def setsL (tx : Int) : List Int → List Int → List Int
  | [], l => l
  | i :: t, l => setsL tx t (l.set (i.toNat - 1) tx)
def vstep (R : VRules) (at_ : Nat) (o : HOp) (s0 : VSt) : VSt :=
  let s := openS s0 at_ o.tx
  let d := begD s0 at_ o.tx
  if o.what = 1 then
    if o.item ∈ d.wrote then { s with ds := dput s.ds { d with seen := d.seen ++ [⟨o.tx, o.item, o.tx⟩] } }
    else { s with ds := dput s.ds { d with seen := d.seen ++ [⟨o.tx, o.item, R.see s d o.item⟩] }, looks := R.look s d o.item }
  else if o.what = 2 then { s with ds := dput s.ds { d with wrote := d.wrote ++ [o.item] } }
  else if o.what = 3 then
    if R.may s d then { s with ds := dput s.ds { d with ended := at_ }, dn := s.dn ++ [o.tx], last := setsL o.tx d.wrote s.last }
    else s
  else s
def vrun (R : VRules) : Nat → List HOp → VSt → VSt
  | _, [], s => s
  | k, o :: t, s => vrun R (k + 1) t (vstep R k o s)
def vs00 : VSt := ⟨[], [], [0, 0, 0, 0, 0, 0], []⟩
def playV (R : VRules) (h : List HOp) : VSt := vrun R 0 h vs00
/-- Of a state: who is done, as they are. -/
def doneD (s : VSt) : List Dl := s.dn.map fun t => (dget s.ds t).getD ⟨t, 0, 0, [], [], []⟩
def readD (d : Dl) (item : Int) : Bool := d.seen.any fun s => decide (s.what = item) && !decide (s.item = d.tx)
def sinceD (began : Int) (done : List Dl) (is : Int → Bool) : Bool := done.any fun d => decide (d.ended > began) && d.wrote.any is
def atOnceD (a b : Dl) : Bool := (decide (b.ended < 0) || decide (a.began < b.ended)) && (decide (a.ended < 0) || decide (b.began < a.ended))

theorem dget_put : ∀ (l : List Dl) (d : Dl) (x : Int), dget (dput l d) x = if d.tx = x then some d else dget l x
  | [], d, x => by simp only [dput, dget]
  | e :: t, d, x => by
    by_cases h : e.tx = d.tx
    · rw [dput, if_pos h, dget, dget]
      by_cases h2 : d.tx = x
      · rw [if_pos h2, if_pos h2]
      · rw [if_neg h2, if_neg h2, if_neg (fun e' => h2 (h.symm.trans e'))]
    · rw [dput, if_neg h, dget, dget, dget_put t d x]
      by_cases h2 : e.tx = x
      · rw [if_pos h2, if_neg (fun e' => h (h2.trans e'.symm)), if_pos h2]
      · rw [if_neg h2, if_neg h2]
theorem dget_tx : ∀ {l : List Dl} {x : Int} {d : Dl}, dget l x = some d → d.tx = x ∧ d ∈ l
  | [], _, _, h => by cases h
  | e :: t, x, d, h => by
    rw [dget] at h
    split at h
    · rename_i he
      cases h
      exact ⟨he, List.mem_cons_self⟩
    · have := dget_tx h
      exact ⟨this.1, List.mem_cons_of_mem _ this.2⟩
theorem mem_dput : ∀ {l : List Dl} {d e : Dl}, e ∈ dput l d → e = d ∨ e ∈ l
  | [], d, e, h => by simp only [dput, List.mem_singleton] at h; exact .inl h
  | x :: t, d, e, h => by
    rw [dput] at h
    split at h
    · rcases List.mem_cons.1 h with h | h
      · exact .inl h
      · exact .inr (List.mem_cons_of_mem _ h)
    · rcases List.mem_cons.1 h with h | h
      · exact .inr (by rw [h]; exact List.mem_cons_self)
      · rcases mem_dput h with h | h
        · exact .inl h
        · exact .inr (List.mem_cons_of_mem _ h)
theorem mem_dput_self : ∀ (l : List Dl) (d : Dl), d ∈ dput l d
  | [], d => List.mem_singleton.2 rfl
  | x :: t, d => by
    rw [dput]
    split
    · exact List.mem_cons_self
    · exact List.mem_cons_of_mem _ (mem_dput_self t d)
/-- The numbers of the deals: those that were there, and behind them the new one. -/
theorem dput_txs : ∀ (l : List Dl) (d : Dl), (dput l d).map (·.tx) = if d.tx ∈ l.map (·.tx) then l.map (·.tx) else l.map (·.tx) ++ [d.tx]
  | [], d => rfl
  | x :: t, d => by
    rw [dput]
    by_cases h : x.tx = d.tx
    · rw [if_pos h, if_pos (by simp [h])]
      simp [h]
    · rw [if_neg h, List.map_cons, dput_txs t d]
      by_cases h2 : d.tx ∈ t.map (·.tx)
      · rw [if_pos h2, if_pos (by simp only [List.map_cons]; exact List.mem_cons_of_mem _ h2), List.map_cons]
      · rw [if_neg h2, if_neg (by simp only [List.map_cons, List.mem_cons, not_or]; exact ⟨fun e => h e.symm, h2⟩)]
        rfl
theorem dput_nodup {l : List Dl} (hn : (l.map (·.tx)).Nodup) (d : Dl) : ((dput l d).map (·.tx)).Nodup := by
  rw [dput_txs]
  split
  · exact hn
  · rename_i h
    exact List.nodup_append.2 ⟨hn, by simp, fun x hx y hy e => h (by rw [List.mem_singleton] at hy; rw [← hy, ← e]; exact hx)⟩
theorem dget_mem : ∀ {l : List Dl}, (l.map (·.tx)).Nodup → ∀ {d : Dl}, d ∈ l → dget l d.tx = some d
  | [], _, _, h => by cases h
  | x :: t, hn, d, h => by
    rw [List.map_cons, List.nodup_cons] at hn
    rw [dget]
    rcases List.mem_cons.1 h with rfl | h
    · rw [if_pos rfl]
    · rw [if_neg (fun e => hn.1 (by rw [e]; exact List.mem_map.2 ⟨d, h, rfl⟩)), dget_mem hn.2 h]
theorem dput_put : ∀ (l : List Dl) {d d' : Dl}, d.tx = d'.tx → dput (dput l d) d' = dput l d'
  | [], d, d', h => by simp [dput, h]
  | x :: t, d, d', h => by
    simp only [dput]
    by_cases h2 : x.tx = d.tx
    · rw [if_pos h2, if_pos (h2.trans h)]
      simp [dput, h]
    · rw [if_neg h2, if_neg (fun e => h2 (e.trans h.symm))]
      simp only [dput]
      rw [if_neg (fun e => h2 (e.trans h.symm)), dput_put t h]
theorem setsL_len (tx : Int) : ∀ (l m : List Int), (setsL tx l m).length = m.length
  | [], _ => rfl
  | i :: t, m => by rw [setsL, setsL_len tx t]; simp
end Go.Proofs.YtaaahfbcpgdoiaaGreatDoor


namespace Go.Proofs.YtaaahfbcpgdoiaaGreatDoor
open Go.RowKit

theorem end_at {h : List HOp} (hk : okH h) {k : Nat} {o : HOp} (ho : h[k]? = some o) : ∀ (j : Nat) (x : HOp), h[j]? = some x → x.tx = o.tx → 3 ≤ x.what → k ≤ j := by
  intro j x hx ht hw
  rcases Nat.lt_or_ge j k with hlt | hge
  · exfalso
    have hd : h = h.take k ++ o :: h.drop (k + 1) := split_at ho
    obtain ⟨_, hn⟩ := okH_after (a := h.take k) (r := h.drop (k + 1)) (o := o) (by rw [← hd]; exact hk)
    have hm : x ∈ h.take k := List.mem_iff_getElem?.2 ⟨j, by rw [List.getElem?_take, if_pos hlt]; exact hx⟩
    unfold endIn at hn
    have := List.any_eq_false.1 hn x hm
    simp at this
    exact absurd hw (by have := this ht; omega)
  · exact hge
end Go.Proofs.YtaaahfbcpgdoiaaGreatDoor


namespace Go.Proofs.YtaaahfbcpgdoiaaGreatDoor
open Go.RowKit Go.Shelf

attribute [local go_sem] Oper.semAt_some
def stepR (f : List HOp → List UInt8 → List HOp × List UInt8) (s : List HOp × List UInt8) (x : List UInt8) : List HOp × List UInt8 := ((f s.1 (trimN x)).1, s.2 ++ ((f s.1 (trimN x)).2 ++ [10]))
def stR (f : List HOp → List UInt8 → List HOp × List UInt8) (l : List (List UInt8)) : List HOp × List UInt8 := l.foldl (stepR f) ([], [])
theorem stR_app (f : List HOp → List UInt8 → List HOp × List UInt8) (pre : List (List UInt8)) (x : List UInt8) : stR f (pre ++ [x]) = stepR f (stR f pre) x := by simp [stR]
def runF (f : List HOp → List UInt8 → List HOp × List UInt8) (t : List UInt8) : List UInt8 := if 3000 < t.length then [116, 111, 111, 32, 108, 111, 110, 103, 10] else (stR f (linesL t)).2
theorem linesGo_flat : ∀ (t cur : List UInt8), (linesGo cur t).flatten = cur ++ t
  | [], cur => by
    unfold linesGo
    split
    · next h => rw [h]; rfl
    · simp
  | b :: t, cur => by
    unfold linesGo
    split
    · rw [List.flatten_cons, linesGo_flat t []]; simp
    · rw [linesGo_flat t _]; simp
theorem line_len {t x : List UInt8} {pre r : List (List UInt8)} (h : linesL t = pre ++ x :: r) : x.length ≤ t.length := by
  have e : (linesL t).flatten = t := linesGo_flat t []
  rw [h] at e
  rw [← e]
  simp
  omega
/-! ### What stays. -/
abbrev Off (T₁ T₂ : TypeId) (S : Nat → Prop) (w : World) : Prop := ∀ k c T fz, S k → w.heap[k]? = some (.cells c T fz) → T ≠ T₁ ∧ T ≠ T₂
theorem Bld.of_chg {S : Nat → Prop} {w w' : World} {B b : Nat} {l : List UInt8} (h : Bld w B b l) (hc : Chg S w w') (hS : Off 5 35 S w) : Bld w' B b l := by
  have hh : ∀ {p : Value}, Lib.BuilderAtF 35 5 B b p (Lib.byteCells l) w → Lib.BuilderAtF 35 5 B b p (Lib.byteCells l) w' := by
    rintro p ⟨hB, v, hb, ho, hne⟩
    refine ⟨hB, v, ?_, ?_, hne⟩
    · rw [hc.block b (Array.getElem?_eq_some_iff.1 hb).1 (fun hs => (hS b _ _ _ hs hb).2 rfl)]
      exact hb
    · refine ⟨ho.1, ?_⟩
      rcases ho.2 with hn | ⟨g, cap, cur, fz, rfl, hbb, hgg, rest⟩
      · exact .inl hn
      · refine .inr ⟨g, cap, cur, fz, rfl, hbb, ?_, rest⟩
        rw [hc.block g (Array.getElem?_eq_some_iff.1 hgg).1 (fun hs => (hS g _ _ _ hs hgg).1 rfl)]
        exact hgg
  exact h.elim (fun h => .inl (hh h)) (fun h => .inr (hh h))
theorem Desk.of_chg {S : Nat → Prop} {w w' : World} {lo gd : Nat} {A : Option Addr} {n c : Nat} {h : List HOp} (D : Desk w lo gd A n c h) (hc : Chg S w w') (hS : Off 31 91 S w) : Desk w' lo gd A n c h := by
  have hb : w.heap[gd]? = _ := D.blk
  refine ⟨D.blk.chg hc (fun hs => (hS gd _ _ _ hs hb).1 rfl), own_same D.row (fun k hk => ?_), D.ok, D.lo⟩
  rcases D.row.2 with ⟨e, _⟩ | ⟨g, cap, cur, e, _, hgg, _⟩
  · rw [e] at hk; cases hk
  · rw [e] at hk
    injection hk with hk
    subst hk
    exact hc.block _ (Array.getElem?_eq_some_iff.1 hgg).1 (fun hs => (hS _ _ _ _ hs hgg).2 rfl)
theorem Chg.of_others {e : TypeId} {b B : Nat} {w w' : World} (hb : Below B w w') (h : Lib.OthersKept e (some b) w w') : Chg (fun k => k = b ∨ ∃ c fz, w.heap[k]? = some (.cells c e fz)) w w' := by
  refine ⟨hb.os, hb.tape, hb.output, hb.size, fun k hk hn => ?_⟩
  have e1 := Array.getElem?_eq_getElem hk
  rw [e1]
  exact h k _ e1 (fun e2 => hn (.inl (Option.some.inj e2))) (fun c fz e2 => hn (.inr ⟨c, fz, by rw [e1, e2]⟩))
theorem Bld.at {w : World} {B b : Nat} {l : List UInt8} (h : Bld w B b l) : B ≤ b ∧ ∃ c, w.heap[b]? = some (.cells c 35 (0, 0)) := by
  rcases h with ⟨hB, v, hb, _⟩ | ⟨hB, v, hb, _⟩
  · exact ⟨hB, _, hb⟩
  · exact ⟨hB, _, hb⟩
theorem off_others {B b : Nat} {l : List UInt8} {w : World} (h : Bld w B b l) (T₁ T₂ : TypeId) (h1 : T₁ ≠ 5 ∧ T₁ ≠ 35) (h2 : T₂ ≠ 5 ∧ T₂ ≠ 35) : Off T₁ T₂ (fun k => k = b ∨ ∃ c fz, w.heap[k]? = some (.cells c 5 fz)) w := by
  rintro k c T fz (rfl | ⟨c', fz', e⟩) hk
  · obtain ⟨_, c', e⟩ := h.at
    rw [e] at hk; cases hk
    exact ⟨h1.2.symm, h2.2.symm⟩
  · rw [e] at hk; cases hk
    exact ⟨h1.1.symm, h2.1.symm⟩
/-- What holds behind the lines pre. -/
def RunI (f : List HOp → List UInt8 → List HOp × List UInt8) (w : World) (pre : List (List UInt8)) (W : World) : Prop :=
  ∃ A n c u, Desk W w.heap.size w.heap.size A n c (stR f pre).1 ∧ Blk W (w.heap.size + 1) 28 [.pointer (some ⟨w.heap.size, 0, none⟩)] ∧ Bld W w.heap.size (w.heap.size + 2) (stR f pre).2 ∧ Blk W (w.heap.size + 3) 9 [u] ∧ Below w.heap.size w W
theorem RunI.own (f : List HOp → List UInt8 → List HOp × List UInt8) (w : World) (B : Nat) (hB : w.heap.size ≤ B) : OwnFrom B (RunI f w) := by
  rintro s X Y row ⟨A, n, c, u, h1, h2, h3, h4, h5⟩ hg hr
  have hc : Chg (fun k => row = some k) X Y := (Chg.refl _ X).grown hg (fun k e => .inl e)
  have off : ∀ T₁ T₂, Off T₁ T₂ (fun k => row = some k) X := fun T₁ T₂ k c T fz hs hk => by
    obtain ⟨_, o, ho, hn⟩ := hr k hs
    rw [ho] at hk; cases hk; cases hn
  have blk : ∀ {b t cs}, Blk X b t cs → Blk Y b t cs := fun {b t cs} h => (hc.block b h.lt (fun hs => by
    obtain ⟨_, o, ho, hn⟩ := hr b hs
    have h' : X.heap[b]? = _ := h
    rw [ho] at h'; cases h'; cases hn)).trans h
  exact ⟨A, n, c, u, h1.of_chg hc (off _ _), blk h2, h3.of_chg hc (off _ _), blk h4, h5.trans (hc.below (fun k hs => by have := (hr k hs).1; omega) h5.size)⟩
theorem RunI.set {f : List HOp → List UInt8 → List HOp × List UInt8} {w : World} {s : List (List UInt8)} {X : World} (v : Value) (h : RunI f w s X) : RunI f w s (X.setCell ⟨w.heap.size + 3, 0, none⟩ v) := by
  obtain ⟨A, n, c, u, h1, h2, h3, h4, h5⟩ := h
  have hc : Chg (fun k => k = w.heap.size + 3) X (X.setCell ⟨w.heap.size + 3, 0, none⟩ v) := (Chg.refl (fun k => k = w.heap.size + 3) X).set (p := ⟨w.heap.size + 3, 0, none⟩) (.inl rfl) v
  have hb : X.heap[w.heap.size + 3]? = _ := h4
  have off : ∀ T₁ T₂, T₁ ≠ 9 → T₂ ≠ 9 → Off T₁ T₂ (fun k => k = w.heap.size + 3) X := fun T₁ T₂ e1 e2 k c T fz hs hk => by
    rw [hs, hb] at hk; cases hk; exact ⟨e1.symm, e2.symm⟩
  exact ⟨A, n, c, v, h1.of_chg hc (off _ _ (by decide) (by decide)), h2.chg hc (by omega), h3.of_chg hc (off _ _ (by decide) (by decide)), h4.put 0 v, h5.setCell (by show w.heap.size ≤ w.heap.size + 3; omega) v⟩
theorem RunI.mid {f : List HOp → List UInt8 → List HOp × List UInt8} {w : World} {pre : List (List UInt8)} {W w1 : World} (h : RunI f w pre W) (hc : Chg (fun k => k = w.heap.size) W w1) : Bld w1 w.heap.size (w.heap.size + 2) (stR f pre).2 := by
  obtain ⟨A, n, c, u, h1, h2, h3, h4, h5⟩ := h
  have hgd : W.heap[w.heap.size]? = _ := h1.blk
  exact h3.of_chg hc (fun k c T fz hs hk => by rw [hs, hgd] at hk; cases hk; exact ⟨by decide, by decide⟩)
/-- A line: its answer, and the answer written. -/
theorem RunI.step {f : List HOp → List UInt8 → List HOp × List UInt8} {w : World} {pre : List (List UInt8)} {x : List UInt8} {W w1 w2 : World} (h : RunI f w pre W)
    (hd : ∃ A n c, Desk w1 w.heap.size w.heap.size A n c (f (stR f pre).1 (trimN x)).1) (hc : Chg (fun k => k = w.heap.size) W w1)
    (hb : Bld w2 w.heap.size (w.heap.size + 2) ((stR f pre).2 ++ ((f (stR f pre).1 (trimN x)).2 ++ [10]))) (hbb : Below w.heap.size w1 w2) (ho : Lib.OthersKept 5 (some (w.heap.size + 2)) w1 w2) :
    KeepsFrom w.heap.size W w2 ∧ w2.heap[w.heap.size + 3]? = W.heap[w.heap.size + 3]? ∧ RunI f w (pre ++ [x]) w2 := by
  have b1 := h.mid hc
  obtain ⟨A, n, c, u, h1, h2, h3, h4, h5⟩ := h
  obtain ⟨A1, n1, c1, hd⟩ := hd
  have hgd : W.heap[w.heap.size]? = _ := h1.blk
  have c2 := Chg.of_others hbb ho
  have k2 := h2.chg hc (by omega)
  have k4 := h4.chg hc (by omega)
  have blk : ∀ {b t cs}, t ≠ 5 → t ≠ 35 → Blk w1 b t cs → w2.heap[b]? = w1.heap[b]? := fun {b t cs} e1 e2 h => c2.block b h.lt (by
    have h' : w1.heap[b]? = _ := h
    rintro (rfl | ⟨c', fz', e⟩)
    · obtain ⟨_, c', e⟩ := b1.at
      rw [e] at h'; cases h'; exact e2 rfl
    · rw [e] at h'; cases h'; exact e1 rfl)
  have s4 := blk (by decide) (by decide) k4
  refine ⟨⟨Nat.le_trans hc.size c2.size, fun k o hk ho' hn => ?_⟩, s4.trans (hc.block _ h4.lt (by omega)), A1, n1, c1, u, ?_, (blk (by decide) (by decide) k2).trans k2, ?_, s4.trans k4, h5.trans ((hc.below (fun k e => by omega) h5.size).trans hbb)⟩
  · have e1 : w1.heap[k]? = some o := (hc.block k (Array.getElem?_eq_some_iff.1 ho').1 (fun e => by
      rw [e, hgd] at ho'; cases ho'; cases hn)).trans ho'
    refine ho k o e1 (fun e => ?_) (fun c fz e => by rw [e] at hn; cases hn)
    obtain ⟨_, c', e2⟩ := b1.at
    rw [Option.some.inj e, e2] at e1; cases e1; cases hn
  · rw [stR_app]
    exact hd.of_chg c2 (off_others b1 _ _ (by decide) (by decide))
  · rw [stR_app]
    exact hb
/-- The world ahead of the lines. -/
def startW (w : World) (u : Value) : World := (((w.alloc (.cells #[.slice none 0 0] 31)).alloc (.cells #[.pointer (some ⟨w.heap.size, 0, none⟩)] 28)).alloc (.cells #[.pointer none, .slice none 0 0] 35)).alloc (.cells #[u] 9)
theorem start_size (w : World) (u : Value) : (startW w u).heap.size = w.heap.size + 4 := by simp [startW]
theorem start_blk (w : World) (u : Value) : Blk (startW w u) (w.heap.size + 3) 9 [u] := by
  have := Blk.new (((w.alloc (.cells #[.slice none 0 0] 31)).alloc (.cells #[.pointer (some ⟨w.heap.size, 0, none⟩)] 28)).alloc (.cells #[.pointer none, .slice none 0 0] 35)) 9 [u]
  have h2 : Blk (startW w u) (w.heap.size + 1 + 1 + 1) 9 [u] := by simpa [startW] using this
  exact h2
theorem RunI.start (f : List HOp → List UInt8 → List HOp × List UInt8) (w : World) (u : Value) : RunI f w [] (startW w u) := by
  have b0 : Blk (startW w u) w.heap.size 31 [.slice none 0 0] := (((Blk.new w 31 [.slice none 0 0]).alloc _).alloc _).alloc _
  have b1 : Blk (startW w u) (w.heap.size + 1) 28 [.pointer (some ⟨w.heap.size, 0, none⟩)] := by
    have := ((Blk.new (w.alloc (.cells #[.slice none 0 0] 31)) 28 [.pointer (some ⟨w.heap.size, 0, none⟩)]).alloc (.cells #[.pointer none, .slice none 0 0] 35)).alloc (.cells #[u] 9)
    simpa [startW] using this
  have b2 : Blk (startW w u) (w.heap.size + 2) 35 [.pointer none, .slice none 0 0] := by
    have := (Blk.new ((w.alloc (.cells #[.slice none 0 0] 31)).alloc (.cells #[.pointer (some ⟨w.heap.size, 0, none⟩)] 28)) 35 [.pointer none, .slice none 0 0]).alloc (.cells #[u] 9)
    have h2 : Blk (startW w u) (w.heap.size + 1 + 1) 35 [.pointer none, .slice none 0 0] := by simpa [startW] using this
    exact h2
  exact ⟨none, 0, 0, u, ⟨b0, ⟨rfl, .inl ⟨rfl, rfl⟩⟩, by show (checkF []).2 = 0; decide, Nat.le_refl _⟩, b1, .inl ⟨by omega, .slice none 0 0, b2, World.ownsRowF_nil _ _ _ _, by intro h; cases h⟩, start_blk w u,
    ((((Below.refl _ w).alloc (Nat.le_refl _) _).alloc (by simp) _).alloc (by simp; omega) _).alloc (by simp; omega) _⟩
theorem bstringK_any (B b : Nat) (l : List UInt8) (w : World) (h : Bld w B b l) (hB : B ≤ w.heap.size) :
    Calls Tryz.prog 11 #[.pointer (some ⟨b, 0, none⟩)] w fun e w' => e = .returned (.string ⟨l.toArray⟩) ∧ Below B w w' ∧ Lib.OthersKept 5 (some b) w w' :=
  (Any.Builder_String_any_k bsL bxJoin B b l w h hB).mono fun _ _ ⟨h1, _, h3, h4⟩ => ⟨h1, h3, h4⟩

set_option maxRecDepth 100000 in
set_option maxHeartbeats 2000000 in
theorem run_any (f : List HOp → List UInt8 → List HOp × List UInt8) (t : List UInt8) (w : World)
    (hlen : ∀ pre, pre <+: linesL t → (stR f pre).2.length ≤ 500000000)
    (HA : ∀ pre x r W A n c, linesL t = pre ++ x :: r → Below w.heap.size w W → Desk W w.heap.size w.heap.size A n c (stR f pre).1 →
      Calls Tryz.prog 9 #[.pointer (some ⟨w.heap.size, 0, none⟩), .string ⟨(trimN x).toArray⟩] W (AnsP W w.heap.size w.heap.size (f (stR f pre).1 (trimN x)).1 (f (stR f pre).1 (trimN x)).2)) :
    Calls Tryz.prog 5 #[.string ⟨t.toArray⟩] w fun e w' => e = .returned (.string ⟨(runF f t).toArray⟩) ∧ Below w.heap.size w w' := by
  have hsz : (⟨t.toArray⟩ : ByteArray).size = t.length := rfl
  refine (callsIn_wide (n := 6)).1 ?_
  refine callsIn_of_wp_marks Tryz.func5 rfl trivial ?_ rfl
  simp only [Tryz.ntmps5, List.size_toArray, List.length_cons, List.length_nil, Nat.reduceAdd, Nat.reduceSub, Array.replicate_succ, Array.replicate_zero, List.push_toArray, List.append_toArray, List.nil_append, List.cons_append]
  have HHA := hide HA
  have HHL := hide hlen
  clear HA hlen
  by_cases hl : 3000 < t.length
  · have hu : (3000 : Int) < (t.length : Int) := by omega
    rw [show runF f t = [116, 111, 111, 32, 108, 111, 110, 103, 10] by unfold runF; rw [if_pos hl]]
    gi_wp2
    exact ⟨_, results_tmp rfl _ _ _, rfl, Below.refl _ _⟩
  · have hu : (t.length : Int) ≤ (3000 : Int) := by omega
    rw [show runF f t = (stR f (linesL t)).2 by unfold runF; rw [if_neg hl]]
    gi_wp2_with (refine ⟨trivial, ?_⟩; gi_at_call 7; refine (callsIn_wide.2 (lines_any _ _)).mono ?_; rintro e w' ⟨rfl, rfl⟩)
    have hI0 := RunI.start f w (.string ⟨t.toArray⟩)
    have hBs := start_blk w (.string ⟨t.toArray⟩)
    have hs0 := start_size w (.string ⟨t.toArray⟩)
    unfold startW at hI0 hBs hs0
    generalize (((w.alloc (.cells #[.slice none 0 0] 31)).alloc (.cells #[.pointer (some ⟨w.heap.size, 0, none⟩)] 28)).alloc (.cells #[.pointer none, .slice none 0 0] 35)).alloc (.cells #[.string ⟨t.toArray⟩] 9) = W0 at *
    refine range_set rfl (by omega) (gf := 12) (lb := #[.pointer (some ⟨w.heap.size + 3, 0, none⟩)]) rfl trivial (enters_of Tryz.func12 (by kernel_rfl) rfl) (encs := encL) (Bs := w.heap.size + 3) (zs := linesL t) (by omega)
      (lines_set 5 (by omega) (w.heap.size + 3) t (by omega) W0 hBs) (fun x => rfl) (RunI f w) (RunI.own f w _ (by omega)) (fun s X v h => h.set v) hI0
      (fun x => { tmps := #[.string ⟨t.toArray⟩, undef, .string ⟨#[]⟩, .pointer (some ⟨w.heap.size + 1, 0, none⟩), .pointer (some ⟨w.heap.size + 1 + 1, 0, none⟩), .string ⟨x.toArray⟩, .string ⟨t.toArray⟩, .int .i64 t.length, .bool (decide (3000 < (t.length : Int))), .agg #[.slice none 0 0], .pointer (some ⟨w.heap.size, 0, none⟩), .string ⟨t.toArray⟩, .func (.func 12) #[] #[.pointer (some ⟨w.heap.size + 1 + 1 + 1, 0, none⟩)], .string ⟨x.toArray⟩, undef, undef, undef, undef, undef, undef, undef], defers := [] }) ?assign ?body ?done
    case assign =>
      rintro l x W K hK
      dsimp only [encL]
      gi_wp2
      exact hK
    case body =>
      rintro l pre x r W hz hsW hI
      have HI := Lib.hid hI
      have hxl := line_len hz
      have hout := unhide HHL (pre ++ [x]) ⟨r, by rw [hz]; simp⟩
      rw [stR_app] at hout
      simp only [stepR, List.length_append, List.length_cons, List.length_nil] at hout
      have CT := hide (fun w1 => trim_line x w1 (by omega))
      have CW := hide (fun w1 (hc : Chg (fun k => k = w.heap.size) W w1) => bwrite_any w.heap.size (w.heap.size + 2) (stR f pre).2 ((f (stR f pre).1 (trimN x)).2 ++ [10]) w1 (HI.out.mid hc) (by simp; omega) (by have := hc.size; omega))
      have hcat : (⟨(f (stR f pre).1 (trimN x)).2.toArray⟩ : ByteArray) ++ ⟨#[10]⟩ = ⟨((f (stR f pre).1 (trimN x)).2 ++ [10]).toArray⟩ := by
        apply ByteArray.ext
        rw [ByteArray.data_append]
        simp
      obtain ⟨A, n, c, u, h1, h2, h3, h4, h5⟩ := hI
      have kc := h2.cellS (i := 0) (v := .pointer (some ⟨w.heap.size, 0, none⟩)) rfl
      have hdr : Below W.heap.size W W.drew := ⟨rfl, rfl, rfl, Nat.le_refl _, fun _ _ => rfl⟩
      have CA := hide (unhide HHA pre x r W.drew A n c hz (h5.trans (hdr.mono h5.size)) (h1.below hdr))
      have hc0 : Chg (fun k => k = w.heap.size) W W.drew := Chg.of_below hdr
      have HST := hide (fun w1 w2 hd hc hb hbb ho => RunI.step (w1 := w1) (w2 := w2) (x := x) HI.out hd hc hb hbb ho)
      have hso : ¬ (9223372036854775807 < (⟨(f (stR f pre).1 (trimN x)).2.toArray⟩ : ByteArray).size + 1) := by show ¬ (9223372036854775807 < (f (stR f pre).1 (trimN x)).2.length + 1); omega
      have h10 : (⟨#[10]⟩ : ByteArray).size = 1 := rfl
      have hmx : Tryz.prog.follows .mixedOrders = true := by kernel_rfl
      clear HI h1 h2 h3 h4 h5 HHA HHL hout hdr
      generalize (f (stR f pre).1 (trimN x)).2 = o at *
      generalize (⟨(o ++ [10]).toArray⟩ : ByteArray) = SN at *
      have hso2 : ¬ (9223372036854775807 < o.length + 1) := hso
      gi_wp2
      gi_region_with_o (first
        | (refine ⟨trivial, ?_⟩; gi_at_call 10; refine (CallsIn.inRound l (callsIn_wide.2 (unhide CT _))).mono ?_; rintro e w' ⟨rfl, rfl⟩)
        | (refine ⟨trivial, ?_⟩; gi_at_call 9; refine (CallsIn.inRound l (callsIn_wide.2 (unhide CA))).mono ?_; rintro e w1 ⟨rfl, A1, n1, c1, D1, hc1⟩)
        | (refine ⟨trivial, ?_⟩; gi_at_call 8; refine (CallsIn.inRound l (callsIn_wide.2 (unhide CW _ (hc0.trans hc1)))).mono ?_; rintro e w2 ⟨rfl, hb2, hbb2, ho2⟩))
      all_goals
        gi_wp2
        obtain ⟨e1, e2, e3⟩ := unhide HST w1 w2 ⟨_, _, _, D1⟩ (hc0.trans hc1) hb2 hbb2 ho2
        exact ⟨⟨e1.size, fun k o hk => e1.same k o (by omega)⟩, e2, e3⟩
    case done =>
      rintro D W hD hI hK
      obtain ⟨A, n, c, u, h1, h2, h3, h4, h5⟩ := hI
      have CS := hide (bstringK_any w.heap.size (w.heap.size + 2) (stR f (linesL t)).2 W h3 h5.size)
      gi_wp2_with (refine ⟨trivial, ?_⟩; gi_at_call 11; refine (callsIn_wide.2 (unhide CS)).mono ?_; rintro e w' ⟨rfl, hb, ho⟩)
      have hK' : w'.heap[D]? = some (.deferred (some [])) := ho D _ hK (fun e => by have := Option.some.inj e; omega) (fun c fz e => by cases e)
      refine ⟨by simp, .inl ⟨_, _, rfl, run_takeDeferred hK', ?_⟩⟩
      exact ⟨_, results_tmp rfl _ _ _, rfl, (h5.trans hb).trans (belowK_b (w := w) (Nat.le_refl _) _ D _ _ (by omega) hK' rfl rfl)⟩
end Go.Proofs.YtaaahfbcpgdoiaaGreatDoor

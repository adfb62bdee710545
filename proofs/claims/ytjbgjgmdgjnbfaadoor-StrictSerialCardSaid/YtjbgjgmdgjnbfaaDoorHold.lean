
/-
  CONTRACT of locks.hold.
-/
import Derived.Test.YtjbgjgmdgjnbfaaDoorTab
import Derived.Outline

namespace Go.Proofs.YtjbgjgmdgjnbfaaDoor
open Go.RowKit

/-- A lock is held: in the place of the deal's own on that item, or behind all. -/
def holdL (H : List HOp) (l : HOp) : List HOp := match H.findIdx? (ofP l.tx l.what) with
  | some i => H.set i l
  | none => H ++ [l]
theorem idx_find {α : Type} (p : α → Bool) (h : List α) : (h.findIdx? p = none ∧ idxGo p 0 h = -1) ∨ ∃ i : Nat, h.findIdx? p = some i ∧ i < h.length ∧ idxGo p 0 h = i := by
  rcases idxGo_spec p 0 h with ⟨h1, h2⟩ | ⟨i, o, h1, h2, h3, h4⟩
  · exact .inl ⟨List.findIdx?_eq_none_iff.2 (fun x hx => by simp [h1 x hx]), h2⟩
  · have hi := (List.getElem?_eq_some_iff.1 h1).1
    refine .inr ⟨i, ?_, hi, by rw [h4]; omega⟩
    rw [List.findIdx?_eq_some_iff_getElem]
    refine ⟨hi, by rw [(List.getElem?_eq_some_iff.1 h1).2]; exact h2, fun j hj => ?_⟩
    have : h[j]'(by omega) ∈ h.take i := by
      rw [List.mem_iff_getElem?]
      exact ⟨j, by rw [List.getElem?_take, if_pos hj, List.getElem?_eq_getElem]⟩
    simp [h3 _ this]

theorem ocells' {w : World} {g : Nat} {t : TypeId} {a b c : Int} (h : Blk w g t [.int .i64 a, .int .i64 b, .int .i64 c]) :
    w.cell? ⟨g, 0, none⟩ = some (.int .i64 a) ∧ w.cell? ⟨g, 1, none⟩ = some (.int .i64 b) ∧ w.cell? ⟨g, 2, none⟩ = some (.int .i64 c) := ⟨h.cellS rfl, h.cellS rfl, h.cellS rfl⟩
/-- What hold leaves. -/
def HoldPostR (w : World) (lo g : Nat) (v1 v2 : Value) (H : List HOp) (nw : Nat) (ys : List Value) (l : HOp) (e : Ending) (w' : World) : Prop :=
  ∃ v v1', e = .returned v ∧ TabR w' lo g v1' v2 (holdL H l) nw ys ∧ Chg (fun k => k = g ∨ v1.ownBlock = some k) w w' ∧ (v1'.ownBlock = v1.ownBlock ∨ ∃ k, v1'.ownBlock = some k ∧ w.heap.size ≤ k)

set_option maxRecDepth 100000 in
set_option maxHeartbeats 2000000 in
theorem holdR_any (lo g : Nat) (v1 v2 : Value) (H : List HOp) (nw : Nat) (ys : List Value) (l : HOp) (w : World) (T : TabR w lo g v1 v2 H nw ys) (hm : H.length ≤ 1000000) (hlo : lo ≤ w.heap.size) :
    Calls Tryd.prog 27 #[.pointer (some ⟨g, 0, none⟩), l.val] w (HoldPostR w lo g v1 v2 H nw ys l) := by
  obtain ⟨A1, c1, rfl⟩ := own_slice T.held
  obtain ⟨l1, l2, l3⟩ := l
  have hr := rd_own T.held
  have C := hide (fun w1 (hb : Below w.heap.size w w1) => lof_any A1 H.length c1 H l1 l2 w1 ((hr.below hb).more hb.size) (by omega))
  have hgl := T.blk.lt
  have hB0 := Blk.new w 60 [.int .i64 l1, .int .i64 l2, .int .i64 l3]
  have hT0 := T.below ((Below.refl _ _).alloc (Nat.le_refl _) (.cells #[.int .i64 l1, .int .i64 l2, .int .i64 l3] 60))
  have k0 := hT0.blk.cellS (i := 0) (v := .slice A1 H.length c1) rfl
  obtain ⟨m0, m1, m2⟩ : _ ∧ _ ∧ _ := ⟨hB0.cellS (i := 0) (v := .int .i64 l1) rfl, hB0.cellS (i := 1) (v := .int .i64 l2) rfl, hB0.cellS (i := 2) (v := .int .i64 l3) rfl⟩
  have hb0 : Below w.heap.size w (w.alloc (.cells #[.int .i64 l1, .int .i64 l2, .int .i64 l3] 60)) := (Below.refl _ _).alloc (Nat.le_refl _) _
  have hfind := idx_find (ofP l1 l2) H
  unfold HOp.val
  go_enter Tryd.func27, Tryd.ntmps27
  go_wp2_with fail
  generalize w.alloc (.cells #[.int .i64 l1, .int .i64 l2, .int .i64 l3] 60) = w1 at *
  go_region_held3 (fun w' => w'.cell? ⟨g, 0, none⟩ = some (.slice A1 H.length c1) ∧ w'.cell? ⟨w.heap.size, 0, none⟩ = some (.int .i64 l1) ∧ w'.cell? ⟨w.heap.size, 1, none⟩ = some (.int .i64 l2)) (first | exact ⟨k0, m0, m1⟩ | exact hcell6 | go_keep)
    (first
      | (go_at_call 25; refine (unhide C _ (by first | exact hb0 | exact hb0.drew)).mono ?_; rintro e w2 ⟨rfl, hb2⟩; have hcell6 : w2.cell? ⟨g, 0, none⟩ = some (.slice A1 H.length c1) ∧ w2.cell? ⟨w.heap.size, 0, none⟩ = some (.int .i64 l1) ∧ w2.cell? ⟨w.heap.size, 1, none⟩ = some (.int .i64 l2) := ⟨(hb2.cell (p := ⟨g, 0, none⟩) hT0.blk.lt).trans k0, (hb2.cell (p := ⟨w.heap.size, 0, none⟩) hB0.lt).trans m0, (hb2.cell (p := ⟨w.heap.size, 1, none⟩) hB0.lt).trans m1⟩))
  have hbd : Below w1.heap.size w1 w2 := ((Below.refl w1.heap.size w1).drew).trans hb2
  have hT2 := hT0.below hbd
  have hB2 := hB0.below hbd hB0.lt
  have hc2 : Chg (fun k => k = g ∨ (Value.slice A1 H.length c1).ownBlock = some k) w w2 := (Chg.of_below hb0).trans ((Chg.of_below hbd).mono fun k hk => .inl hk)
  have hs2 : lo ≤ w2.heap.size := Nat.le_trans hlo (Nat.le_trans hb0.size hbd.size)
  have hsz2 : w.heap.size ≤ w2.heap.size := Nat.le_trans hb0.size hbd.size
  have k0' := hT2.blk.cellS (i := 0) (v := .slice A1 H.length c1) rfl
  have kf := hT2.blk.frozen 0
  have m0' := hB2.cellS (i := 0) (v := .int .i64 l1) rfl
  have m1' := hB2.cellS (i := 1) (v := .int .i64 l2) rfl
  have m2' := hB2.cellS (i := 2) (v := .int .i64 l3) rfl
  clear hcell6 hb2 hbd hT0 hB0 k0 m0 m1 m2 hb0 C hr T
  rcases hfind with ⟨f1, f2⟩ | ⟨i, f1, hi, f2⟩
  · have HL : Hid (holdL H ⟨l1, l2, l3⟩ = H ++ [⟨l1, l2, l3⟩]) := Lib.hid (by unfold holdL; rw [f1])
    rw [f2]
    clear f1 f2
    have h1c : ∀ u ∈ cellsH [⟨l1, l2, l3⟩], u.oneCell' = true := oneH _
    have HM := Lib.hid hm
    go_wp2_with fail
    have hg2 := hT2.blk.lt
    have hb2 := hB2.lt
    have k0a := (World.cell?_alloc_lt w2 (.cells #[.int .i64 l1, .int .i64 l2, .int .i64 l3] 60) ⟨g, 0, none⟩ hg2).trans k0'
    go_region_law (first | ((refine step_app2 rfl (.tmp 27) (.tmp 29) _ rfl lo slt_lock (n := H.length) (xs := cellsH H) (m := 1) (news := cellsH [⟨l1, l2, l3⟩]) rfl (own_alloc hT2.held.drew _) rfl (rd_new' _ _ (cellsH [⟨l1, l2, l3⟩]) (by simp) rfl) h1c (by omega) (by simp; omega) ?_; intro v6 w6 hown6 hg6 hat6; obtain ⟨A6, c6, rfl⟩ := own_slice hown6; have hBk6 := (hT2.blk.drew.alloc (.cells (cellsH [⟨l1, l2, l3⟩]).toArray 60)).other (own_alloc hT2.held.drew _) (by decide) hg6; have p0 := hBk6.cellS (i := 0) (v := .slice A1 H.length c1) rfl; have p1 := hBk6.frozen 0)))
    all_goals
      go_wp2
      go_end0
      have hw6 := (own_alloc hT2.waits.drew (.cells (cellsH [⟨l1, l2, l3⟩]).toArray 60)).kept hg6 (by
        cases hv : v2.ownBlock with
        | none => exact .inl rfl
        | some k2 => exact .inr (fun e => hT2.ne k2 e.symm hv))
      have hsz : (w2.drew.alloc (.cells (cellsH [⟨l1, l2, l3⟩]).toArray 60)).heap.size = w2.heap.size + 1 := by simp
      refine ⟨_, _, rfl, ⟨hBk6.put 0 _, ?_, own_set_blk hw6 hBk6 (by decide) 0 _, ?_, hT2.lo⟩, ?_, ?_⟩
      · rw [HL.out, cellsH_append]
        exact own_set_blk (by simpa using hown6) hBk6 (by decide) 0 _
      · intro k hk
        rcases hat6 with e | e
        · exact hT2.ne k (e.symm.trans hk)
        · intro h2
          have h3 := (hT2.waits.lt k h2).2
          rw [e] at hk
          injection hk with hk
          simp at hk
          omega
      · exact ((hc2.drew.alloc _).grown hg6 (fun k hk => .inl (.inr hk))).set (p := ⟨g, 0, none⟩) (.inl (.inl rfl)) _
      · rcases hat6 with e | e
        · exact .inl e
        · exact .inr ⟨_, e, by simp; omega⟩
  · rw [f2]
    obtain ⟨g1, rfl⟩ : ∃ g1, A1 = some ⟨g1, 0, none⟩ := by
      rcases hT2.held.2 with ⟨_, h0⟩ | ⟨g1, _, _, hv, _⟩
      · omega
      · injection hv with hA; exact ⟨g1, hA⟩
    have HL : Hid (holdL H ⟨l1, l2, l3⟩ = H.set i ⟨l1, l2, l3⟩) := Lib.hid (by unfold holdL; rw [f1])
    clear f1 f2
    have hlen := hT2.held.1
    rw [cellsH_length] at hlen
    have D : ∀ j, j < H.length * 3 → ∃ v, w2.cell? ⟨g1, j, none⟩ = some v := fun j hj => ⟨_, (hT2.held.cellAt j (by omega)).trans (List.getElem?_eq_getElem (by rw [cellsH_length]; omega))⟩
    obtain ⟨x0, d0⟩ := D (i * 3) (by omega)
    obtain ⟨x1, d1⟩ := D (i * 3 + 1) (by omega)
    obtain ⟨x2, d2⟩ := D (i * 3 + 2) (by omega)
    have e0 := hT2.held.frozenAt (i * 3)
    have e1 := hT2.held.frozenAt (i * 3 + 1)
    have e2 := hT2.held.frozenAt (i * 3 + 2)
    have hgg : g ≠ g1 := by
      rintro rfl
      rcases hT2.held.2 with ⟨hv, _⟩ | ⟨g', cap, cur, hv, _, hh, _⟩
      · cases hv
      · injection hv with hA
        injection hA with hA
        injection hA with hA
        subst hA
        have := hT2.blk
        unfold Blk at this
        rw [this] at hh
        injection hh with hh
        injection hh with _ ht
        exact absurd ht (by decide)
    have hne2 : ∀ k, v2.ownBlock = some k → k ≠ g1 := fun k hk e => hT2.ne g1 rfl (by rw [← e]; exact hk)
    have hw2 : (((w2.setCell ⟨g1, i * 3, none⟩ (.int .i64 l1)).setCell ⟨g1, i * 3 + 1, none⟩ (.int .i64 l2)).setCell ⟨g1, i * 3 + 2, none⟩ (.int .i64 l3)).ownsRow lo 60 3 v2 nw ys := by
      have st : ∀ (wx : World) (q : Nat) (u : Value), wx.ownsRow lo 60 3 v2 nw ys → (wx.setCell ⟨g1, q, none⟩ u).ownsRow lo 60 3 v2 nw ys := fun wx q u h =>
        h.kept (row := some g1) ⟨rfl, rfl, rfl, by simp [World.setCell], fun k _ hk => Below.heap_setCell wx _ u k (fun e => hk (by rw [e]))⟩ (by
          cases hv : v2.ownBlock with
          | none => exact .inl rfl
          | some k2 => exact .inr (fun e => hne2 k2 hv (by injection e)))
      exact st _ _ _ (st _ _ _ (st _ _ _ hT2.waits))
    have hh2 := own_set3 hT2.held i ⟨l1, l2, l3⟩
    simp only at hh2
    go_wp2_with fail
    go_region
    all_goals
      go_wp2
      go_end0
      refine ⟨_, .slice (some ⟨g1, 0, none⟩) H.length c1, rfl, ⟨(((hT2.blk.far (p := ⟨g1, i * 3, none⟩) hgg _).far (p := ⟨g1, i * 3 + 1, none⟩) hgg _).far (p := ⟨g1, i * 3 + 2, none⟩) hgg _).drew, ?_, hw2.drew, hT2.ne, hT2.lo⟩,
        (((hc2.set (p := ⟨g1, i * 3, none⟩) (.inl (.inr rfl)) _).set (p := ⟨g1, i * 3 + 1, none⟩) (.inl (.inr rfl)) _).set (p := ⟨g1, i * 3 + 2, none⟩) (.inl (.inr rfl)) _).drew, .inl rfl⟩
      rw [HL.out, List.length_set]
      exact hh2.drew
/-- What hold leaves of a table. -/
def HoldPost (w : World) (lo g : Nat) (v1 v2 : Value) (H W : List HOp) (l : HOp) (e : Ending) (w' : World) : Prop :=
  ∃ v v1', e = .returned v ∧ Tab w' lo g v1' v2 (holdL H l) W ∧ Chg (fun k => k = g ∨ v1.ownBlock = some k) w w' ∧ (v1'.ownBlock = v1.ownBlock ∨ ∃ k, v1'.ownBlock = some k ∧ w.heap.size ≤ k)
theorem hold_any (lo g : Nat) (v1 v2 : Value) (H W : List HOp) (l : HOp) (w : World) (T : Tab w lo g v1 v2 H W) (hm : H.length ≤ 1000000) (hlo : lo ≤ w.heap.size) :
    Calls Tryd.prog 27 #[.pointer (some ⟨g, 0, none⟩), l.val] w (HoldPost w lo g v1 v2 H W l) := by
  refine (holdR_any lo g v1 v2 H W.length (cellsH W) l w T.raw hm hlo).mono ?_
  rintro e w' ⟨v, v1', h1, h2, h3⟩
  exact ⟨v, v1', h1, h2.tab, h3⟩
end Go.Proofs.YtjbgjgmdgjnbfaaDoor

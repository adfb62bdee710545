
/-
  CONTRACTS of the table within laneref2.Runner (printed by wip/mkslock.py from XRLock2): CONTRACTS of the reference's laneref1.Table.hold and Ask.
  CONTRACTS of the table within laneref2.Runner (printed by wip/mkslock.py from XRLock3): CONTRACT of the reference's laneref1.Table.Ask.
-/
import Derived.Test.YtbccnafdfeempaaGreatDoorQ22
import Derived.Test.YtbccnafdfeempaaGreatDoorQ28
import Derived.Deep.RegionLaw
import Derived.RegionTactic
import Derived.BigRegion
import Derived.Test.YtbccnafdfeempaaGreatDoorRLock3

namespace Go.Proofs.YtbccnafdfeempaaGreatDoor
open Go.RowKit
variable {p0 : Value} {ps : List Value}

/-- What hold leaves of a table of the reference's. -/
def HoldPostRn (p0 : Value) (ps : List Value) (w : World) (lo g : Nat) (v1 v2 : Value) (H W : List HOp) (l : HOp) (e : Ending) (w' : World) : Prop :=
  ∃ v v1', e = .returned v ∧ TabRn p0 ps w' lo g v1' v2 (holdL H l) W ∧ Chg (fun k => k = g ∨ v1.ownBlock = some k) w w' ∧ (v1'.ownBlock = v1.ownBlock ∨ ∃ k, v1'.ownBlock = some k ∧ w.heap.size ≤ k)
set_option maxRecDepth 100000 in
set_option maxHeartbeats 2000000 in
theorem shold_any (lo g : Nat) (v1 v2 : Value) (H W : List HOp) (l : HOp) (w : World) (T : TabRn p0 ps w lo g v1 v2 H W) (hm : H.length ≤ 1000000) (hlo : lo ≤ w.heap.size) :
    Calls Tryz.prog 32 #[.pointer (some ⟨g, 1, none⟩), l.val] w (HoldPostRn p0 ps w lo g v1 v2 H W l) := by
  obtain ⟨A1, c1, rfl⟩ := own_slice T.held
  obtain ⟨l1, l2, l3⟩ := l
  have hgl := T.blk.lt
  have hB0 := Blk.new w 67 [.int .i64 l1, .int .i64 l2, .int .i64 l3]
  have hT0 := T.below ((Below.refl _ _).alloc (Nat.le_refl _) (.cells #[.int .i64 l1, .int .i64 l2, .int .i64 l3] 67))
  have hb0 : Below w.heap.size w (w.alloc (.cells #[.int .i64 l1, .int .i64 l2, .int .i64 l3] 67)) := (Below.refl _ _).alloc (Nat.le_refl _) _
  obtain ⟨nh, hnh⟩ : ∃ nh, H.length = nh := ⟨_, rfl⟩
  have HNH := Lib.hid hnh
  rw [hnh] at hm
  unfold HOp.val
  clear hnh
  go_enter Tryz.func32, Tryz.ntmps32
  go_wp2
  generalize w.alloc (.cells #[.int .i64 l1, .int .i64 l2, .int .i64 l3] 67) = w1 at *
  have HT := hide (fun w' (hb : Below w1.heap.size w1 w') => hT0.below hb)
  have HB := hide (fun w' (hb : Below w1.heap.size w1 w') => hB0.below hb hB0.lt)
  have hgl1 := hT0.blk.lt
  have hbl1 := hB0.lt
  clear hT0 hB0 T
  go_loopw [4] (fun s4 wr => ∃ k : Nat, k ≤ nh ∧ s4 = .int .i64 k ∧ Hid (∀ x ∈ H.take k, ofP l1 l2 x = false) ∧ Below w1.heap.size w1 wr) (fun s4 _ => nh - (intOf s4).toNat)
  case atStart => exact ⟨0, Nat.zero_le _, rfl, Lib.hid (fun x hx => by simp at hx), Below.refl _ _⟩
  case round =>
    obtain ⟨k, hk, rfl, HN, hbw⟩ := hrel
    have hTr := unhide HT wr hbw
    have hBr := unhide HB wr hbw
    have hblk := hTr.blk
    rw [HNH.out] at hblk
    have k0 := hblk.cellS (i := 1) (v := .slice A1 nh c1) rfl
    obtain ⟨m0, m1, m2⟩ := ocells' hBr
    by_cases hlt : k < nh
    · have hrd := rd_own hTr.held
      rw [HNH.out] at hrd
      obtain ⟨b, off, y, he, hb, hy, c0, c1', c2⟩ := hrd.op (k := k) hlt
      have HY := Lib.hid hy
      have HA1 := Lib.hid he
      obtain ⟨y1, y2, y3⟩ := y
      simp only at c0 c1' c2
      have n0 : (0 : Int) ≤ (k : Int) := by omega
      have n1 : (k : Int) < (nh : Int) := by omega
      by_cases h1 : y1 = l1
      · have t1 : (y1 == l1) = true := by simp [h1]
        by_cases h2 : y2 = l2
        · have t2 : (y2 == l2) = true := by simp [h2]
          have HL : Hid (holdL H ⟨l1, l2, l3⟩ = H.set k ⟨l1, l2, l3⟩) := Lib.hid (holdL_at hy (by simp [ofP, h1, h2]) HN.out)
          have HDD := hide (fun N => below_drewN hbw N)
          clear h1 h2 hTr hBr hblk hrd hy hbw
          subst he
          go_wp2
          go_quiet (fail)
          have hbq := unhide HDD nq
          have hT2 := unhide HT _ hbq
          have hB2 := unhide HB _ hbq
          clear k0 m0 m1 m2 c0 c1' c2 HDD
          generalize wr.drewN nq = w2 at *
          have hblk2 := hT2.blk
          have hheld2 := hT2.held
          rw [HNH.out] at hblk2 hheld2
          obtain ⟨g1, hg1⟩ : ∃ g1, (some (⟨b, off, none⟩ : Addr)) = some ⟨g1, 0, none⟩ := by
            rcases hheld2.2 with ⟨_, h0⟩ | ⟨g1, _, _, hv, _⟩
            · omega
            · injection hv with hA; exact ⟨g1, hA⟩
          injection hg1 with hg1
          injection hg1 with e1 e2
          subst e1 e2
          have k0' := hblk2.cellS (i := 1) (v := .slice (some ⟨b, 0, none⟩) nh c1) rfl
          obtain ⟨m0', m1', m2'⟩ := ocells' hB2
          have hlen := hheld2.1
          rw [cellsH_length] at hlen
          have D : ∀ j, j < nh * 3 → ∃ v, w2.cell? ⟨b, j, none⟩ = some v := fun j hj => ⟨_, (hheld2.cellAt j (by omega)).trans (List.getElem?_eq_getElem (by rw [cellsH_length]; omega))⟩
          obtain ⟨x0, d0⟩ := D (k * 3) (by omega)
          obtain ⟨x1, d1⟩ := D (k * 3 + 1) (by omega)
          obtain ⟨x2, d2⟩ := D (k * 3 + 2) (by omega)
          have e0 := hheld2.frozenAt (k * 3)
          have e1 := hheld2.frozenAt (k * 3 + 1)
          have e2 := hheld2.frozenAt (k * 3 + 2)
          have hgg : g ≠ b := fun e => blk_no_row hblk2 hheld2 (by decide) (by rw [e]; rfl)
          have hne2 : ∀ j, v2.ownBlock = some j → j ≠ b := fun j hj e => hT2.ne b rfl (by rw [← e]; exact hj)
          have st : ∀ (wx : World) (q : Nat) (u : Value), wx.ownsRow lo 67 3 v2 W.length (cellsH W) → (wx.setCell ⟨b, q, none⟩ u).ownsRow lo 67 3 v2 W.length (cellsH W) := fun wx q u h =>
            h.kept (row := some b) ⟨rfl, rfl, rfl, by simp [World.setCell], fun j _ hj => Below.heap_setCell wx _ u j (fun e => hj (by rw [e]))⟩ (by
              cases hv : v2.ownBlock with
              | none => exact .inl rfl
              | some k2 => exact .inr (fun e => hne2 k2 hv (by injection e)))
          have hw2 := st _ (k * 3 + 2) (.int .i64 l3) (st _ (k * 3 + 1) (.int .i64 l2) (st _ (k * 3) (.int .i64 l1) hT2.waits))
          have hh2 := own_set3 hheld2 k ⟨l1, l2, l3⟩
          simp only at hh2
          have hblk3 := (((hblk2.far (p := ⟨b, k * 3, none⟩) hgg (.int .i64 l1)).far (p := ⟨b, k * 3 + 1, none⟩) hgg (.int .i64 l2)).far (p := ⟨b, k * 3 + 2, none⟩) hgg (.int .i64 l3)).drew
          have hc2 : Chg (fun j => j = g ∨ (Value.slice (some ⟨b, 0, none⟩) H.length c1).ownBlock = some j) w w2 := (Chg.of_below hb0).trans ((Chg.of_below hbq).mono fun j hj => .inl hj)
          have hc3 := (((hc2.set (p := ⟨b, k * 3, none⟩) (.inl (.inr rfl)) (.int .i64 l1)).set (p := ⟨b, k * 3 + 1, none⟩) (.inl (.inr rfl)) (.int .i64 l2)).set (p := ⟨b, k * 3 + 2, none⟩) (.inl (.inr rfl)) (.int .i64 l3)).drew
          have HALL := hide (And.intro hw2.drew (And.intro hh2.drew (And.intro hblk3 hc3)))
          have HNE := Lib.hid hT2.ne
          have HLO := Lib.hid hT2.lo
          clear hw2 hh2 hblk3 hc3 hc2 st D hT2 hB2 hblk2 hheld2 hlen
          go_wp2_with fail
          go_region
          all_goals
            go_wp2
            go_end0
            refine ⟨_, .slice (some ⟨b, 0, none⟩) nh c1, rfl, ⟨(unhide HALL).2.2.1, ?_, (unhide HALL).1, HNE.out, HLO.out⟩, (unhide HALL).2.2.2, .inl rfl⟩
            rw [HL.out, List.length_set, HNH.out]
            exact (unhide HALL).2.1
        · have t2 : (y2 == l2) = false := by simp [h2]
          have HN2 : Hid (∀ x ∈ H.take (k + 1), ofP l1 l2 x = false) := Lib.hid (take_no hy (by simp [ofP, h2]) HN.out)
          clear h1 h2 hTr hBr hblk hrd hy
          subst he
          go_wp2
          go_quiet (fail)
          go_wp2
          go_roundw
          case rel => exact ⟨k + 1, by omega, by go_num, HN2, below_drewN hbw _⟩
          case measure => simp [intOf]; omega
      · have t1 : (y1 == l1) = false := by simp [h1]
        have HN2 : Hid (∀ x ∈ H.take (k + 1), ofP l1 l2 x = false) := Lib.hid (take_no hy (by simp [ofP, h1]) HN.out)
        clear h1 hTr hBr hblk hrd hy
        subst he
        go_wp2
        go_quiet (fail)
        go_wp2
        go_roundw
        case rel => exact ⟨k + 1, by omega, by go_num, HN2, below_drewN hbw _⟩
        case measure => simp [intOf]; omega
    · have HL : Hid (holdL H ⟨l1, l2, l3⟩ = H ++ [⟨l1, l2, l3⟩]) := Lib.hid (holdL_none (fun x hx => HN.out x (by rw [List.take_of_length_le (l := H) (by rw [HNH.out]; omega)]; exact hx)))
      have h1c : ∀ u ∈ cellsH [⟨l1, l2, l3⟩], u.oneCell' = true := oneH _
      have hheld := hTr.held
      rw [HNH.out] at hheld
      have hg2 := hblk.lt
      have hz2 := hbw.size
      have hs2 : lo ≤ wr.heap.size := Nat.le_trans hlo (Nat.le_trans hb0.size hbw.size)
      have hsz2 : w.heap.size ≤ wr.heap.size := Nat.le_trans hb0.size hbw.size
      have kf := hblk.frozen 1
      have k0a := (World.cell?_alloc_lt wr (.cells #[.int .i64 l1, .int .i64 l2, .int .i64 l3] 67) ⟨g, 1, none⟩ hg2).trans k0
      have hc2 : Chg (fun j => j = g ∨ (Value.slice A1 H.length c1).ownBlock = some j) w wr := (Chg.of_below hb0).trans ((Chg.of_below hbw).mono fun j hj => .inl hj)
      have hwaits := hTr.waits
      have HNE := Lib.hid hTr.ne
      have HLO := Lib.hid hTr.lo
      have hltw := hTr.waits.lt
      clear hTr hBr hbw
      go_wp2_with fail
      go_region_law (first | ((refine step_app2 rfl (.tmp 49) (.tmp 51) _ rfl lo slt_lock (n := nh) (xs := cellsH H) (m := 1) (news := cellsH [⟨l1, l2, l3⟩]) rfl (own_alloc hheld.drew _) rfl (rd_new' _ _ (cellsH [⟨l1, l2, l3⟩]) (by simp) rfl) h1c (by omega) (by simp; omega) ?_; intro v6 w6 hown6 hg6 hat6; obtain ⟨A6, c6, rfl⟩ := own_slice hown6; have hBk6 := (hblk.drew.alloc (.cells (cellsH [⟨l1, l2, l3⟩]).toArray 67)).other (own_alloc hheld.drew _) (by decide) hg6; have p0 := hBk6.cellS (i := 1) (v := .slice A1 nh c1) rfl; have p1 := hBk6.frozen 1)))
      all_goals
        go_wp2
        go_end0
        have hw6 := (own_alloc hwaits.drew (.cells (cellsH [⟨l1, l2, l3⟩]).toArray 67)).kept hg6 (by
          cases hv : v2.ownBlock with
          | none => exact .inl rfl
          | some k2 => exact .inr (fun e => HNE.out k2 ((ob_len A1 _ _ _ _).trans e.symm) hv))
        have hsz : (wr.drew.alloc (.cells (cellsH [⟨l1, l2, l3⟩]).toArray 67)).heap.size = wr.heap.size + 1 := by simp
        refine ⟨_, _, rfl, ⟨hBk6.put 1 _, ?_, own_set_blk hw6 hBk6 (by decide) 1 _, ?_, HLO.out⟩, ?_, ?_⟩
        · rw [HL.out, cellsH_append, List.length_append, HNH.out]
          exact own_set_blk (by simpa using hown6) hBk6 (by decide) 1 _
        · intro j hj
          rcases hat6 with e | e
          · exact HNE.out j ((ob_len A1 _ _ _ _).trans (e.symm.trans hj))
          · intro h2
            have h3 := (hltw j h2).2
            rw [e] at hj
            injection hj with hj
            simp at hj
            omega
        · exact ((hc2.drew.alloc _).grown hg6 (fun j hj => .inl (.inr ((ob_len A1 _ _ _ _).trans hj)))).set (p := ⟨g, 1, none⟩) (.inl (.inl rfl)) _
        · rcases hat6 with e | e
          · exact .inl (e.trans (ob_len A1 _ _ _ _))
          · exact .inr ⟨_, e, by simp; omega⟩
end Go.Proofs.YtbccnafdfeempaaGreatDoor


namespace Go.Proofs.YtbccnafdfeempaaGreatDoor
open Go.RowKit
variable {p0 : Value} {ps : List Value}

/-- What Ask leaves of a table of the reference's. -/
def AskPostRn (p0 : Value) (ps : List Value) (w : World) (lo g : Nat) (v1 v2 : Value) (H W : List HOp) (l : HOp) (e : Ending) (w' : World) : Prop :=
  ∃ v1' v2', e = .returned (.tuple #[.bool (askF ⟨H, W⟩ l).1, .int .i64 (askF ⟨H, W⟩ l).2.1]) ∧ TabRn p0 ps w' lo g v1' v2' (askF ⟨H, W⟩ l).2.2.H (askF ⟨H, W⟩ l).2.2.W ∧ Kept w w' g v1 v2 v1' v2'
set_option maxRecDepth 100000 in
set_option maxHeartbeats 4000000 in
theorem sask_main (lo g : Nat) (v1 v2 : Value) (H W : List HOp) (l : HOp) (w : World) (T : TabRn p0 ps w lo g v1 v2 H W) (hh : H.length ≤ 100000) (hw : W.length ≤ 100000) (hlo : lo ≤ w.heap.size) (hR : lrightB l = true) (hC : idxGo (fun y => decide (y.tx = l.tx)) 0 W < 0) :
    Calls Tryz.prog 18 #[.pointer (some ⟨g, 1, none⟩), l.val] w (AskPostRn p0 ps w lo g v1 v2 H W l) := by
  have HW0 : Hid (W.any (ofTx l.tx) = false) := Lib.hid (by
    have h := (idxGo_any' (fun y : HOp => decide (y.tx = l.tx)) W).symm
    rw [show W.any (ofTx l.tx) = W.any fun y => decide (y.tx = l.tx) from rfl, h]
    simp; omega)
  have HR := Lib.hid hR
  obtain ⟨A1, c1, rfl⟩ := own_slice T.held
  obtain ⟨A2, c2, rfl⟩ := own_slice T.waits
  obtain ⟨l1, l2, l3⟩ := l
  have hgl := T.blk.lt
  have CR := hide (fun w1 => rlock_any ⟨l1, l2, l3⟩ w1)
  have CW := hide (fun w1 (hb : Below w.heap.size w w1) => swaiting_any lo g (.slice A1 H.length c1) (.slice A2 W.length c2) H W l1 w1 (T.below hb) (by omega))
  have HB0 := hide (fun w' (hb : Below (w.alloc (.cells #[.int .i64 l1, .int .i64 l2, .int .i64 l3] 67)).heap.size (w.alloc (.cells #[.int .i64 l1, .int .i64 l2, .int .i64 l3] 67)) w') => (Blk.new w 67 [.int .i64 l1, .int .i64 l2, .int .i64 l3]).below hb (by simp))
  have hb0 : Below w.heap.size w (w.alloc (.cells #[.int .i64 l1, .int .i64 l2, .int .i64 l3] 67)) := (Below.refl _ _).alloc (Nat.le_refl _) _
  have hz0 : (w.alloc (.cells #[.int .i64 l1, .int .i64 l2, .int .i64 l3] 67)).heap.size = w.heap.size + 1 := by simp
  have HZ := Lib.hid hz0
  obtain ⟨nh, hnh⟩ : ∃ nh, H.length = nh := ⟨_, rfl⟩
  obtain ⟨nw, hnw⟩ : ∃ nw, W.length = nw := ⟨_, rfl⟩
  have HNH := Lib.hid hnh
  have HNW := Lib.hid hnw
  have HT := hide (fun w' (hb : Below w.heap.size w w') => T.below hb)
  rw [hnh] at hh
  rw [hnw] at hw
  simp only at hC
  generalize idxGo (fun y => decide (y.tx = l1)) 0 W = iw at *
  unfold HOp.val at CR ⊢
  clear hnh hnw hz0 hR T
  go_enter Tryz.func18, Tryz.ntmps18
  go_wp2_with fail
  have HBE := hide hb0
  refine (unhide CR _).mono ?_
  rw [HR.out]
  rintro e w1 ⟨rfl, hb1⟩
  have hbw1 := (unhide HBE).trans (hb1.mono (by have := HZ.out; omega))
  have hB1 := unhide HB0 w1 hb1
  have m0 := hB1.cellS (i := 0) (v := .int .i64 l1) rfl
  clear hb1 hb0 CR HBE
  go_wp2_with fail
  refine (unhide CW w1 hbw1).mono ?_
  rintro e w1' ⟨rfl, rfl⟩
  have HBB := hide (fun w' (hb : Below w1.heap.size w1 w') => hB1.below hb hB1.lt)
  have HBW := hide (fun w' (hb : Below w1.heap.size w1 w') => hbw1.trans (hb.mono hbw1.size))
  have hz1 := hbw1.size
  have hbl := hB1.lt
  clear m0 hB1 hbw1 CW HB0
  have hbr : Below w1.heap.size w1 w1 := Below.refl _ _
  go_wp2
  go_loopw [7] (fun s7 wr => ∃ k : Nat, k ≤ nh ∧ s7 = .int .i64 k ∧ Hid ((H.take k).any (hasP ⟨l1, l2, l3⟩) = false) ∧ Below w1.heap.size w1 wr) (fun s7 _ => nh - (intOf s7).toNat)
  case atStart => exact ⟨0, Nat.zero_le _, rfl, Lib.hid rfl, hbr⟩
  case round =>
    clear hbr
    obtain ⟨k, hk, rfl, HN, hbw⟩ := hrel
    have hTr := unhide HT wr (unhide HBW wr hbw)
    have hBr := unhide HBB wr hbw
    have hblk := hTr.blk
    rw [HNH.out, HNW.out] at hblk
    have k0 := hblk.cellS (i := 1) (v := .slice A1 nh c1) rfl
    obtain ⟨m0, m1, m2⟩ := ocells' hBr
    by_cases hlt : k < nh
    · have hrd := rd_own hTr.held
      rw [HNH.out] at hrd
      obtain ⟨b, off, y, he, hb, hy, c0, c1', c2'⟩ := hrd.op (k := k) hlt
      have HA := Lib.hid (any_take (p := hasP ⟨l1, l2, l3⟩) hy)
      obtain ⟨y1, y2, y3⟩ := y
      simp only at c0 c1' c2'
      have n0 : (0 : Int) ≤ (k : Int) := by omega
      have n1 : (k : Int) < (nh : Int) := by omega
      have HBN := hide (fun N => below_drewN hbw N)
      have hno : hasP ⟨l1, l2, l3⟩ ⟨y1, y2, y3⟩ = false → Hid ((H.take (k + 1)).any (hasP ⟨l1, l2, l3⟩) = false) := fun h => Lib.hid (by rw [HA.out, HN.out, h]; rfl)
      have hyes : hasP ⟨l1, l2, l3⟩ ⟨y1, y2, y3⟩ = true → Hid (askF ⟨H, W⟩ ⟨l1, l2, l3⟩ = (true, 0, ⟨H, W⟩)) := fun h => Lib.hid (askF_has HR.out HW0.out (by
        obtain ⟨z, hz1, hz2⟩ := List.any_eq_true.1 (show (H.take (k + 1)).any (hasP ⟨l1, l2, l3⟩) = true by rw [HA.out, h]; simp)
        exact List.any_eq_true.2 ⟨z, List.mem_of_mem_take hz1, hz2⟩))
      clear hy hrd hTr hBr hblk hbw
      by_cases h1 : y1 = l1
      · have t1 : (y1 == l1) = true := by simp [h1]
        by_cases h2 : y2 = l2
        · have t2 : (y2 == l2) = true := by simp [h2]
          by_cases h3 : l3 ≤ y3
          · have HF := hyes (by simp [hasP, ofP, h1, h2, h3])
            have t3 : decide (l3 ≤ y3) = true := decide_eq_true h3
            clear hyes hno h1 h2
            subst he
            go_wp2
            go_quiet (fail)
            have hbq := unhide HBW _ (unhide HBN nq)
            have hTq := unhide HT _ hbq
            go_wp2
            go_ret2
            refine ⟨_, _, ?_, ?_, Kept.same hbq⟩
            · rw [HF.out]; rfl
            · rw [HF.out]; exact hTq
          · have HF := hno (by simp [hasP, h3])
            have t3 : decide (l3 ≤ y3) = false := decide_eq_false h3
            clear hyes hno h1 h2
            subst he
            go_wp2
            go_quiet (fail)
            go_wp2
            go_roundw
            case rel => exact ⟨k + 1, by omega, by go_num, HF, unhide HBN _⟩
            case measure => simp [intOf]; omega
        · have t2 : (y2 == l2) = false := by simp [h2]
          have HF := hno (by simp [hasP, ofP, h2])
          clear hyes hno h1 h2
          subst he
          go_wp2
          go_quiet (fail)
          go_wp2
          go_roundw
          case rel => exact ⟨k + 1, by omega, by go_num, HF, unhide HBN _⟩
          case measure => simp [intOf]; omega
      · have t1 : (y1 == l1) = false := by simp [h1]
        have HF := hno (by simp [hasP, ofP, h1])
        clear hyes hno h1
        subst he
        go_wp2
        go_quiet (fail)
        go_wp2
        go_roundw
        case rel => exact ⟨k + 1, by omega, by go_num, HF, unhide HBN _⟩
        case measure => simp [intOf]; omega
    · have HNO : Hid (H.any (hasP ⟨l1, l2, l3⟩) = false) := Lib.hid (by
        have h1 := HN.out
        rw [List.take_of_length_le (l := H) (by rw [HNH.out]; omega)] at h1
        exact h1)
      have hrH := rd_own hTr.held
      have hrW := rd_own hTr.waits
      rw [HNH.out] at hrH
      rw [HNW.out] at hrW
      have CH := hide (clear0_any A1 nh c1 H ⟨l1, l2, l3⟩ wr.drew hrH (by omega))
      have CWt := hide (fun w' (hb : Below wr.heap.size wr w') => clear0_any A2 nw c2 W ⟨l1, l2, l3⟩ w' ((hrW.below hb).more hb.size) (by omega))
      unfold HOp.val at CH CWt
      obtain ⟨p1, hp1⟩ : ∃ p1 : Bool, freeB H ⟨l1, l2, l3⟩ = p1 := ⟨_, rfl⟩
      obtain ⟨p2, hp2⟩ : ∃ p2 : Bool, freeB W ⟨l1, l2, l3⟩ = p2 := ⟨_, rfl⟩
      rw [hp1] at CH
      rw [hp2] at CWt
      have HP1 := Lib.hid hp1
      have HP2 := Lib.hid hp2
      clear hrH hrW hp1 hp2 HN hTr hBr
      go_wp2
      go_still_tail 5, (by kernel_rfl)
      change wpList _ _ _ _ _ wr.drew
      go_wp2_with fail
      refine (unhide CH).mono ?_
      rintro e w5 ⟨rfl, hb5⟩
      have hd5 : Below wr.heap.size wr w5 := ((Below.refl wr.heap.size wr).drew).trans hb5
      have hbw5 := hbw.trans (hd5.mono hbw.size)
      have hblk5 := hblk.below hd5 hblk.lt
      have k1 := hblk5.cellS (i := 2) (v := .slice A2 nw c2) rfl
      have hB5 := unhide HBB w5 hbw5
      obtain ⟨q0, q1, q2⟩ := ocells' hB5
      have CW6 := hide (unhide CWt w5.drew hd5.drew)
      clear hb5 k0 m0 m1 m2 CH CWt hblk5 hB5 hblk
      go_wp2
      go_still_tail 5, (by kernel_rfl)
      change wpList _ _ _ _ _ w5.drew
      go_wp2_with fail
      refine (unhide CW6).mono ?_
      rintro e w6 ⟨rfl, hb6⟩
      have hbw6 : Below w1.heap.size w1 w6 := (hbw5.drew).trans (hb6.mono (show w1.heap.size ≤ w5.drew.heap.size from hbw5.size))
      have hTb := unhide HT w6 (unhide HBW w6 hbw6)
      have hBb := unhide HBB w6 hbw6
      have hbwf := unhide HBW w6 hbw6
      obtain ⟨r0, r1, r2⟩ := ocells' hBb
      have hlo6 : lo ≤ w6.heap.size := Nat.le_trans hlo hbwf.size
      clear k1 q0 q1 q2 CW6 hb6 hbw hbw5 hd5
      cases p1
      · have HF : Hid (askF ⟨H, W⟩ ⟨l1, l2, l3⟩ = (false, 0, ⟨H, W ++ [⟨l1, l2, l3⟩]⟩)) := Lib.hid (askF_wait HR.out HW0.out HNO.out (by rw [HP1.out]; rfl))
        have hblk6 := hTb.blk
        have hwait6 := hTb.waits
        rw [HNH.out, HNW.out] at hblk6
        rw [HNW.out] at hwait6
        have h1c : ∀ u ∈ cellsH [⟨l1, l2, l3⟩], u.oneCell' = true := oneH _
        have hg6 := hblk6.lt
        have k1 := hblk6.cellS (i := 2) (v := .slice A2 nw c2) rfl
        have kf := hblk6.frozen 2
        have k1a := (World.cell?_alloc_lt w6 (.cells #[.int .i64 l1, .int .i64 l2, .int .i64 l3] 67) ⟨g, 2, none⟩ hg6).trans k1
        have hheld6 := hTb.held
        have HNE := Lib.hid hTb.ne
        have HLO := Lib.hid hTb.lo
        have hlth := hTb.held.lt
        have hsz := hbwf.size
        clear hTb hBb
        go_wp2_with fail
        go_region_law (first | ((refine step_app2 rfl (.tmp 88) (.tmp 90) _ rfl lo slt_lock (n := nw) (xs := cellsH W) (m := 1) (news := cellsH [⟨l1, l2, l3⟩]) rfl (own_alloc hwait6.drew _) rfl (rd_new' _ _ (cellsH [⟨l1, l2, l3⟩]) (by simp) rfl) h1c (by omega) (by simp; omega) ?_; intro v7 w7 hown7 hg7 hat7; obtain ⟨A7, c7, rfl⟩ := own_slice hown7; have hBk7 := (hblk6.drew.alloc (.cells (cellsH [⟨l1, l2, l3⟩]).toArray 67)).other (own_alloc hwait6.drew _) (by decide) hg7; have p0 := hBk7.cellS (i := 2) (v := .slice A2 nw c2) rfl; have p1 := hBk7.frozen 2)))
        all_goals
          go_wp2
          go_ret2
          have hw7 := (own_alloc hheld6.drew (.cells (cellsH [⟨l1, l2, l3⟩]).toArray 67)).kept hg7 (by
            cases hv : (Value.slice A1 H.length c1).ownBlock with
            | none => exact .inl rfl
            | some k2 => exact .inr (fun e => HNE.out k2 hv ((ob_len A2 _ _ _ _).trans e.symm)))
          refine ⟨_, .slice A7 (nw + 1) c7, ?_, ?_, ((Chg.of_below hbwf).drew.alloc _).grown hg7 (fun j hj => .inl (.inr (.inr ((ob_len A2 _ _ _ _).trans hj)))) |>.set (p := ⟨g, 2, none⟩) (.inl (.inl rfl)) _, .inl rfl, ?_⟩
          · rw [HF.out]; rfl
          · rw [HF.out]
            refine ⟨?_, own_set_blk hw7 hBk7 (by decide) 2 _, ?_, ?_, HLO.out⟩
            · rw [HNH.out]; exact hBk7.put 2 _
            · rw [cellsH_append, List.length_append, HNW.out]
              exact own_set_blk (by simpa using hown7) hBk7 (by decide) 2 _
            · intro j hj h2
              rcases hat7 with e | e
              · exact HNE.out j hj ((ob_len A2 _ _ _ _).trans (e.symm.trans h2))
              · have h3 := (hlth j hj).2
                rw [e] at h2
                injection h2 with h2
                simp at h2
                omega
          · rcases hat7 with e | e
            · exact .inl (e.trans (ob_len A2 _ _ _ _))
            · exact .inr (.inr ⟨_, e, by simp; omega⟩)
      · cases p2
        · have HF : Hid (askF ⟨H, W⟩ ⟨l1, l2, l3⟩ = (false, 0, ⟨H, W ++ [⟨l1, l2, l3⟩]⟩)) := Lib.hid (askF_wait HR.out HW0.out HNO.out (by rw [HP1.out, HP2.out]; rfl))
          have hblk6 := hTb.blk
          have hwait6 := hTb.waits
          rw [HNH.out, HNW.out] at hblk6
          rw [HNW.out] at hwait6
          have h1c : ∀ u ∈ cellsH [⟨l1, l2, l3⟩], u.oneCell' = true := oneH _
          have hg6 := hblk6.lt
          have k1 := hblk6.cellS (i := 2) (v := .slice A2 nw c2) rfl
          have kf := hblk6.frozen 2
          have k1a := (World.cell?_alloc_lt w6 (.cells #[.int .i64 l1, .int .i64 l2, .int .i64 l3] 67) ⟨g, 2, none⟩ hg6).trans k1
          have hheld6 := hTb.held
          have HNE := Lib.hid hTb.ne
          have HLO := Lib.hid hTb.lo
          have hlth := hTb.held.lt
          have hsz := hbwf.size
          clear hTb hBb
          go_wp2_with fail
          go_region_law (first | ((refine step_app2 rfl (.tmp 88) (.tmp 90) _ rfl lo slt_lock (n := nw) (xs := cellsH W) (m := 1) (news := cellsH [⟨l1, l2, l3⟩]) rfl (own_alloc hwait6.drew _) rfl (rd_new' _ _ (cellsH [⟨l1, l2, l3⟩]) (by simp) rfl) h1c (by omega) (by simp; omega) ?_; intro v7 w7 hown7 hg7 hat7; obtain ⟨A7, c7, rfl⟩ := own_slice hown7; have hBk7 := (hblk6.drew.alloc (.cells (cellsH [⟨l1, l2, l3⟩]).toArray 67)).other (own_alloc hwait6.drew _) (by decide) hg7; have p0 := hBk7.cellS (i := 2) (v := .slice A2 nw c2) rfl; have p1 := hBk7.frozen 2)))
          all_goals
            go_wp2
            go_ret2
            have hw7 := (own_alloc hheld6.drew (.cells (cellsH [⟨l1, l2, l3⟩]).toArray 67)).kept hg7 (by
              cases hv : (Value.slice A1 H.length c1).ownBlock with
              | none => exact .inl rfl
              | some k2 => exact .inr (fun e => HNE.out k2 hv ((ob_len A2 _ _ _ _).trans e.symm)))
            refine ⟨_, .slice A7 (nw + 1) c7, ?_, ?_, ((Chg.of_below hbwf).drew.alloc _).grown hg7 (fun j hj => .inl (.inr (.inr ((ob_len A2 _ _ _ _).trans hj)))) |>.set (p := ⟨g, 2, none⟩) (.inl (.inl rfl)) _, .inl rfl, ?_⟩
            · rw [HF.out]; rfl
            · rw [HF.out]
              refine ⟨?_, own_set_blk hw7 hBk7 (by decide) 2 _, ?_, ?_, HLO.out⟩
              · rw [HNH.out]; exact hBk7.put 2 _
              · rw [cellsH_append, List.length_append, HNW.out]
                exact own_set_blk (by simpa using hown7) hBk7 (by decide) 2 _
              · intro j hj h2
                rcases hat7 with e | e
                · exact HNE.out j hj ((ob_len A2 _ _ _ _).trans (e.symm.trans h2))
                · have h3 := (hlth j hj).2
                  rw [e] at h2
                  injection h2 with h2
                  simp at h2
                  omega
            · rcases hat7 with e | e
              · exact .inl (e.trans (ob_len A2 _ _ _ _))
              · exact .inr (.inr ⟨_, e, by simp; omega⟩)
        · have HF : Hid (askF ⟨H, W⟩ ⟨l1, l2, l3⟩ = (true, 0, ⟨holdL H ⟨l1, l2, l3⟩, W⟩)) := Lib.hid (askF_hold HR.out HW0.out HNO.out HP1.out HP2.out)
          have CHo := hide (shold_any lo g _ _ H W ⟨l1, l2, l3⟩ w6 hTb (by rw [HNH.out]; omega) hlo6)
          unfold HOp.val at CHo
          have hsz := hbwf.size
          clear hTb hBb
          go_wp2_with fail
          refine (unhide CHo).mono ?_
          rintro e w7 ⟨v, v1', rfl, hT7, hc7, hn7⟩
          go_wp2
          go_ret2
          refine ⟨v1', _, ?_, ?_, (Chg.of_below hbwf).next hc7 (fun j hj => .inl (hj.imp id .inl)), hn7.imp id (fun ⟨j, h1, h2⟩ => ⟨j, h1, Nat.le_trans hsz h2⟩), .inl rfl⟩
          · rw [HF.out]; rfl
          · rw [HF.out]; exact hT7
theorem sask_any (lo g : Nat) (v1 v2 : Value) (H W : List HOp) (l : HOp) (w : World) (T : TabRn p0 ps w lo g v1 v2 H W) (hh : H.length ≤ 100000) (hw : W.length ≤ 100000) (hlo : lo ≤ w.heap.size) :
    Calls Tryz.prog 18 #[.pointer (some ⟨g, 1, none⟩), l.val] w (AskPostRn p0 ps w lo g v1 v2 H W l) := by
  cases hR : lrightB l
  · have e1 : Hid (askF ⟨H, W⟩ l = (false, 1, ⟨H, W⟩)) := Lib.hid (by unfold askF; rw [if_pos hR])
    have CR := hide (fun w1 => rlock_any l w1)
    rw [hR] at CR
    have HTB := hide (fun w' (hb : Below w.heap.size w w') => T.below hb)
    have hb0 : Below w.heap.size w (w.alloc (.cells #[.int .i64 l.tx, .int .i64 l.what, .int .i64 l.item] 67)) := (Below.refl _ _).alloc (Nat.le_refl _) _
    obtain ⟨l1, l2, l3⟩ := l
    unfold HOp.val at CR ⊢
    simp only at hb0
    clear hR T
    go_enter Tryz.func18, Tryz.ntmps18
    go_wp2_with fail
    refine (unhide CR _).mono ?_
    rintro e w1 ⟨rfl, hb1⟩
    have hbw := hb0.trans (hb1.mono hb0.size)
    go_wp2
    go_ret2
    refine ⟨_, _, ?_, ?_, Kept.same hbw⟩
    · rw [e1.out]; rfl
    · rw [e1.out]; exact unhide HTB _ hbw
  by_cases hC : 0 ≤ idxGo (fun y : HOp => decide (y.tx = l.tx)) 0 W
  · have e1 : Hid (askF ⟨H, W⟩ l = (false, 7, ⟨H, W⟩)) := Lib.hid (by
      have h := (idxGo_any' (fun y : HOp => decide (y.tx = l.tx)) W).symm
      unfold askF
      rw [if_neg (by rw [hR]; simp), if_pos (by rw [show W.any (ofTx l.tx) = W.any fun y => decide (y.tx = l.tx) from rfl, h]; exact decide_eq_true hC)])
    have CR := hide (fun w1 => rlock_any l w1)
    rw [hR] at CR
    have CW := hide (fun w1 (hb : Below w.heap.size w w1) => swaiting_any lo g v1 v2 H W l.tx w1 (T.below hb) (by omega))
    have HTB := hide (fun w' (hb : Below w.heap.size w w') => T.below hb)
    have hb0 : Below w.heap.size w (w.alloc (.cells #[.int .i64 l.tx, .int .i64 l.what, .int .i64 l.item] 67)) := (Below.refl _ _).alloc (Nat.le_refl _) _
    have hB0 := Blk.new w 67 [.int .i64 l.tx, .int .i64 l.what, .int .i64 l.item]
    obtain ⟨l1, l2, l3⟩ := l
    simp only at CW hC hb0 hB0
    generalize idxGo (fun y => decide (y.tx = l1)) 0 W = iw at *
    unfold HOp.val at CR ⊢
    clear hR T
    go_enter Tryz.func18, Tryz.ntmps18
    go_wp2_with fail
    refine (unhide CR _).mono ?_
    rintro e w1 ⟨rfl, hb1⟩
    have hbw := hb0.trans (hb1.mono hb0.size)
    have hB1 := hB0.below hb1 hB0.lt
    have m0 := hB1.cellS (i := 0) (v := .int .i64 l1) rfl
    clear hb1 hB0 hb0
    go_wp2_with fail
    refine (unhide CW w1 hbw).mono ?_
    rintro e w2 ⟨rfl, rfl⟩
    go_wp2
    go_ret2
    refine ⟨_, _, ?_, ?_, Kept.same hbw⟩
    · rw [e1.out]; rfl
    · rw [e1.out]; exact unhide HTB _ hbw
  · exact sask_main lo g v1 v2 H W l w T hh hw hlo hR (by omega)
end Go.Proofs.YtbccnafdfeempaaGreatDoor


/-
  CONTRACT of the reference's laneref1.Table.Ask.
-/
import Derived.Test.YtbccnafdfeempaaGreatDoorQ22

namespace Go.Proofs.YtbccnafdfeempaaGreatDoor
open Go.RowKit

/-- What Ask leaves of a table of the reference's. -/
def AskPostQ (w : World) (lo g : Nat) (v1 v2 : Value) (H W : List HOp) (l : HOp) (e : Ending) (w' : World) : Prop :=
  ∃ v1' v2', e = .returned (.tuple #[.bool (askF ⟨H, W⟩ l).1, .int .i64 (askF ⟨H, W⟩ l).2.1]) ∧ TabQ w' lo g v1' v2' (askF ⟨H, W⟩ l).2.2.H (askF ⟨H, W⟩ l).2.2.W ∧ Kept w w' g v1 v2 v1' v2'
def hasP (l : HOp) (x : HOp) : Bool := ofP l.tx l.what x && decide (l.item ≤ x.item)
theorem askF_has {H W : List HOp} {l : HOp} (h1 : lrightB l = true) (h2 : W.any (ofTx l.tx) = false) (h3 : H.any (hasP l) = true) : askF ⟨H, W⟩ l = (true, 0, ⟨H, W⟩) := by
  unfold askF
  rw [if_neg (by rw [h1]; simp), if_neg (by rw [h2]; simp)]
  exact if_pos h3
theorem askF_hold {H W : List HOp} {l : HOp} (h1 : lrightB l = true) (h2 : W.any (ofTx l.tx) = false) (h3 : H.any (hasP l) = false) (h4 : freeB H l = true) (h5 : freeB W l = true) : askF ⟨H, W⟩ l = (true, 0, ⟨holdL H l, W⟩) := by
  unfold askF
  rw [if_neg (by rw [h1]; simp), if_neg (by rw [h2]; simp), if_neg (by show ¬ H.any (hasP l) = true; rw [h3]; simp), if_pos (by rw [h4, h5]; rfl)]
theorem askF_wait {H W : List HOp} {l : HOp} (h1 : lrightB l = true) (h2 : W.any (ofTx l.tx) = false) (h3 : H.any (hasP l) = false) (h4 : (freeB H l && freeB W l) = false) : askF ⟨H, W⟩ l = (false, 0, ⟨H, W ++ [l]⟩) := by
  unfold askF
  rw [if_neg (by rw [h1]; simp), if_neg (by rw [h2]; simp), if_neg (by show ¬ H.any (hasP l) = true; rw [h3]; simp), if_neg (by rw [h4]; simp)]

set_option maxRecDepth 100000 in
set_option maxHeartbeats 4000000 in
theorem rask_main (lo g : Nat) (v1 v2 : Value) (H W : List HOp) (l : HOp) (w : World) (T : TabQ w lo g v1 v2 H W) (hh : H.length ≤ 100000) (hw : W.length ≤ 100000) (hlo : lo ≤ w.heap.size) (hR : lrightB l = true) (hC : idxGo (fun y => decide (y.tx = l.tx)) 0 W < 0) :
    Calls Tryz.prog 18 #[.pointer (some ⟨g, 0, none⟩), l.val] w (AskPostQ w lo g v1 v2 H W l) := by
  have HW0 : Hid (W.any (ofTx l.tx) = false) := Lib.hid (by
    have h := (idxGo_any' (fun y : HOp => decide (y.tx = l.tx)) W).symm
    rw [show W.any (ofTx l.tx) = W.any fun y => decide (y.tx = l.tx) from rfl, h]
    simp; omega)
  have HR := Lib.hid hR
  obtain ⟨A1, c1, rfl⟩ := own_slice T.held
  obtain ⟨A2, c2, rfl⟩ := own_slice T.waits
  obtain ⟨l1, l2, l3⟩ := l
  have hgl := T.blk.lt
  have CR := hide (fun w1 => rlock_any ⟨l1, l2, l3⟩ w1)
  have CW := hide (fun w1 (hb : Below w.heap.size w w1) => rwaiting_any lo g (.slice A1 H.length c1) (.slice A2 W.length c2) H W l1 w1 (T.below hb) (by omega))
  have HB0 := hide (fun w' (hb : Below (w.alloc (.cells #[.int .i64 l1, .int .i64 l2, .int .i64 l3] 67)).heap.size (w.alloc (.cells #[.int .i64 l1, .int .i64 l2, .int .i64 l3] 67)) w') => (Blk.new w 67 [.int .i64 l1, .int .i64 l2, .int .i64 l3]).below hb (by simp))
  have hb0 : Below w.heap.size w (w.alloc (.cells #[.int .i64 l1, .int .i64 l2, .int .i64 l3] 67)) := (Below.refl _ _).alloc (Nat.le_refl _) _
  have hz0 : (w.alloc (.cells #[.int .i64 l1, .int .i64 l2, .int .i64 l3] 67)).heap.size = w.heap.size + 1 := by simp
  have HZ := Lib.hid hz0
  obtain ⟨nh, hnh⟩ : ∃ nh, H.length = nh := ⟨_, rfl⟩
  obtain ⟨nw, hnw⟩ : ∃ nw, W.length = nw := ⟨_, rfl⟩
  have HNH := Lib.hid hnh
  have HNW := Lib.hid hnw
  have HT := hide (fun w' (hb : Below w.heap.size w w') => T.below hb)
  rw [hnh] at hh
  rw [hnw] at hw
  simp only at hC
  generalize idxGo (fun y => decide (y.tx = l1)) 0 W = iw at *
  unfold HOp.val at CR ⊢
  clear hnh hnw hz0 hR T
  go_enter Tryz.func18, Tryz.ntmps18
  go_wp2_with fail
  have HBE := hide hb0
  refine (unhide CR _).mono ?_
  rw [HR.out]
  rintro e w1 ⟨rfl, hb1⟩
  have hbw1 := (unhide HBE).trans (hb1.mono (by have := HZ.out; omega))
  have hB1 := unhide HB0 w1 hb1
  have m0 := hB1.cellS (i := 0) (v := .int .i64 l1) rfl
  clear hb1 hb0 CR HBE
  go_wp2_with fail
  refine (unhide CW w1 hbw1).mono ?_
  rintro e w1' ⟨rfl, rfl⟩
  have HBB := hide (fun w' (hb : Below w1.heap.size w1 w') => hB1.below hb hB1.lt)
  have HBW := hide (fun w' (hb : Below w1.heap.size w1 w') => hbw1.trans (hb.mono hbw1.size))
  have hz1 := hbw1.size
  have hbl := hB1.lt
  clear m0 hB1 hbw1 CW HB0
  have hbr : Below w1.heap.size w1 w1 := Below.refl _ _
  go_wp2
  go_loopw [7] (fun s7 wr => ∃ k : Nat, k ≤ nh ∧ s7 = .int .i64 k ∧ Hid ((H.take k).any (hasP ⟨l1, l2, l3⟩) = false) ∧ Below w1.heap.size w1 wr) (fun s7 _ => nh - (intOf s7).toNat)
  case atStart => exact ⟨0, Nat.zero_le _, rfl, Lib.hid rfl, hbr⟩
  case round =>
    clear hbr
    obtain ⟨k, hk, rfl, HN, hbw⟩ := hrel
    have hTr := unhide HT wr (unhide HBW wr hbw)
    have hBr := unhide HBB wr hbw
    have hblk := hTr.blk
    rw [HNH.out, HNW.out] at hblk
    have k0 := hblk.cellS (i := 0) (v := .slice A1 nh c1) rfl
    obtain ⟨m0, m1, m2⟩ := ocells' hBr
    by_cases hlt : k < nh
    · have hrd := rd_own hTr.held
      rw [HNH.out] at hrd
      obtain ⟨b, off, y, he, hb, hy, c0, c1', c2'⟩ := hrd.op (k := k) hlt
      have HA := Lib.hid (any_take (p := hasP ⟨l1, l2, l3⟩) hy)
      obtain ⟨y1, y2, y3⟩ := y
      simp only at c0 c1' c2'
      have n0 : (0 : Int) ≤ (k : Int) := by omega
      have n1 : (k : Int) < (nh : Int) := by omega
      have HBN := hide (fun N => below_drewN hbw N)
      have hno : hasP ⟨l1, l2, l3⟩ ⟨y1, y2, y3⟩ = false → Hid ((H.take (k + 1)).any (hasP ⟨l1, l2, l3⟩) = false) := fun h => Lib.hid (by rw [HA.out, HN.out, h]; rfl)
      have hyes : hasP ⟨l1, l2, l3⟩ ⟨y1, y2, y3⟩ = true → Hid (askF ⟨H, W⟩ ⟨l1, l2, l3⟩ = (true, 0, ⟨H, W⟩)) := fun h => Lib.hid (askF_has HR.out HW0.out (by
        obtain ⟨z, hz1, hz2⟩ := List.any_eq_true.1 (show (H.take (k + 1)).any (hasP ⟨l1, l2, l3⟩) = true by rw [HA.out, h]; simp)
        exact List.any_eq_true.2 ⟨z, List.mem_of_mem_take hz1, hz2⟩))
      clear hy hrd hTr hBr hblk hbw
      by_cases h1 : y1 = l1
      · have t1 : (y1 == l1) = true := by simp [h1]
        by_cases h2 : y2 = l2
        · have t2 : (y2 == l2) = true := by simp [h2]
          by_cases h3 : l3 ≤ y3
          · have HF := hyes (by simp [hasP, ofP, h1, h2, h3])
            have t3 : decide (l3 ≤ y3) = true := decide_eq_true h3
            clear hyes hno h1 h2
            subst he
            go_wp2
            go_quiet (fail)
            have hbq := unhide HBW _ (unhide HBN nq)
            have hTq := unhide HT _ hbq
            go_wp2
            go_ret2
            refine ⟨_, _, ?_, ?_, Kept.same hbq⟩
            · rw [HF.out]; rfl
            · rw [HF.out]; exact hTq
          · have HF := hno (by simp [hasP, h3])
            have t3 : decide (l3 ≤ y3) = false := decide_eq_false h3
            clear hyes hno h1 h2
            subst he
            go_wp2
            go_quiet (fail)
            go_wp2
            go_roundw
            case rel => exact ⟨k + 1, by omega, by go_num, HF, unhide HBN _⟩
            case measure => simp [intOf]; omega
        · have t2 : (y2 == l2) = false := by simp [h2]
          have HF := hno (by simp [hasP, ofP, h2])
          clear hyes hno h1 h2
          subst he
          go_wp2
          go_quiet (fail)
          go_wp2
          go_roundw
          case rel => exact ⟨k + 1, by omega, by go_num, HF, unhide HBN _⟩
          case measure => simp [intOf]; omega
      · have t1 : (y1 == l1) = false := by simp [h1]
        have HF := hno (by simp [hasP, ofP, h1])
        clear hyes hno h1
        subst he
        go_wp2
        go_quiet (fail)
        go_wp2
        go_roundw
        case rel => exact ⟨k + 1, by omega, by go_num, HF, unhide HBN _⟩
        case measure => simp [intOf]; omega
    · have HNO : Hid (H.any (hasP ⟨l1, l2, l3⟩) = false) := Lib.hid (by
        have h1 := HN.out
        rw [List.take_of_length_le (l := H) (by rw [HNH.out]; omega)] at h1
        exact h1)
      have hrH := rd_own hTr.held
      have hrW := rd_own hTr.waits
      rw [HNH.out] at hrH
      rw [HNW.out] at hrW
      have CH := hide (clear0_any A1 nh c1 H ⟨l1, l2, l3⟩ wr.drew hrH (by omega))
      have CWt := hide (fun w' (hb : Below wr.heap.size wr w') => clear0_any A2 nw c2 W ⟨l1, l2, l3⟩ w' ((hrW.below hb).more hb.size) (by omega))
      unfold HOp.val at CH CWt
      obtain ⟨p1, hp1⟩ : ∃ p1 : Bool, freeB H ⟨l1, l2, l3⟩ = p1 := ⟨_, rfl⟩
      obtain ⟨p2, hp2⟩ : ∃ p2 : Bool, freeB W ⟨l1, l2, l3⟩ = p2 := ⟨_, rfl⟩
      rw [hp1] at CH
      rw [hp2] at CWt
      have HP1 := Lib.hid hp1
      have HP2 := Lib.hid hp2
      clear hrH hrW hp1 hp2 HN hTr hBr
      go_wp2
      go_still_tail 5, (by kernel_rfl)
      change wpList _ _ _ _ _ wr.drew
      go_wp2_with fail
      refine (unhide CH).mono ?_
      rintro e w5 ⟨rfl, hb5⟩
      have hd5 : Below wr.heap.size wr w5 := ((Below.refl wr.heap.size wr).drew).trans hb5
      have hbw5 := hbw.trans (hd5.mono hbw.size)
      have hblk5 := hblk.below hd5 hblk.lt
      have k1 := hblk5.cellS (i := 1) (v := .slice A2 nw c2) rfl
      have hB5 := unhide HBB w5 hbw5
      obtain ⟨q0, q1, q2⟩ := ocells' hB5
      have CW6 := hide (unhide CWt w5.drew hd5.drew)
      clear hb5 k0 m0 m1 m2 CH CWt hblk5 hB5 hblk
      go_wp2
      go_still_tail 5, (by kernel_rfl)
      change wpList _ _ _ _ _ w5.drew
      go_wp2_with fail
      refine (unhide CW6).mono ?_
      rintro e w6 ⟨rfl, hb6⟩
      have hbw6 : Below w1.heap.size w1 w6 := (hbw5.drew).trans (hb6.mono (show w1.heap.size ≤ w5.drew.heap.size from hbw5.size))
      have hTb := unhide HT w6 (unhide HBW w6 hbw6)
      have hBb := unhide HBB w6 hbw6
      have hbwf := unhide HBW w6 hbw6
      obtain ⟨r0, r1, r2⟩ := ocells' hBb
      have hlo6 : lo ≤ w6.heap.size := Nat.le_trans hlo hbwf.size
      clear k1 q0 q1 q2 CW6 hb6 hbw hbw5 hd5
      cases p1
      · have HF : Hid (askF ⟨H, W⟩ ⟨l1, l2, l3⟩ = (false, 0, ⟨H, W ++ [⟨l1, l2, l3⟩]⟩)) := Lib.hid (askF_wait HR.out HW0.out HNO.out (by rw [HP1.out]; rfl))
        have hblk6 := hTb.blk
        have hwait6 := hTb.waits
        rw [HNH.out, HNW.out] at hblk6
        rw [HNW.out] at hwait6
        have h1c : ∀ u ∈ cellsH [⟨l1, l2, l3⟩], u.oneCell' = true := oneH _
        have hg6 := hblk6.lt
        have k1 := hblk6.cellS (i := 1) (v := .slice A2 nw c2) rfl
        have kf := hblk6.frozen 1
        have k1a := (World.cell?_alloc_lt w6 (.cells #[.int .i64 l1, .int .i64 l2, .int .i64 l3] 67) ⟨g, 1, none⟩ hg6).trans k1
        have hheld6 := hTb.held
        have HNE := Lib.hid hTb.ne
        have HLO := Lib.hid hTb.lo
        have hlth := hTb.held.lt
        have hsz := hbwf.size
        clear hTb hBb
        go_wp2_with fail
        go_region_law (first | ((refine step_app2 rfl (.tmp 88) (.tmp 90) _ rfl lo slt_lock (n := nw) (xs := cellsH W) (m := 1) (news := cellsH [⟨l1, l2, l3⟩]) rfl (own_alloc hwait6.drew _) rfl (rd_new' _ _ (cellsH [⟨l1, l2, l3⟩]) (by simp) rfl) h1c (by omega) (by simp; omega) ?_; intro v7 w7 hown7 hg7 hat7; obtain ⟨A7, c7, rfl⟩ := own_slice hown7; have hBk7 := (hblk6.drew.alloc (.cells (cellsH [⟨l1, l2, l3⟩]).toArray 67)).other (own_alloc hwait6.drew _) (by decide) hg7; have p0 := hBk7.cellS (i := 1) (v := .slice A2 nw c2) rfl; have p1 := hBk7.frozen 1)))
        all_goals
          go_wp2
          go_ret2
          have hw7 := (own_alloc hheld6.drew (.cells (cellsH [⟨l1, l2, l3⟩]).toArray 67)).kept hg7 (by
            cases hv : (Value.slice A1 H.length c1).ownBlock with
            | none => exact .inl rfl
            | some k2 => exact .inr (fun e => HNE.out k2 hv ((ob_len A2 _ _ _ _).trans e.symm)))
          refine ⟨_, .slice A7 (nw + 1) c7, ?_, ?_, ((Chg.of_below hbwf).drew.alloc _).grown hg7 (fun j hj => .inl (.inr (.inr ((ob_len A2 _ _ _ _).trans hj)))) |>.set (p := ⟨g, 1, none⟩) (.inl (.inl rfl)) _, .inl rfl, ?_⟩
          · rw [HF.out]; rfl
          · rw [HF.out]
            refine ⟨?_, own_set_blk hw7 hBk7 (by decide) 1 _, ?_, ?_, HLO.out⟩
            · rw [HNH.out]; exact hBk7.put 1 _
            · rw [cellsH_append, List.length_append, HNW.out]
              exact own_set_blk (by simpa using hown7) hBk7 (by decide) 1 _
            · intro j hj h2
              rcases hat7 with e | e
              · exact HNE.out j hj ((ob_len A2 _ _ _ _).trans (e.symm.trans h2))
              · have h3 := (hlth j hj).2
                rw [e] at h2
                injection h2 with h2
                simp at h2
                omega
          · rcases hat7 with e | e
            · exact .inl (e.trans (ob_len A2 _ _ _ _))
            · exact .inr (.inr ⟨_, e, by simp; omega⟩)
      · cases p2
        · have HF : Hid (askF ⟨H, W⟩ ⟨l1, l2, l3⟩ = (false, 0, ⟨H, W ++ [⟨l1, l2, l3⟩]⟩)) := Lib.hid (askF_wait HR.out HW0.out HNO.out (by rw [HP1.out, HP2.out]; rfl))
          have hblk6 := hTb.blk
          have hwait6 := hTb.waits
          rw [HNH.out, HNW.out] at hblk6
          rw [HNW.out] at hwait6
          have h1c : ∀ u ∈ cellsH [⟨l1, l2, l3⟩], u.oneCell' = true := oneH _
          have hg6 := hblk6.lt
          have k1 := hblk6.cellS (i := 1) (v := .slice A2 nw c2) rfl
          have kf := hblk6.frozen 1
          have k1a := (World.cell?_alloc_lt w6 (.cells #[.int .i64 l1, .int .i64 l2, .int .i64 l3] 67) ⟨g, 1, none⟩ hg6).trans k1
          have hheld6 := hTb.held
          have HNE := Lib.hid hTb.ne
          have HLO := Lib.hid hTb.lo
          have hlth := hTb.held.lt
          have hsz := hbwf.size
          clear hTb hBb
          go_wp2_with fail
          go_region_law (first | ((refine step_app2 rfl (.tmp 88) (.tmp 90) _ rfl lo slt_lock (n := nw) (xs := cellsH W) (m := 1) (news := cellsH [⟨l1, l2, l3⟩]) rfl (own_alloc hwait6.drew _) rfl (rd_new' _ _ (cellsH [⟨l1, l2, l3⟩]) (by simp) rfl) h1c (by omega) (by simp; omega) ?_; intro v7 w7 hown7 hg7 hat7; obtain ⟨A7, c7, rfl⟩ := own_slice hown7; have hBk7 := (hblk6.drew.alloc (.cells (cellsH [⟨l1, l2, l3⟩]).toArray 67)).other (own_alloc hwait6.drew _) (by decide) hg7; have p0 := hBk7.cellS (i := 1) (v := .slice A2 nw c2) rfl; have p1 := hBk7.frozen 1)))
          all_goals
            go_wp2
            go_ret2
            have hw7 := (own_alloc hheld6.drew (.cells (cellsH [⟨l1, l2, l3⟩]).toArray 67)).kept hg7 (by
              cases hv : (Value.slice A1 H.length c1).ownBlock with
              | none => exact .inl rfl
              | some k2 => exact .inr (fun e => HNE.out k2 hv ((ob_len A2 _ _ _ _).trans e.symm)))
            refine ⟨_, .slice A7 (nw + 1) c7, ?_, ?_, ((Chg.of_below hbwf).drew.alloc _).grown hg7 (fun j hj => .inl (.inr (.inr ((ob_len A2 _ _ _ _).trans hj)))) |>.set (p := ⟨g, 1, none⟩) (.inl (.inl rfl)) _, .inl rfl, ?_⟩
            · rw [HF.out]; rfl
            · rw [HF.out]
              refine ⟨?_, own_set_blk hw7 hBk7 (by decide) 1 _, ?_, ?_, HLO.out⟩
              · rw [HNH.out]; exact hBk7.put 1 _
              · rw [cellsH_append, List.length_append, HNW.out]
                exact own_set_blk (by simpa using hown7) hBk7 (by decide) 1 _
              · intro j hj h2
                rcases hat7 with e | e
                · exact HNE.out j hj ((ob_len A2 _ _ _ _).trans (e.symm.trans h2))
                · have h3 := (hlth j hj).2
                  rw [e] at h2
                  injection h2 with h2
                  simp at h2
                  omega
            · rcases hat7 with e | e
              · exact .inl (e.trans (ob_len A2 _ _ _ _))
              · exact .inr (.inr ⟨_, e, by simp; omega⟩)
        · have HF : Hid (askF ⟨H, W⟩ ⟨l1, l2, l3⟩ = (true, 0, ⟨holdL H ⟨l1, l2, l3⟩, W⟩)) := Lib.hid (askF_hold HR.out HW0.out HNO.out HP1.out HP2.out)
          have CHo := hide (rhold_any lo g _ _ H W ⟨l1, l2, l3⟩ w6 hTb (by rw [HNH.out]; omega) hlo6)
          unfold HOp.val at CHo
          have hsz := hbwf.size
          clear hTb hBb
          go_wp2_with fail
          refine (unhide CHo).mono ?_
          rintro e w7 ⟨v, v1', rfl, hT7, hc7, hn7⟩
          go_wp2
          go_ret2
          refine ⟨v1', _, ?_, ?_, (Chg.of_below hbwf).next hc7 (fun j hj => .inl (hj.imp id .inl)), hn7.imp id (fun ⟨j, h1, h2⟩ => ⟨j, h1, Nat.le_trans hsz h2⟩), .inl rfl⟩
          · rw [HF.out]; rfl
          · rw [HF.out]; exact hT7
theorem rask_any (lo g : Nat) (v1 v2 : Value) (H W : List HOp) (l : HOp) (w : World) (T : TabQ w lo g v1 v2 H W) (hh : H.length ≤ 100000) (hw : W.length ≤ 100000) (hlo : lo ≤ w.heap.size) :
    Calls Tryz.prog 18 #[.pointer (some ⟨g, 0, none⟩), l.val] w (AskPostQ w lo g v1 v2 H W l) := by
  cases hR : lrightB l
  · have e1 : Hid (askF ⟨H, W⟩ l = (false, 1, ⟨H, W⟩)) := Lib.hid (by unfold askF; rw [if_pos hR])
    have CR := hide (fun w1 => rlock_any l w1)
    rw [hR] at CR
    have HTB := hide (fun w' (hb : Below w.heap.size w w') => T.below hb)
    have hb0 : Below w.heap.size w (w.alloc (.cells #[.int .i64 l.tx, .int .i64 l.what, .int .i64 l.item] 67)) := (Below.refl _ _).alloc (Nat.le_refl _) _
    obtain ⟨l1, l2, l3⟩ := l
    unfold HOp.val at CR ⊢
    simp only at hb0
    clear hR T
    go_enter Tryz.func18, Tryz.ntmps18
    go_wp2_with fail
    refine (unhide CR _).mono ?_
    rintro e w1 ⟨rfl, hb1⟩
    have hbw := hb0.trans (hb1.mono hb0.size)
    go_wp2
    go_ret2
    refine ⟨_, _, ?_, ?_, Kept.same hbw⟩
    · rw [e1.out]; rfl
    · rw [e1.out]; exact unhide HTB _ hbw
  by_cases hC : 0 ≤ idxGo (fun y : HOp => decide (y.tx = l.tx)) 0 W
  · have e1 : Hid (askF ⟨H, W⟩ l = (false, 7, ⟨H, W⟩)) := Lib.hid (by
      have h := (idxGo_any' (fun y : HOp => decide (y.tx = l.tx)) W).symm
      unfold askF
      rw [if_neg (by rw [hR]; simp), if_pos (by rw [show W.any (ofTx l.tx) = W.any fun y => decide (y.tx = l.tx) from rfl, h]; exact decide_eq_true hC)])
    have CR := hide (fun w1 => rlock_any l w1)
    rw [hR] at CR
    have CW := hide (fun w1 (hb : Below w.heap.size w w1) => rwaiting_any lo g v1 v2 H W l.tx w1 (T.below hb) (by omega))
    have HTB := hide (fun w' (hb : Below w.heap.size w w') => T.below hb)
    have hb0 : Below w.heap.size w (w.alloc (.cells #[.int .i64 l.tx, .int .i64 l.what, .int .i64 l.item] 67)) := (Below.refl _ _).alloc (Nat.le_refl _) _
    have hB0 := Blk.new w 67 [.int .i64 l.tx, .int .i64 l.what, .int .i64 l.item]
    obtain ⟨l1, l2, l3⟩ := l
    simp only at CW hC hb0 hB0
    generalize idxGo (fun y => decide (y.tx = l1)) 0 W = iw at *
    unfold HOp.val at CR ⊢
    clear hR T
    go_enter Tryz.func18, Tryz.ntmps18
    go_wp2_with fail
    refine (unhide CR _).mono ?_
    rintro e w1 ⟨rfl, hb1⟩
    have hbw := hb0.trans (hb1.mono hb0.size)
    have hB1 := hB0.below hb1 hB0.lt
    have m0 := hB1.cellS (i := 0) (v := .int .i64 l1) rfl
    clear hb1 hB0 hb0
    go_wp2_with fail
    refine (unhide CW w1 hbw).mono ?_
    rintro e w2 ⟨rfl, rfl⟩
    go_wp2
    go_ret2
    refine ⟨_, _, ?_, ?_, Kept.same hbw⟩
    · rw [e1.out]; rfl
    · rw [e1.out]; exact unhide HTB _ hbw
  · exact rask_main lo g v1 v2 H W l w T hh hw hlo hR (by omega)
end Go.Proofs.YtbccnafdfeempaaGreatDoor


/-
  CONTRACT of laneref2.Ills where the ops are right.
-/
import Derived.Test.YtoboecppilmnnaaDoorIllsQ
import Derived.Test.YtoboecppilmnnaaDoorRFaces
import Derived.Deep.DeepCutAuto
import Derived.Deep.CutBlock
namespace Go.Proofs.YtoboecppilmnnaaDoor
open Go.RowKit

/-- What the round carries: the ills' block g, the result's block z, the op's block ob. -/
structure ISt (w wx : World) (g z ob : Nat) (a b c d : Bool) (tx what item : Int) : Prop where
  fb : Blk wx g 67 [.bool a, .bool b, .bool c, .bool d]
  zb : Blk wx z 67 [.bool false, .bool false, .bool false, .bool false]
  ob : Blk wx ob 24 [.int .i64 tx, .int .i64 what, .int .i64 item]
  bel : Below w.heap.size w wx
section
variable {w wx wy : World} {g z ob : Nat} {a b c d : Bool} {tx what item : Int}
theorem ISt.below (H : ISt w wx g z ob a b c d tx what item) (hb : Below wx.heap.size wx wy) : ISt w wy g z ob a b c d tx what item :=
  ⟨H.fb.below hb H.fb.lt, H.zb.below hb H.zb.lt, H.ob.below hb H.ob.lt, H.bel.trans (hb.mono H.bel.size)⟩
theorem ISt.drew (H : ISt w wx g z ob a b c d tx what item) : ISt w wx.drew g z ob a b c d tx what item := ⟨H.fb, H.zb, H.ob, H.bel.drew⟩
theorem ISt.put0 (H : ISt w wx g z ob a b c d tx what item) (hz : z < g) (ho : g < ob) (hg : w.heap.size ≤ g) (v : Bool) : ISt w (wx.setCell ⟨g, 0, none⟩ (.bool v)) g z ob v b c d tx what item :=
  ⟨H.fb.put 0 _, H.zb.far (p := ⟨g, 0, none⟩) (Nat.ne_of_lt hz) _, H.ob.far (p := ⟨g, 0, none⟩) (Nat.ne_of_gt ho) _, H.bel.setCell (p := ⟨g, 0, none⟩) hg _⟩
theorem ISt.put1 (H : ISt w wx g z ob a b c d tx what item) (hz : z < g) (ho : g < ob) (hg : w.heap.size ≤ g) (v : Bool) : ISt w (wx.setCell ⟨g, 1, none⟩ (.bool v)) g z ob a v c d tx what item :=
  ⟨H.fb.put 1 _, H.zb.far (p := ⟨g, 1, none⟩) (Nat.ne_of_lt hz) _, H.ob.far (p := ⟨g, 1, none⟩) (Nat.ne_of_gt ho) _, H.bel.setCell (p := ⟨g, 1, none⟩) hg _⟩
theorem ISt.put2 (H : ISt w wx g z ob a b c d tx what item) (hz : z < g) (ho : g < ob) (hg : w.heap.size ≤ g) (v : Bool) : ISt w (wx.setCell ⟨g, 2, none⟩ (.bool v)) g z ob a b v d tx what item :=
  ⟨H.fb.put 2 _, H.zb.far (p := ⟨g, 2, none⟩) (Nat.ne_of_lt hz) _, H.ob.far (p := ⟨g, 2, none⟩) (Nat.ne_of_gt ho) _, H.bel.setCell (p := ⟨g, 2, none⟩) hg _⟩
end

def IHid (h : List HOp) (k : Nat) (a b c : Bool) (f : Int) : Prop := anyL dwT h k = a ∧ anyL drT h k = b ∧ anyL unT h k = c ∧ firstR h k = f
theorem IHid.step {h : List HOp} {k : Nat} {a b c : Bool} {f : Int} {o : HOp} (H : IHid h k a b c f) (ho : h[k]? = some o) {a' b' c' : Bool} {f' : Int}
    (h1 : (a || dwT (h.take k) o) = a') (h2 : (b || drT (h.take k) o) = b') (h3 : (c || unT (h.take k) o) = c') (h4 : (if f < 0 then (if illT (h.take k) o = true then (k : Int) else -1) else f) = f') : IHid h (k + 1) a' b' c' f' := by
  obtain ⟨g1, g2, g3, g4⟩ := H
  exact ⟨by rw [anyL_succ ho, g1, h1], by rw [anyL_succ ho, g2, h2], by rw [anyL_succ ho, g3, h3], by rw [firstR_step ho, g4, h4]⟩

set_option maxRecDepth 100000 in
set_option maxHeartbeats 16000000 in
theorem rills_any (A : Option Addr) (n cap : Nat) (h : List HOp) (w : World) (hr : Rd w w.heap.size 3 A n (cellsH h)) (hok : okH h) :
    Calls Tryd.prog 31 #[.slice A n cap] w fun e w' => e = .returned (.tuple #[(illsF h).val, .int .i64 (firstR h h.length)]) ∧ Below w.heap.size w w' := by
  have hm : n ≤ 40 := by rw [← hr.hlen]; exact okH_len hok
  have HL := Lib.hid hr.hlen
  have HO := Lib.hid (okH_right hok)
  have HLA := Lib.hid (lostA_eq hok)
  have CO := hide (fun w1 k o what (ho : h[k]? = some o) (hb : Below w.heap.size w w1) => ropen_any A n cap h k o what w1 ((hr.below hb).more hb.size) ho hok)
  have CE := hide (fun w1 tx (hb : Below w.heap.size w w1) => by
    have := end_any A n cap h tx n w1 _ (hr.below hb) (Nat.le_refl _) (by omega)
    rw [List.take_of_length_le (by rw [HL.out]; omega)] at this
    exact this)
  have HRF : Hid (illsF h = ⟨anyL dwT h h.length, anyL drT h h.length, anyL unT h h.length, lostF h⟩) := Lib.hid rfl
  clear hok
  have hZ0 : Blk ((w.alloc (.cells #[.bool false, .bool false, .bool false, .bool false] 67)).alloc (.cells #[.bool false, .bool false, .bool false, .bool false] 67)) w.heap.size 67 [.bool false, .bool false, .bool false, .bool false] := (Blk.new w 67 _).alloc _
  have hF0 : Blk ((w.alloc (.cells #[.bool false, .bool false, .bool false, .bool false] 67)).alloc (.cells #[.bool false, .bool false, .bool false, .bool false] 67)) (w.heap.size + 1) 67 [.bool false, .bool false, .bool false, .bool false] := by
    have := Blk.new (w.alloc (.cells #[.bool false, .bool false, .bool false, .bool false] 67)) 67 [.bool false, .bool false, .bool false, .bool false]
    simpa using this
  have hb0 : Below w.heap.size w ((w.alloc (.cells #[.bool false, .bool false, .bool false, .bool false] 67)).alloc (.cells #[.bool false, .bool false, .bool false, .bool false] 67)) := ((Below.refl _ _).alloc (Nat.le_refl _) _).alloc (by simp) _
  have hzg : w.heap.size < w.heap.size + 1 := Nat.lt_succ_self _
  have hzg2 : w.heap.size ≤ w.heap.size + 1 := Nat.le_succ _
  go_enter Tryd.func31, Tryd.ntmps31
  go_wp2
  go_loopw [5, 6] (fun s5 s6 wr => ∃ (k : Nat) (a b c : Bool) (f : Int), k ≤ n ∧ s6 = .int .i64 k ∧ s5 = .int .i64 f ∧ Hid (IHid h k a b c f) ∧
      Blk wr (w.heap.size + 1) 67 [.bool a, .bool b, .bool c, .bool false] ∧ Blk wr w.heap.size 67 [.bool false, .bool false, .bool false, .bool false] ∧ Below w.heap.size w wr) (fun _ s6 _ => n - (intOf s6).toNat)
  case atStart => exact ⟨0, false, false, false, -1, Nat.zero_le _, rfl, rfl, ⟨rfl, rfl, rfl, rfl⟩, hF0, hZ0, hb0⟩
  case round =>
    clear hF0 hZ0 hb0
    obtain ⟨k, a, b, c, f, hk, rfl, rfl, HC, hF, hZ, hbw⟩ := hrel
    have hFlt := hF.lt
    by_cases hlt : k < n
    · obtain ⟨bb, off, o, he, hb, ho, c0, c1, c2⟩ := (hr.below hbw).op (k := k) (by omega)
      cases he
      have HK := Lib.hid ho
      have HRo := HO.out o (List.mem_of_getElem? ho)
      have HF1 : Hid (f < 0 → f = -1) := Lib.hid (by have h1 := firstR_cases h k; have h2 := HC.out.2.2.2; omega)
      have HSTEP := hide (fun a' b' c' f' => (HC.out.step (a' := a') (b' := b') (c' := c') (f' := f') ho))
      clear ho
      have hFS : ISt w (wr.alloc (.cells #[.int .i64 o.tx, .int .i64 o.what, .int .i64 o.item] 24)) (w.heap.size + 1) w.heap.size wr.heap.size a b c false o.tx o.what o.item :=
        ⟨hF.alloc _, hZ.alloc _, Blk.new wr 24 [.int .i64 o.tx, .int .i64 o.what, .int .i64 o.item], hbw.alloc hbw.size _⟩
      obtain ⟨tx, what, item⟩ := o
      obtain ⟨_, _, w1, w2, _, _⟩ := rightB_get HRo
      simp only at c0 c1 c2 hFS w1 w2
      have hob : w.heap.size + 1 < wr.heap.size := hF.lt
      clear HC HRo hF hZ hbw
      go_upto_region 7 with fail
      clear c0 c1 c2
      generalize wr.alloc (.cells #[.int .i64 tx, .int .i64 what, .int .i64 item] 24) = wa at *
      generalize wr.heap.size = ob at *
      obtain ⟨x0, x1, x2⟩ := ocells hFS.ob
      by_cases hw3 : 2 < what
      · have HN2 : Hid (IHid h (k + 1) a b c f) := Lib.hid (by
          have h1 : ¬ what = 1 := by omega
          have h2 : ¬ what = 2 := by omega
          refine unhide HSTEP _ _ _ _ (by simp [dwT, h2]) (by simp [drT, h1]) (by simp [unT, h2]) ?_
          have h3 := HF1.out
          simp only [illT, dwT, drT, unT, h1, h2, decide_false, Bool.false_and, Bool.or_false, Bool.false_eq_true, if_false]
          split <;> omega)
        go_wp2
        go_roundw
        case rel => exact ⟨k + 1, a, b, c, f, by omega, by go_num, rfl, HN2, hFS.fb, hFS.zb, hFS.bel⟩
        case measure => simp [intOf]; omega
      have CO2 := hide (CO.out _ k ⟨tx, what, item⟩ 2 HK.out hFS.bel)
      have CO1 := hide (fun w1 (hb : Below w.heap.size w w1) => CO.out w1 k ⟨tx, what, item⟩ 1 HK.out hb)
      have HST : Hid (dwT (h.take k) ⟨tx, what, item⟩ = (decide (what = 2) && openB (h.take k) ⟨tx, what, item⟩ 2) ∧ drT (h.take k) ⟨tx, what, item⟩ = (decide (what = 1) && openB (h.take k) ⟨tx, what, item⟩ 2) ∧ unT (h.take k) ⟨tx, what, item⟩ = (decide (what = 2) && openB (h.take k) ⟨tx, what, item⟩ 1)) := Lib.hid ⟨rfl, rfl, rfl⟩
      generalize openB (h.take k) ⟨tx, what, item⟩ 2 = d at *
      generalize openB (h.take k) ⟨tx, what, item⟩ 1 = e1 at *
      go_wp2_with fail
      refine (unhide CO2).mono ?_
      rintro e wb ⟨rfl, hb2⟩
      have hF2 := hFS.below hb2
      clear hb2 hFS
      go_wp2_with fail
      refine (unhide CO1 _ hF2.bel).mono ?_
      rintro e wd ⟨rfl, hb3⟩
      have hF4 := hF2.below hb3
      obtain ⟨x0, x1, x2⟩ := ocells hF4.ob
      obtain ⟨y0, y1, y2, y3, z0, z1, z2, z3⟩ := fcells hF4.fb
      clear hb3 hF2
      by_cases hw1 : what = 1
      · subst hw1
        have hn2 : ((1 : Int) == 2) = false := rfl
        by_cases hf0 : f < 0
        · cases d
          · have HN2 : Hid (IHid h (k + 1) a b c f) := Lib.hid (by
              refine unhide HSTEP _ _ _ _ (by rw [HST.out.1]; simp) (by rw [HST.out.2.1]; simp) (by rw [HST.out.2.2]; simp) ?_
              unfold illT
              rw [HST.out.1, HST.out.2.1, HST.out.2.2, if_pos hf0, HF1.out hf0]; simp)
            cases e1
            all_goals
              go_wp2
              go_roundw
              case rel => exact ⟨k + 1, _, _, _, _, by omega, by go_num, rfl, HN2, hF4.fb, hF4.zb, hF4.bel⟩
              case measure => simp [intOf]; omega
          · have HN2 : Hid (IHid h (k + 1) a true c k) := Lib.hid (by
              refine unhide HSTEP _ _ _ _ (by rw [HST.out.1]; simp) (by rw [HST.out.2.1]; simp) (by rw [HST.out.2.2]; simp) ?_
              unfold illT
              rw [HST.out.1, HST.out.2.1, HST.out.2.2, if_pos hf0]; simp)
            have hF5 := hF4.put1 hzg hob hzg2 true
            obtain ⟨u0, u1, u2⟩ := ocells hF5.ob
            cases e1
            all_goals
              go_wp2
              go_roundw
              case rel => exact ⟨k + 1, _, _, _, _, by omega, by go_num, rfl, HN2, hF5.fb, hF5.zb, hF5.bel⟩
              case measure => simp [intOf]; omega
        · have HN2 : Hid (IHid h (k + 1) a (b || d) c f) := Lib.hid (by
              refine unhide HSTEP _ _ _ _ (by rw [HST.out.1]; simp) (by rw [HST.out.2.1]; simp) (by rw [HST.out.2.2]; simp) ?_
              rw [if_neg hf0])
          cases d
          · rw [Bool.or_false] at HN2
            cases e1
            all_goals
              go_wp2
              go_roundw
              case rel => exact ⟨k + 1, _, _, _, _, by omega, by go_num, rfl, HN2, hF4.fb, hF4.zb, hF4.bel⟩
              case measure => simp [intOf]; omega
          · rw [Bool.or_true] at HN2
            have hF5 := hF4.put1 hzg hob hzg2 true
            obtain ⟨u0, u1, u2⟩ := ocells hF5.ob
            cases e1
            all_goals
              go_wp2
              go_roundw
              case rel => exact ⟨k + 1, _, _, _, _, by omega, by go_num, rfl, HN2, hF5.fb, hF5.zb, hF5.bel⟩
              case measure => simp [intOf]; omega
      · have hw2 : what = 2 := by omega
        subst hw2
        have hn2 : ((2 : Int) == 1) = false := rfl
        have HN3 : Hid (IHid h (k + 1) (a || d) b (c || e1) (if f < 0 then (if (d || e1) = true then (k : Int) else -1) else f)) := Lib.hid (by
            refine unhide HSTEP _ _ _ _ (by rw [HST.out.1]; simp) (by rw [HST.out.2.1]; simp) (by rw [HST.out.2.2]; simp) ?_
            unfold illT
            rw [HST.out.1, HST.out.2.1, HST.out.2.2]; simp)
        by_cases hf0 : f < 0
        · have hfe := HF1.out hf0
          rw [if_pos hf0, ← hfe] at HN3
          clear hfe
          cases d <;> cases e1
          · simp at HN3
            go_wp2
            go_roundw
            case rel => exact ⟨k + 1, _, _, _, _, by omega, by go_num, rfl, HN3, hF4.fb, hF4.zb, hF4.bel⟩
            case measure => simp [intOf]; omega
          · simp at HN3
            have hF5 := hF4.put2 hzg hob hzg2 true
            obtain ⟨u0, u1, u2⟩ := ocells hF5.ob
            go_wp2
            go_roundw
            case rel => exact ⟨k + 1, _, _, _, _, by omega, by go_num, rfl, HN3, hF5.fb, hF5.zb, hF5.bel⟩
            case measure => simp [intOf]; omega
          · simp at HN3
            have hF5 := hF4.put0 hzg hob hzg2 true
            obtain ⟨u0, u1, u2⟩ := ocells hF5.ob
            go_wp2
            go_roundw
            case rel => exact ⟨k + 1, _, _, _, _, by omega, by go_num, rfl, HN3, hF5.fb, hF5.zb, hF5.bel⟩
            case measure => simp [intOf]; omega
          · simp at HN3
            have hF5 := (hF4.put0 hzg hob hzg2 true)
            have hF6 := hF5.put2 hzg hob hzg2 true
            obtain ⟨u0, u1, u2⟩ := ocells hF5.ob
            obtain ⟨v0, v1, v2⟩ := ocells hF6.ob
            go_wp2
            go_roundw
            case rel => exact ⟨k + 1, _, _, _, _, by omega, by go_num, rfl, HN3, hF6.fb, hF6.zb, hF6.bel⟩
            case measure => simp [intOf]; omega
        · rw [if_neg hf0] at HN3
          cases d <;> cases e1
          · simp at HN3
            go_wp2
            go_roundw
            case rel => exact ⟨k + 1, _, _, _, _, by omega, by go_num, rfl, HN3, hF4.fb, hF4.zb, hF4.bel⟩
            case measure => simp [intOf]; omega
          · simp at HN3
            have hF5 := hF4.put2 hzg hob hzg2 true
            obtain ⟨u0, u1, u2⟩ := ocells hF5.ob
            go_wp2
            go_roundw
            case rel => exact ⟨k + 1, _, _, _, _, by omega, by go_num, rfl, HN3, hF5.fb, hF5.zb, hF5.bel⟩
            case measure => simp [intOf]; omega
          · simp at HN3
            have hF5 := hF4.put0 hzg hob hzg2 true
            obtain ⟨u0, u1, u2⟩ := ocells hF5.ob
            go_wp2
            go_roundw
            case rel => exact ⟨k + 1, _, _, _, _, by omega, by go_num, rfl, HN3, hF5.fb, hF5.zb, hF5.bel⟩
            case measure => simp [intOf]; omega
          · simp at HN3
            have hF5 := (hF4.put0 hzg hob hzg2 true)
            have hF6 := hF5.put2 hzg hob hzg2 true
            obtain ⟨u0, u1, u2⟩ := ocells hF5.ob
            obtain ⟨v0, v1, v2⟩ := ocells hF6.ob
            go_wp2
            go_roundw
            case rel => exact ⟨k + 1, _, _, _, _, by omega, by go_num, rfl, HN3, hF6.fb, hF6.zb, hF6.bel⟩
            case measure => simp [intOf]; omega
    · have hkn : k = n := by omega
      have HQ : Hid (anyL dwT h h.length = a ∧ anyL drT h h.length = b ∧ anyL unT h h.length = c ∧ firstR h h.length = f) := Lib.hid (by have := HC.out; rw [HL.out, ← hkn]; exact this)
      clear HC hkn
      have HLF : Hid (lostF h = (false || lostA h (h.drop 0))) := Lib.hid (by rw [List.drop_zero, HLA.out, Bool.false_or])
      go_wp2
      go_loopw [10] (fun s10 w2 => ∃ (k2 : Nat) (L : Bool), k2 ≤ n ∧ s10 = .int .i64 k2 ∧ Hid (lostF h = (L || lostA h (h.drop k2))) ∧
          Blk w2 (w.heap.size + 1) 67 [.bool a, .bool b, .bool c, .bool L] ∧ Blk w2 w.heap.size 67 [.bool false, .bool false, .bool false, .bool false] ∧ Below w.heap.size w w2) (fun s10 _ => n - (intOf s10).toNat)
      case atStart => exact ⟨0, false, Nat.zero_le _, rfl, HLF, hF, hZ, hbw⟩
      case round =>
        clear HLF hF hZ hbw hFlt
        obtain ⟨k2, L, hk2, rfl, HE, hF, hZ, hbw⟩ := hrel
        by_cases hlt2 : k2 < n
        · obtain ⟨oa, hoa⟩ : ∃ o, h[k2]? = some o := ⟨_, List.getElem?_eq_getElem (by rw [HL.out]; omega)⟩
          have HOA := Lib.hid hoa
          have HE2 : Hid (lostF h = (L || (lostB h oa (h.drop (k2 + 1)) || lostA h (h.drop (k2 + 1))))) := Lib.hid (by rw [HE.out, lostA_step (drop_at hoa)])
          clear HE hoa
          obtain ⟨wo, rfl⟩ : ∃ wo : World, wo = wr := ⟨_, rfl⟩
          go_wp2
          go_loopw [11] (fun s11 w3 => ∃ (j : Nat) (L : Bool), k2 + 1 ≤ j ∧ j ≤ n ∧ s11 = .int .i64 j ∧ Hid (lostF h = (L || (lostB h oa (h.drop j) || lostA h (h.drop (k2 + 1))))) ∧
              Blk w3 (w.heap.size + 1) 67 [.bool a, .bool b, .bool c, .bool L] ∧ Blk w3 w.heap.size 67 [.bool false, .bool false, .bool false, .bool false] ∧ Below w.heap.size w w3) (fun s11 _ => n - (intOf s11).toNat)
          case atStart => exact ⟨k2 + 1, L, Nat.le_refl _, by omega, by go_num, HE2, hF, hZ, hbw⟩
          case round =>
            clear HE2 hF hZ hbw
            obtain ⟨j, L, hj1, hj2, rfl, HE, hF, hZ, hbw⟩ := hrel
            by_cases hlt3 : j < n
            · obtain ⟨ob, hob⟩ : ∃ o, h[j]? = some o := ⟨_, List.getElem?_eq_getElem (by rw [HL.out]; omega)⟩
              have HOB := Lib.hid hob
              have HE2 : Hid (lostF h = (L || ((h.drop (j + 1)).any (lostC h oa ob) || (lostB h oa (h.drop (j + 1)) || lostA h (h.drop (k2 + 1)))))) := Lib.hid (by rw [HE.out, lostB_step (drop_at hob), Bool.or_assoc])
              clear HE hob
              go_wp2
              go_loopw [12] (fun s12 wx => ∃ (m : Nat) (L : Bool), j + 1 ≤ m ∧ m ≤ n ∧ s12 = .int .i64 m ∧ Hid (lostF h = (L || ((h.drop m).any (lostC h oa ob) || (lostB h oa (h.drop (j + 1)) || lostA h (h.drop (k2 + 1)))))) ∧
                  Blk wx (w.heap.size + 1) 67 [.bool a, .bool b, .bool c, .bool L] ∧ Blk wx w.heap.size 67 [.bool false, .bool false, .bool false, .bool false] ∧ Below w.heap.size w wx) (fun s12 _ => n - (intOf s12).toNat)
              case atStart => exact ⟨j + 1, L, Nat.le_refl _, by omega, by go_num, HE2, hF, hZ, hbw⟩
              case round =>
                clear HE2 hF hZ hbw
                obtain ⟨m, L, hm1, hm2, rfl, HE, hF, hZ, hbx⟩ := hrel
                by_cases hlt4 : m < n
                · obtain ⟨b1, f1, oa', he, hb1, ho1, c0, c1, c2⟩ := (hr.below hbx).op (k := k2) hlt2
                  cases he
                  obtain rfl : oa = oa' := by have := HOA.out; rw [ho1] at this; exact (Option.some.inj this).symm
                  have hbx1 := hbx.alloc hbx.size (.cells #[.int .i64 oa.tx, .int .i64 oa.what, .int .i64 oa.item] 24)
                  obtain ⟨b2, f2, ob', he, hb2, ho2, d0, d1, d2⟩ := (hr.below hbx1).op (k := j) hlt3
                  cases he
                  obtain rfl : ob = ob' := by have := HOB.out; rw [ho2] at this; exact (Option.some.inj this).symm
                  have hbx2 := hbx1.alloc hbx1.size (.cells #[.int .i64 ob.tx, .int .i64 ob.what, .int .i64 ob.item] 24)
                  obtain ⟨b3, f3, oc, he, hb3, ho3, e0, e1, e2⟩ := (hr.below hbx2).op (k := m) hlt4
                  cases he
                  have hbx3 := hbx2.alloc hbx2.size (.cells #[.int .i64 oc.tx, .int .i64 oc.what, .int .i64 oc.item] 24)
                  have HNO := hide (fun (hc : lostC h oa ob oc = false) => (Lib.hid (by rw [HE.out, drop_at ho3, List.any_cons, hc, Bool.false_or]) : Hid (lostF h = (L || ((h.drop (m + 1)).any (lostC h oa ob) || (lostB h oa (h.drop (j + 1)) || lostA h (h.drop (k2 + 1))))))))
                  have HYES := hide (fun (hc : lostC h oa ob oc = true) => (Lib.hid (by rw [HE.out, drop_at ho3, List.any_cons, hc]; simp) : Hid (lostF h = (true || ((h.drop (m + 1)).any (lostC h oa ob) || (lostB h oa (h.drop (j + 1)) || lostA h (h.drop (k2 + 1))))))))
                  have hA3 := ((Blk.new wr 24 [.int .i64 oa.tx, .int .i64 oa.what, .int .i64 oa.item]).alloc (.cells #[.int .i64 ob.tx, .int .i64 ob.what, .int .i64 ob.item] 24)).alloc (.cells #[.int .i64 oc.tx, .int .i64 oc.what, .int .i64 oc.item] 24)
                  have hB3 := (Blk.new (wr.alloc (.cells #[.int .i64 oa.tx, .int .i64 oa.what, .int .i64 oa.item] 24)) 24 [.int .i64 ob.tx, .int .i64 ob.what, .int .i64 ob.item]).alloc (.cells #[.int .i64 oc.tx, .int .i64 oc.what, .int .i64 oc.item] 24)
                  have hC3 := Blk.new ((wr.alloc (.cells #[.int .i64 oa.tx, .int .i64 oa.what, .int .i64 oa.item] 24)).alloc (.cells #[.int .i64 ob.tx, .int .i64 ob.what, .int .i64 ob.item] 24)) 24 [.int .i64 oc.tx, .int .i64 oc.what, .int .i64 oc.item]
                  rw [show (wr.alloc (.cells #[.int .i64 oa.tx, .int .i64 oa.what, .int .i64 oa.item] 24)).heap.size = wr.heap.size + 1 by simp] at hB3
                  rw [show ((wr.alloc (.cells #[.int .i64 oa.tx, .int .i64 oa.what, .int .i64 oa.item] 24)).alloc (.cells #[.int .i64 ob.tx, .int .i64 ob.what, .int .i64 ob.item] 24)).heap.size = wr.heap.size + 1 + 1 by simp] at hC3
                  have hF3 := ((hF.alloc (.cells #[.int .i64 oa.tx, .int .i64 oa.what, .int .i64 oa.item] 24)).alloc (.cells #[.int .i64 ob.tx, .int .i64 ob.what, .int .i64 ob.item] 24)).alloc (.cells #[.int .i64 oc.tx, .int .i64 oc.what, .int .i64 oc.item] 24)
                  have hZ3 := ((hZ.alloc (.cells #[.int .i64 oa.tx, .int .i64 oa.what, .int .i64 oa.item] 24)).alloc (.cells #[.int .i64 ob.tx, .int .i64 ob.what, .int .i64 ob.item] 24)).alloc (.cells #[.int .i64 oc.tx, .int .i64 oc.what, .int .i64 oc.item] 24)
                  have hFl := hF.lt
                  obtain ⟨a1, a2, a3⟩ := oa
                  obtain ⟨p1, p2, p3⟩ := ob
                  obtain ⟨q1, q2, q3⟩ := oc
                  simp only at c0 c1 c2 d0 d1 d2 e0 e1 e2 hA3 hB3 hC3 hF3 hZ3 hbx3
                  clear ho1 ho2 ho3 hbx1 hbx2 HE
                  go_upto_region 30 with fail
                  clear c0 c1 c2 d0 d1 d2 e0 e1 e2 hF hZ hbx
                  generalize ((wr.alloc (.cells #[.int .i64 a1, .int .i64 a2, .int .i64 a3] 24)).alloc (.cells #[.int .i64 p1, .int .i64 p2, .int .i64 p3] 24)).alloc (.cells #[.int .i64 q1, .int .i64 q2, .int .i64 q3] 24) = wq at *
                  obtain ⟨c0, c1, c2⟩ := ocells hA3
                  obtain ⟨d0, d1, d2⟩ := ocells hB3
                  obtain ⟨e0, e1, e2⟩ := ocells hC3
                  obtain ⟨y0, y1, y2, y3, z0, z1, z2, z3⟩ := fcells hF3
                  have HCC : Hid (lostC h ⟨a1, a2, a3⟩ ⟨p1, p2, p3⟩ ⟨q1, q2, q3⟩ = decide (a2 = 1 ∧ p2 = 2 ∧ q2 = 2 ∧ a1 = q1 ∧ a1 ≠ p1 ∧ a3 = p3 ∧ a3 = q3 ∧ endGo a1 h = 3)) := Lib.hid rfl
                  have CE2 := hide (CE.out wq a1 hbx3)
                  clear hA3 hB3 hC3
                  by_cases t1 : a2 = 1
                  rotate_left
                  · have tb : (a2 == 1) = false := by simpa using t1
                    have HT := Lib.hid t1
                    clear t1
                    have HE2 := unhide HNO (by rw [HCC.out]; exact decide_eq_false (by rintro ⟨g1, g2, g3, g4, g5, g6, g7, g8⟩; exact HT.out g1))
                    clear HNO HYES HCC HT
                    go_wp2
                    go_roundw
                    case rel => exact ⟨m + 1, L, by omega, by omega, by go_num, HE2, hF3, hZ3, hbx3⟩
                    case measure => simp [intOf]; omega
                  subst t1
                  by_cases t2 : p2 = 2
                  rotate_left
                  · have tb : (p2 == 2) = false := by simpa using t2
                    have HT := Lib.hid t2
                    clear t2
                    have HE2 := unhide HNO (by rw [HCC.out]; exact decide_eq_false (by rintro ⟨g1, g2, g3, g4, g5, g6, g7, g8⟩; exact HT.out g2))
                    clear HNO HYES HCC HT
                    go_wp2
                    go_roundw
                    case rel => exact ⟨m + 1, L, by omega, by omega, by go_num, HE2, hF3, hZ3, hbx3⟩
                    case measure => simp [intOf]; omega
                  subst t2
                  by_cases t3 : q2 = 2
                  rotate_left
                  · have tb : (q2 == 2) = false := by simpa using t3
                    have HT := Lib.hid t3
                    clear t3
                    have HE2 := unhide HNO (by rw [HCC.out]; exact decide_eq_false (by rintro ⟨g1, g2, g3, g4, g5, g6, g7, g8⟩; exact HT.out g3))
                    clear HNO HYES HCC HT
                    go_wp2
                    go_roundw
                    case rel => exact ⟨m + 1, L, by omega, by omega, by go_num, HE2, hF3, hZ3, hbx3⟩
                    case measure => simp [intOf]; omega
                  subst t3
                  by_cases t4 : a1 = q1
                  rotate_left
                  · have tb : (a1 == q1) = false := by simpa using t4
                    have HT := Lib.hid t4
                    clear t4
                    have HE2 := unhide HNO (by rw [HCC.out]; exact decide_eq_false (by rintro ⟨g1, g2, g3, g4, g5, g6, g7, g8⟩; exact HT.out g4))
                    clear HNO HYES HCC HT
                    go_wp2
                    go_roundw
                    case rel => exact ⟨m + 1, L, by omega, by omega, by go_num, HE2, hF3, hZ3, hbx3⟩
                    case measure => simp [intOf]; omega
                  subst t4
                  by_cases t5 : a1 ≠ p1
                  rotate_left
                  · have HT := Lib.hid t5
                    have tb : (a1 != p1) = false := by simpa using t5
                    clear t5
                    have HE2 := unhide HNO (by rw [HCC.out]; exact decide_eq_false (by rintro ⟨g1, g2, g3, g4, g5, g6, g7, g8⟩; exact HT.out g5))
                    clear HNO HYES HCC HT
                    go_wp2
                    go_roundw
                    case rel => exact ⟨m + 1, L, by omega, by omega, by go_num, HE2, hF3, hZ3, hbx3⟩
                    case measure => simp [intOf]; omega
                  have tb : (a1 != p1) = true := by simpa using t5
                  have HT5 := Lib.hid t5
                  clear t5
                  by_cases t6 : a3 = p3
                  rotate_left
                  · have tb : (a3 == p3) = false := by simpa using t6
                    have HT := Lib.hid t6
                    clear t6
                    have HE2 := unhide HNO (by rw [HCC.out]; exact decide_eq_false (by rintro ⟨g1, g2, g3, g4, g5, g6, g7, g8⟩; exact HT.out g6))
                    clear HNO HYES HCC HT
                    go_wp2
                    go_roundw
                    case rel => exact ⟨m + 1, L, by omega, by omega, by go_num, HE2, hF3, hZ3, hbx3⟩
                    case measure => simp [intOf]; omega
                  subst t6
                  by_cases t7 : a3 = q3
                  rotate_left
                  · have tb : (a3 == q3) = false := by simpa using t7
                    have HT := Lib.hid t7
                    clear t7
                    have HE2 := unhide HNO (by rw [HCC.out]; exact decide_eq_false (by rintro ⟨g1, g2, g3, g4, g5, g6, g7, g8⟩; exact HT.out g7))
                    clear HNO HYES HCC HT
                    go_wp2
                    go_roundw
                    case rel => exact ⟨m + 1, L, by omega, by omega, by go_num, HE2, hF3, hZ3, hbx3⟩
                    case measure => simp [intOf]; omega
                  subst t7
                  by_cases t8 : endGo a1 h = 3
                  · have HE2 := unhide HYES (by rw [HCC.out]; exact decide_eq_true ⟨rfl, rfl, rfl, rfl, HT5.out, rfl, rfl, t8⟩)
                    rw [t8] at CE2
                    clear HNO HYES HCC t8
                    go_wp2_with (go_at_call 14; refine (unhide CE2).mono ?_; rintro e w' ⟨rfl, rfl⟩)
                    go_roundw
                    case rel => exact ⟨m + 1, true, by omega, by omega, by go_num, HE2, hF3.put 3 _, hZ3.far (p := ⟨w.heap.size + 1, 3, none⟩) (Nat.ne_of_lt hzg) _, (hbx3).setCell (p := ⟨w.heap.size + 1, 3, none⟩) hzg2 _⟩
                    case measure => simp [intOf]; omega
                  · have tb8 : (endGo a1 h == 3) = false := by simpa using t8
                    have HT := Lib.hid t8
                    clear t8
                    have HE2 := unhide HNO (by rw [HCC.out]; exact decide_eq_false (by rintro ⟨g1, g2, g3, g4, g5, g6, g7, g8⟩; exact HT.out g8))
                    clear HNO HYES HCC HT
                    generalize endGo a1 h = ev at *
                    go_wp2_with (go_at_call 14; refine (unhide CE2).mono ?_; rintro e w' ⟨rfl, rfl⟩)
                    go_roundw
                    case rel => exact ⟨m + 1, L, by omega, by omega, by go_num, HE2, hF3, hZ3, hbx3⟩
                    case measure => simp [intOf]; omega
                · have HE2 : Hid (lostF h = (L || (lostB h oa (h.drop (j + 1)) || lostA h (h.drop (k2 + 1))))) := Lib.hid (by
                    have e : h.drop m = [] := drop_end (by rw [HL.out]; omega)
                    rw [HE.out, e]; simp)
                  clear HE
                  go_wp2
                  go_roundw
                  case rel => exact ⟨j + 1, L, by omega, by omega, by go_num, HE2, hF, hZ, hbx⟩
                  case measure => simp [intOf]; omega
            · have HE2 : Hid (lostF h = (L || lostA h (h.drop (k2 + 1)))) := Lib.hid (by
                have e : h.drop j = [] := drop_end (by rw [HL.out]; omega)
                rw [HE.out, e, lostB, Bool.false_or])
              clear HE
              go_wp2
              go_roundw
              case rel => exact ⟨k2 + 1, L, by omega, by go_num, HE2, hF, hZ, hbw⟩
              case measure => simp [intOf]; omega
        · have HF : Hid (illsF h = ⟨a, b, c, L⟩ ∧ firstR h h.length = f) := Lib.hid (by
            have e : h.drop k2 = [] := drop_end (by rw [HL.out]; omega)
            have h1 := HQ.out
            have h2 := HE.out
            rw [e, lostA, Bool.or_false] at h2
            exact ⟨by rw [HRF.out, h1.1, h1.2.1, h1.2.2.1, h2], h1.2.2.2⟩)
          obtain ⟨y0, y1, y2, y3, z0, z1, z2, z3⟩ := fcells hF
          obtain ⟨v0, v1, v2, v3, u0, u1, u2, u3⟩ := fcells hZ
          clear HE HQ
          have hR := (((hZ.put 0 (.bool a)).put 1 (.bool b)).put 2 (.bool c)).put 3 (.bool L)
          obtain ⟨r0, r1, r2, r3, _⟩ := fcells (a := a) (b := b) (c := c) (d := L) hR
          go_wp2
          refine bodyPost_ret (v := .tuple #[.agg #[.bool a, .bool b, .bool c, .bool L], .int .i64 f]) (by simp [results, Tryd.results31, go_sem, r0, r1, r2, r3]) rfl ?_
          exact ⟨by rw [HF.out.1, HF.out.2]; rfl, (((hbw.setCell (p := ⟨w.heap.size, 0, none⟩) (Nat.le_refl _) _).setCell (p := ⟨w.heap.size, 1, none⟩) (Nat.le_refl _) _).setCell (p := ⟨w.heap.size, 2, none⟩) (Nat.le_refl _) _).setCell (p := ⟨w.heap.size, 3, none⟩) (Nat.le_refl _) _⟩
end Go.Proofs.YtoboecppilmnnaaDoor


/-
  CONTRACT of laneref1.Faces where the ops are right: as faces.Of (printed by wip/mkrfacesall.py).
-/
import Derived.Test.YtoboecppilmnnaaDoorRFaces
import Derived.Deep.DeepCutAuto
import Derived.Deep.CutBlock
namespace Go.Proofs.YtoboecppilmnnaaDoor
open Go.RowKit

theorem FSt.put0 {w wx : World} {g z ob : Nat} {R c s r : Bool} {tx what item : Int} (H : FSt w wx g z ob R c s r tx what item) (hz : z < g) (ho : g < ob) (hg : w.heap.size ≤ g) (v : Bool) : FSt w (wx.setCell ⟨g, 0, none⟩ (.bool v)) g z ob v c s r tx what item :=
  ⟨H.fb.put 0 _, H.zb.far (p := ⟨g, 0, none⟩) (Nat.ne_of_lt hz) _, H.ob.far (p := ⟨g, 0, none⟩) (Nat.ne_of_gt ho) _, H.bel.setCell (p := ⟨g, 0, none⟩) hg _⟩
/-- What holds of the faces of the first k ops. -/
def FHid (h : List HOp) (k : Nat) (R c s r : Bool) : Prop := scanB (recT h) [] (h.take k) = R ∧ scanB cautT [] (h.take k) = c ∧ scanB strictT [] (h.take k) = s ∧ (scanB rigT [] (h.take k) && scanB strictT [] (h.take k)) = r
theorem FHid.step {h : List HOp} {k : Nat} {R c s r : Bool} {o : HOp} (H : FHid h k R c s r) (hs : h.take (k + 1) = h.take k ++ [o]) : FHid h (k + 1) (R && recT h (h.take k) o) (c && cautT (h.take k) o) (s && strictT (h.take k) o) (r && (rigT (h.take k) o && strictT (h.take k) o)) := by
  obtain ⟨h1, h2, h3, h4⟩ := H
  unfold FHid
  rw [hs, scanB_snoc, scanB_snoc, scanB_snoc, scanB_snoc, h1, h2, h3]
  refine ⟨rfl, rfl, rfl, ?_⟩
  rw [← h4, ← h3]
  generalize scanB rigT [] (h.take k) = a
  generalize scanB strictT [] (h.take k) = b
  generalize rigT (h.take k) o = a'
  generalize strictT (h.take k) o = b'
  cases a <;> cases b <;> cases a' <;> cases b' <;> rfl
def whenI (h : List HOp) (tx : Int) : Int := idxGo (fun o => decide (o = HOp.mk tx 3 0)) 0 h
theorem recT_one (h pre : List HOp) (tx item x : Int) (hx : fromB pre ⟨tx, 1, item⟩ = x) : recT h pre ⟨tx, 1, item⟩ = (decide (x = 0) || decide (x = tx) || !(decide (0 ≤ whenI h tx) && (decide (whenI h x < 0) || decide (whenI h tx < whenI h x)))) := by
  unfold recT whenI; rw [hx]; simp
theorem cautT_one {h : List HOp} (hk : okH h) (k : Nat) (tx item x : Int) (hx : fromB (h.take k) ⟨tx, 1, item⟩ = x) : cautT (h.take k) ⟨tx, 1, item⟩ = (decide (x = 0) || decide (x = tx) || decide (endGo x (h.take k) = 3)) := by
  unfold cautT
  rw [hx]
  have ht : ∀ o ∈ h.take k, 1 ≤ o.tx ∧ o.tx ≤ 6 := fun o ho => okH_tx hk o (List.mem_of_mem_take ho)
  rcases fromB_range (x := ⟨tx, 1, item⟩) ht with h0 | ⟨h1, h2⟩
  · rw [hx] at h0; subst h0; simp [endsB]
  · rw [hx] at h1 h2
    rw [endedF_get hk k x h1 h2]; simp [endsB]

set_option maxRecDepth 100000 in
set_option maxHeartbeats 8000000 in
theorem rfaces_any (A : Option Addr) (n cap : Nat) (h : List HOp) (w : World) (hr : Rd w w.heap.size 3 A n (cellsH h)) (hok : okH h) :
    Calls Tryd.prog 34 #[.slice A n cap] w fun e w' => e = .returned (facesF h).val ∧ Below w.heap.size w w' := by
  have hm : n ≤ 40 := by rw [← hr.hlen]; exact okH_len hok
  have HL := Lib.hid hr.hlen
  have HO := Lib.hid (okH_right hok)
  have HCT := Lib.hid (@cautT_one h hok)
  have CF := hide (fun w1 k o (ho : h[k]? = some o) (hb : Below w.heap.size w w1) => rfrom_any A n cap h k o w1 ((hr.below hb).more hb.size) ho hok)
  have CO := hide (fun w1 k o what (ho : h[k]? = some o) (hb : Below w.heap.size w w1) => ropen_any A n cap h k o what w1 ((hr.below hb).more hb.size) ho hok)
  have CW := hide (fun w1 tx (hb : Below w.heap.size w w1) => rwhen_any A n cap h tx w1 _ (hr.below hb) hok)
  have CE := hide (fun w1 tx k (hk : k ≤ n) (hb : Below w.heap.size w w1) => end_any A n cap h tx k w1 _ (hr.below hb) hk (by omega))
  have HRF : Hid (facesF h = ⟨recF h, scanB cautT [] h, scanB strictT [] h, scanB rigT [] h && scanB strictT [] h⟩) := Lib.hid rfl
  clear hok
  have hZ0 : Blk ((w.alloc (.cells #[.bool false, .bool false, .bool false, .bool false] 73)).alloc (.cells #[.bool true, .bool true, .bool true, .bool true] 73)) w.heap.size 73 [.bool false, .bool false, .bool false, .bool false] := (Blk.new w 73 _).alloc _
  have hF0 : Blk ((w.alloc (.cells #[.bool false, .bool false, .bool false, .bool false] 73)).alloc (.cells #[.bool true, .bool true, .bool true, .bool true] 73)) (w.heap.size + 1) 73 [.bool true, .bool true, .bool true, .bool true] := by
    have := Blk.new (w.alloc (.cells #[.bool false, .bool false, .bool false, .bool false] 73)) 73 [.bool true, .bool true, .bool true, .bool true]
    simpa using this
  have hb0 : Below w.heap.size w ((w.alloc (.cells #[.bool false, .bool false, .bool false, .bool false] 73)).alloc (.cells #[.bool true, .bool true, .bool true, .bool true] 73)) := ((Below.refl _ _).alloc (Nat.le_refl _) _).alloc (by simp) _
  go_enter Tryd.func34, Tryd.ntmps34
  go_wp2
  go_loopw [4] (fun i wr => ∃ (k : Nat) (R c s r : Bool), k ≤ n ∧ i = .int .i64 k ∧ Hid (FHid h k R c s r) ∧
      Blk wr (w.heap.size + 1) 73 [.bool R, .bool c, .bool s, .bool r] ∧ Blk wr w.heap.size 73 [.bool false, .bool false, .bool false, .bool false] ∧ Below w.heap.size w wr) (fun i _ => n - (intOf i).toNat)
  case atStart => exact ⟨0, true, true, true, true, Nat.zero_le _, rfl, ⟨rfl, rfl, rfl, rfl⟩, hF0, hZ0, hb0⟩
  case round =>
    clear hF0 hZ0 hb0
    obtain ⟨k, R, c, s, r, hk, rfl, HC, hF, hZ, hbw⟩ := hrel
    have hFlt := hF.lt
    by_cases hlt : k < n
    · obtain ⟨b, off, o, he, hb, ho, c0, c1, c2⟩ := (hr.below hbw).op (k := k) (by omega)
      cases he
      have HN := Lib.hid (HC.out.step (take_snoc ho))
      have HK := Lib.hid ho
      have HRo := HO.out o (List.mem_of_getElem? ho)
      clear ho
      have hFS : FSt w (wr.alloc (.cells #[.int .i64 o.tx, .int .i64 o.what, .int .i64 o.item] 24)) (w.heap.size + 1) w.heap.size wr.heap.size R c s r o.tx o.what o.item :=
        ⟨hF.alloc _, hZ.alloc _, Blk.new wr 24 [.int .i64 o.tx, .int .i64 o.what, .int .i64 o.item], hbw.alloc hbw.size _⟩
      obtain ⟨tx, what, item⟩ := o
      obtain ⟨_, _, w1, w2, _, _⟩ := rightB_get HRo
      simp only at c0 c1 c2 hFS w1 w2
      have hob : w.heap.size + 1 < wr.heap.size := hF.lt
      have hzg : w.heap.size < w.heap.size + 1 := Nat.lt_succ_self _
      have hzg2 : w.heap.size ≤ w.heap.size + 1 := Nat.le_succ _
      clear HC HRo hF hZ hbw
      go_upto_region 6 with fail
      clear c0 c1 c2
      generalize wr.alloc (.cells #[.int .i64 tx, .int .i64 what, .int .i64 item] 24) = wa at *
      generalize wr.heap.size = ob at *
      obtain ⟨x0, x1, x2⟩ := ocells hFS.ob
      by_cases hw3 : 2 < what
      · have HN2 : Hid (FHid h (k + 1) R c s r) := Lib.hid (by
          have he : endsB ⟨tx, what, item⟩ = true := by simp [endsB]; omega
          have h1 : (what = 1) = False := by simp; omega
          have := HN.out
          simpa [recT, cautT, strictT, rigT, he, h1] using this)
        go_wp2
        go_roundw
        case rel => exact ⟨k + 1, R, c, s, r, by omega, by go_num, HN2, hFS.fb, hFS.zb, hFS.bel⟩
        case measure => simp [intOf]; omega
      by_cases hw1 : what = 1
      · subst hw1
        have hrec := recT_one h (h.take k) tx item _ rfl
        have hcau := HCT.out k tx item _ rfl
        have CF2 := hide (CF.out wa k ⟨tx, 1, item⟩ HK.out hFS.bel)
        generalize fromB (h.take k) ⟨tx, 1, item⟩ = x at *
        have HREC := Lib.hid hrec
        have HCAU := Lib.hid hcau
        generalize recT h (h.take k) ⟨tx, 1, item⟩ = RT at *
        generalize cautT (h.take k) ⟨tx, 1, item⟩ = CT at *
        clear hrec hcau
        go_upto_if 27 with fail
        go_cut [6] (fun s6 wx => ∃ R' c' : Bool, Hid (R' = (R && RT) ∧ c' = (c && CT)) ∧ FSt w wx (w.heap.size + 1) w.heap.size ob R' c' s r tx 1 item)
        case first =>
          by_cases g0 : x = 0
          · have HX : Hid (R = (R && RT) ∧ c = (c && CT)) := Lib.hid (by rw [HREC.out, HCAU.out]; simp [g0])
            subst g0
            clear HREC HCAU
            go_wp2_with fail
            refine (unhide CF2).mono ?_
            rintro e wb ⟨rfl, hb2⟩
            have hF2 := hFS.below hb2
            go_wp2
            go_meet
            case rel => exact ⟨R, c, HX, hF2⟩
          have g0b : (x != 0) = true := by simpa using g0
          by_cases g1 : x = tx
          · have HX : Hid (R = (R && RT) ∧ c = (c && CT)) := Lib.hid (by rw [HREC.out, HCAU.out]; simp [g1])
            subst g1
            have g1b : (x != x) = false := by simp
            clear HREC HCAU
            go_wp2_with fail
            refine (unhide CF2).mono ?_
            rintro e wb ⟨rfl, hb2⟩
            have hF2 := hFS.below hb2
            obtain ⟨x0, x1, x2⟩ := ocells hF2.ob
            go_wp2
            go_meet
            case rel => exact ⟨R, c, HX, hF2⟩
          have g1b : (x != tx) = true := by simpa using g1
          have hm1 := idxGo_none (fun o => decide (o = HOp.mk tx 3 0)) h
          have hm2 := idxGo_none (fun o => decide (o = HOp.mk x 3 0)) h
          rw [show idxGo (fun o => decide (o = HOp.mk tx 3 0)) 0 h = whenI h tx from rfl] at hm1
          rw [show idxGo (fun o => decide (o = HOp.mk x 3 0)) 0 h = whenI h x from rfl] at hm2
          have CW1 := hide (fun w1 (hb : Below w.heap.size w w1) => CW.out w1 tx hb)
          have CW2 := hide (fun w1 (hb : Below w.heap.size w w1) => CW.out w1 x hb)
          rw [show idxGo (fun o => decide (o = HOp.mk tx 3 0)) 0 h = whenI h tx from rfl] at CW1
          rw [show idxGo (fun o => decide (o = HOp.mk x 3 0)) 0 h = whenI h x from rfl] at CW2
          have CE2 := hide (fun w1 (hb : Below w.heap.size w w1) => CE.out w1 x k (by omega) hb)
          generalize whenI h tx = mi at *
          generalize whenI h x = it at *
          generalize endGo x (h.take k) = ev at *
          have HX0 : Hid ((ev = 3 → CT = true) ∧ (ev ≠ 3 → CT = false)) := Lib.hid ⟨fun e => by rw [HCAU.out]; simp [e], fun e => by rw [HCAU.out]; simp [g0, g1, e]⟩
          clear HCAU
          by_cases e3 : ev = 3
          · have HCT1 : Hid (CT = true) := Lib.hid (HX0.out.1 e3)
            subst e3
            by_cases m0 : mi < 0
            · have HRT : Hid (RT = true) := Lib.hid (by rw [HREC.out]; simp [show ¬ 0 ≤ mi by omega])
              have n0 : ¬ 0 ≤ mi := by omega
              clear HX0 HREC
              have HX : Hid (R = (R && RT) ∧ c = (c && CT)) := Lib.hid (by rw [HCT1.out, HRT.out]; simp)
              go_wp2_with fail
              refine (unhide CF2).mono ?_
              rintro e wb ⟨rfl, hb2⟩
              have hF2 := hFS.below hb2
              obtain ⟨x0, x1, x2⟩ := ocells hF2.ob
              obtain ⟨y0, y1, y2, y3, z0, z1, z2, z3⟩ := fcells hF2.fb
              have hob2 : w.heap.size + 1 < ob := hob
              go_wp2_with fail
              refine (unhide CW1 _ hF2.bel).mono ?_
              rintro e wc' ⟨rfl, rfl⟩
              go_wp2_with fail
              refine (unhide CW2 _ hF2.bel).mono ?_
              rintro e wc' ⟨rfl, rfl⟩
              go_wp2_with fail
              refine (unhide CE2 _ (hF2.bel)).mono ?_
              rintro e wc' ⟨rfl, rfl⟩
              go_wp2
              go_meet
              case rel => exact ⟨R, c, HX, hF2⟩
            · have n0 : 0 ≤ mi := by omega
              by_cases i0 : it < 0
              · have HRT : Hid (RT = false) := Lib.hid (by rw [HREC.out]; simp [g0, g1, n0, i0])
                clear HX0 HREC
                have HX : Hid (false = (R && RT) ∧ c = (c && CT)) := Lib.hid (by rw [HCT1.out, HRT.out]; simp)
                go_wp2_with fail
                refine (unhide CF2).mono ?_
                rintro e wb ⟨rfl, hb2⟩
                have hF2 := hFS.below hb2
                obtain ⟨x0, x1, x2⟩ := ocells hF2.ob
                obtain ⟨y0, y1, y2, y3, z0, z1, z2, z3⟩ := fcells hF2.fb
                have hob2 : w.heap.size + 1 < ob := hob
                go_wp2_with fail
                refine (unhide CW1 _ hF2.bel).mono ?_
                rintro e wc' ⟨rfl, rfl⟩
                go_wp2_with fail
                refine (unhide CW2 _ hF2.bel).mono ?_
                rintro e wc' ⟨rfl, rfl⟩
                go_wp2_with fail
                refine (unhide CE2 _ ((hF2.put0 hzg hob2 hzg2 false).bel)).mono ?_
                rintro e wc' ⟨rfl, rfl⟩
                obtain ⟨k0, k1, k2, k3, l0, l1, l2, l3⟩ := fcells ((hF2.put0 hzg hob2 hzg2 false)).fb
                go_wp2
                go_meet
                case rel => exact ⟨false, c, HX, (hF2.put0 hzg hob2 hzg2 false)⟩
              · have j0 : 0 ≤ it := by omega
                by_cases i1 : mi < it
                · have HRT : Hid (RT = false) := Lib.hid (by rw [HREC.out]; simp [g0, g1, n0, i1])
                  clear HX0 HREC
                  have HX : Hid (false = (R && RT) ∧ c = (c && CT)) := Lib.hid (by rw [HCT1.out, HRT.out]; simp)
                  go_wp2_with fail
                  refine (unhide CF2).mono ?_
                  rintro e wb ⟨rfl, hb2⟩
                  have hF2 := hFS.below hb2
                  obtain ⟨x0, x1, x2⟩ := ocells hF2.ob
                  obtain ⟨y0, y1, y2, y3, z0, z1, z2, z3⟩ := fcells hF2.fb
                  have hob2 : w.heap.size + 1 < ob := hob
                  go_wp2_with fail
                  refine (unhide CW1 _ hF2.bel).mono ?_
                  rintro e wc' ⟨rfl, rfl⟩
                  go_wp2_with fail
                  refine (unhide CW2 _ hF2.bel).mono ?_
                  rintro e wc' ⟨rfl, rfl⟩
                  go_wp2_with fail
                  refine (unhide CE2 _ ((hF2.put0 hzg hob2 hzg2 false).bel)).mono ?_
                  rintro e wc' ⟨rfl, rfl⟩
                  obtain ⟨k0, k1, k2, k3, l0, l1, l2, l3⟩ := fcells ((hF2.put0 hzg hob2 hzg2 false)).fb
                  go_wp2
                  go_meet
                  case rel => exact ⟨false, c, HX, (hF2.put0 hzg hob2 hzg2 false)⟩
                · have HRT : Hid (RT = true) := Lib.hid (by rw [HREC.out]; simp [i0, i1])
                  clear HX0 HREC
                  have HX : Hid (R = (R && RT) ∧ c = (c && CT)) := Lib.hid (by rw [HCT1.out, HRT.out]; simp)
                  go_wp2_with fail
                  refine (unhide CF2).mono ?_
                  rintro e wb ⟨rfl, hb2⟩
                  have hF2 := hFS.below hb2
                  obtain ⟨x0, x1, x2⟩ := ocells hF2.ob
                  obtain ⟨y0, y1, y2, y3, z0, z1, z2, z3⟩ := fcells hF2.fb
                  have hob2 : w.heap.size + 1 < ob := hob
                  go_wp2_with fail
                  refine (unhide CW1 _ hF2.bel).mono ?_
                  rintro e wc' ⟨rfl, rfl⟩
                  go_wp2_with fail
                  refine (unhide CW2 _ hF2.bel).mono ?_
                  rintro e wc' ⟨rfl, rfl⟩
                  go_wp2_with fail
                  refine (unhide CE2 _ (hF2.bel)).mono ?_
                  rintro e wc' ⟨rfl, rfl⟩
                  go_wp2
                  go_meet
                  case rel => exact ⟨R, c, HX, hF2⟩
          · have HCT1 : Hid (CT = false) := Lib.hid (HX0.out.2 e3)
            have e3b : (ev != 3) = true := by simpa using e3
            clear e3
            by_cases m0 : mi < 0
            · have HRT : Hid (RT = true) := Lib.hid (by rw [HREC.out]; simp [show ¬ 0 ≤ mi by omega])
              have n0 : ¬ 0 ≤ mi := by omega
              clear HX0 HREC
              have HX : Hid (R = (R && RT) ∧ false = (c && CT)) := Lib.hid (by rw [HCT1.out, HRT.out]; simp)
              go_wp2_with fail
              refine (unhide CF2).mono ?_
              rintro e wb ⟨rfl, hb2⟩
              have hF2 := hFS.below hb2
              obtain ⟨x0, x1, x2⟩ := ocells hF2.ob
              obtain ⟨y0, y1, y2, y3, z0, z1, z2, z3⟩ := fcells hF2.fb
              have hob2 : w.heap.size + 1 < ob := hob
              go_wp2_with fail
              refine (unhide CW1 _ hF2.bel).mono ?_
              rintro e wc' ⟨rfl, rfl⟩
              go_wp2_with fail
              refine (unhide CW2 _ hF2.bel).mono ?_
              rintro e wc' ⟨rfl, rfl⟩
              go_wp2_with fail
              refine (unhide CE2 _ (hF2.bel)).mono ?_
              rintro e wc' ⟨rfl, rfl⟩
              go_wp2
              go_meet
              case rel => exact ⟨R, false, HX, (hF2.put1 hzg hob2 hzg2 false)⟩
            · have n0 : 0 ≤ mi := by omega
              by_cases i0 : it < 0
              · have HRT : Hid (RT = false) := Lib.hid (by rw [HREC.out]; simp [g0, g1, n0, i0])
                clear HX0 HREC
                have HX : Hid (false = (R && RT) ∧ false = (c && CT)) := Lib.hid (by rw [HCT1.out, HRT.out]; simp)
                go_wp2_with fail
                refine (unhide CF2).mono ?_
                rintro e wb ⟨rfl, hb2⟩
                have hF2 := hFS.below hb2
                obtain ⟨x0, x1, x2⟩ := ocells hF2.ob
                obtain ⟨y0, y1, y2, y3, z0, z1, z2, z3⟩ := fcells hF2.fb
                have hob2 : w.heap.size + 1 < ob := hob
                go_wp2_with fail
                refine (unhide CW1 _ hF2.bel).mono ?_
                rintro e wc' ⟨rfl, rfl⟩
                go_wp2_with fail
                refine (unhide CW2 _ hF2.bel).mono ?_
                rintro e wc' ⟨rfl, rfl⟩
                go_wp2_with fail
                refine (unhide CE2 _ ((hF2.put0 hzg hob2 hzg2 false).bel)).mono ?_
                rintro e wc' ⟨rfl, rfl⟩
                obtain ⟨k0, k1, k2, k3, l0, l1, l2, l3⟩ := fcells ((hF2.put0 hzg hob2 hzg2 false)).fb
                go_wp2
                go_meet
                case rel => exact ⟨false, false, HX, ((hF2.put0 hzg hob2 hzg2 false).put1 hzg hob2 hzg2 false)⟩
              · have j0 : 0 ≤ it := by omega
                by_cases i1 : mi < it
                · have HRT : Hid (RT = false) := Lib.hid (by rw [HREC.out]; simp [g0, g1, n0, i1])
                  clear HX0 HREC
                  have HX : Hid (false = (R && RT) ∧ false = (c && CT)) := Lib.hid (by rw [HCT1.out, HRT.out]; simp)
                  go_wp2_with fail
                  refine (unhide CF2).mono ?_
                  rintro e wb ⟨rfl, hb2⟩
                  have hF2 := hFS.below hb2
                  obtain ⟨x0, x1, x2⟩ := ocells hF2.ob
                  obtain ⟨y0, y1, y2, y3, z0, z1, z2, z3⟩ := fcells hF2.fb
                  have hob2 : w.heap.size + 1 < ob := hob
                  go_wp2_with fail
                  refine (unhide CW1 _ hF2.bel).mono ?_
                  rintro e wc' ⟨rfl, rfl⟩
                  go_wp2_with fail
                  refine (unhide CW2 _ hF2.bel).mono ?_
                  rintro e wc' ⟨rfl, rfl⟩
                  go_wp2_with fail
                  refine (unhide CE2 _ ((hF2.put0 hzg hob2 hzg2 false).bel)).mono ?_
                  rintro e wc' ⟨rfl, rfl⟩
                  obtain ⟨k0, k1, k2, k3, l0, l1, l2, l3⟩ := fcells ((hF2.put0 hzg hob2 hzg2 false)).fb
                  go_wp2
                  go_meet
                  case rel => exact ⟨false, false, HX, ((hF2.put0 hzg hob2 hzg2 false).put1 hzg hob2 hzg2 false)⟩
                · have HRT : Hid (RT = true) := Lib.hid (by rw [HREC.out]; simp [i0, i1])
                  clear HX0 HREC
                  have HX : Hid (R = (R && RT) ∧ false = (c && CT)) := Lib.hid (by rw [HCT1.out, HRT.out]; simp)
                  go_wp2_with fail
                  refine (unhide CF2).mono ?_
                  rintro e wb ⟨rfl, hb2⟩
                  have hF2 := hFS.below hb2
                  obtain ⟨x0, x1, x2⟩ := ocells hF2.ob
                  obtain ⟨y0, y1, y2, y3, z0, z1, z2, z3⟩ := fcells hF2.fb
                  have hob2 : w.heap.size + 1 < ob := hob
                  go_wp2_with fail
                  refine (unhide CW1 _ hF2.bel).mono ?_
                  rintro e wc' ⟨rfl, rfl⟩
                  go_wp2_with fail
                  refine (unhide CW2 _ hF2.bel).mono ?_
                  rintro e wc' ⟨rfl, rfl⟩
                  go_wp2_with fail
                  refine (unhide CE2 _ (hF2.bel)).mono ?_
                  rintro e wc' ⟨rfl, rfl⟩
                  go_wp2
                  go_meet
                  case rel => exact ⟨R, false, HX, (hF2.put1 hzg hob2 hzg2 false)⟩
        case rest =>
          clear hFS x0 x1 x2 HREC HCAU CF2
          obtain ⟨R', c', HX, hFS⟩ := hcut
          have hwn : ((1 : Int) == 2) = false := rfl
          have HST : Hid (strictT (h.take k) ⟨tx, 1, item⟩ = !openB (h.take k) ⟨tx, 1, item⟩ 2 ∧ rigT (h.take k) ⟨tx, 1, item⟩ = true) := Lib.hid ⟨by simp [strictT, endsB], by simp [rigT, endsB]⟩
          have hob2 : w.heap.size + 1 < ob := hob
          obtain ⟨x0, x1, x2⟩ := ocells hFS.ob
          have CO2 := hide (CO.out _ k ⟨tx, 1, item⟩ 2 HK.out hFS.bel)
          have CO1 := hide (fun w1 (hb : Below w.heap.size w w1) => CO.out w1 k ⟨tx, 1, item⟩ 1 HK.out hb)
          generalize openB (h.take k) ⟨tx, 1, item⟩ 2 = d at *
          generalize openB (h.take k) ⟨tx, 1, item⟩ 1 = e1 at *
          go_wp2_with fail
          refine (unhide CO2).mono ?_
          rintro e wb ⟨rfl, hb2⟩
          have hF2 := hFS.below hb2
          obtain ⟨x0, x1, x2⟩ := ocells hF2.ob
          obtain ⟨y0, y1, y2, y3, z0, z1, z2, z3⟩ := fcells hF2.fb
          clear hb2 hFS
          cases d
          · have hF3 := hF2
            go_wp2_with fail
            refine (unhide CO1 _ hF3.bel).mono ?_
            rintro e wd ⟨rfl, hb3⟩
            have hF4 := hF3.below hb3
            obtain ⟨x0, x1, x2⟩ := ocells hF4.ob
            obtain ⟨y0, y1, y2, y3, z0, z1, z2, z3⟩ := fcells hF4.fb
            clear hb3 hF3 hF2
            have HN2 : Hid (FHid h (k + 1) R' c' s r) := Lib.hid (by have h1 := HN.out; rw [HST.out.1, HST.out.2] at h1; rw [HX.out.1, HX.out.2]; simpa using h1)
            go_wp2
            go_roundw
            case rel => exact ⟨k + 1, R', c', s, r, by omega, by go_num, HN2, hF4.fb, hF4.zb, hF4.bel⟩
            case measure => simp [intOf]; omega
          · have hF3 := ((hF2.put2 hzg hob2 hzg2 false).put3 hzg hob2 hzg2 false)
            go_wp2_with fail
            refine (unhide CO1 _ hF3.bel).mono ?_
            rintro e wd ⟨rfl, hb3⟩
            have hF4 := hF3.below hb3
            obtain ⟨x0, x1, x2⟩ := ocells hF4.ob
            obtain ⟨y0, y1, y2, y3, z0, z1, z2, z3⟩ := fcells hF4.fb
            clear hb3 hF3 hF2
            have HN2 : Hid (FHid h (k + 1) R' c' false false) := Lib.hid (by have h1 := HN.out; rw [HST.out.1, HST.out.2] at h1; rw [HX.out.1, HX.out.2]; simpa using h1)
            go_wp2
            go_roundw
            case rel => exact ⟨k + 1, R', c', false, false, by omega, by go_num, HN2, hF4.fb, hF4.zb, hF4.bel⟩
            case measure => simp [intOf]; omega
      · have hw2 : what = 2 := by omega
        subst hw2
        have hwn : ((2 : Int) == 1) = false := rfl
        have HST : Hid (strictT (h.take k) ⟨tx, 2, item⟩ = !openB (h.take k) ⟨tx, 2, item⟩ 2 ∧ rigT (h.take k) ⟨tx, 2, item⟩ = !openB (h.take k) ⟨tx, 2, item⟩ 1 ∧ recT h (h.take k) ⟨tx, 2, item⟩ = true ∧ cautT (h.take k) ⟨tx, 2, item⟩ = true) := Lib.hid ⟨by simp [strictT, endsB], by simp [rigT, endsB], by simp [recT], by simp [cautT]⟩
        have hob2 : w.heap.size + 1 < ob := hob
        obtain ⟨x0, x1, x2⟩ := ocells hFS.ob
        have CO2 := hide (CO.out _ k ⟨tx, 2, item⟩ 2 HK.out hFS.bel)
        have CO1 := hide (fun w1 (hb : Below w.heap.size w w1) => CO.out w1 k ⟨tx, 2, item⟩ 1 HK.out hb)
        generalize openB (h.take k) ⟨tx, 2, item⟩ 2 = d at *
        generalize openB (h.take k) ⟨tx, 2, item⟩ 1 = e1 at *
        go_wp2_with fail
        refine (unhide CO2).mono ?_
        rintro e wb ⟨rfl, hb2⟩
        have hF2 := hFS.below hb2
        obtain ⟨x0, x1, x2⟩ := ocells hF2.ob
        obtain ⟨y0, y1, y2, y3, z0, z1, z2, z3⟩ := fcells hF2.fb
        clear hb2 hFS
        cases d
        · have hF3 := hF2
          go_wp2_with fail
          refine (unhide CO1 _ hF3.bel).mono ?_
          rintro e wd ⟨rfl, hb3⟩
          have hF4 := hF3.below hb3
          obtain ⟨x0, x1, x2⟩ := ocells hF4.ob
          obtain ⟨y0, y1, y2, y3, z0, z1, z2, z3⟩ := fcells hF4.fb
          clear hb3 hF3 hF2
          cases e1
          · have HN2 : Hid (FHid h (k + 1) R c s r) := Lib.hid (by have h1 := HN.out; rw [HST.out.1, HST.out.2.1, HST.out.2.2.1, HST.out.2.2.2] at h1; simpa using h1)
            have hF5 := hF4
            go_wp2
            go_roundw
            case rel => exact ⟨k + 1, R, c, s, r, by omega, by go_num, HN2, hF5.fb, hF5.zb, hF5.bel⟩
            case measure => simp [intOf]; omega
          · have HN2 : Hid (FHid h (k + 1) R c s false) := Lib.hid (by have h1 := HN.out; rw [HST.out.1, HST.out.2.1, HST.out.2.2.1, HST.out.2.2.2] at h1; simpa using h1)
            have hF5 := (hF4.put3 hzg hob2 hzg2 false)
            go_wp2
            go_roundw
            case rel => exact ⟨k + 1, R, c, s, false, by omega, by go_num, HN2, hF5.fb, hF5.zb, hF5.bel⟩
            case measure => simp [intOf]; omega
        · have hF3 := ((hF2.put2 hzg hob2 hzg2 false).put3 hzg hob2 hzg2 false)
          go_wp2_with fail
          refine (unhide CO1 _ hF3.bel).mono ?_
          rintro e wd ⟨rfl, hb3⟩
          have hF4 := hF3.below hb3
          obtain ⟨x0, x1, x2⟩ := ocells hF4.ob
          obtain ⟨y0, y1, y2, y3, z0, z1, z2, z3⟩ := fcells hF4.fb
          clear hb3 hF3 hF2
          cases e1
          · have HN2 : Hid (FHid h (k + 1) R c false false) := Lib.hid (by have h1 := HN.out; rw [HST.out.1, HST.out.2.1, HST.out.2.2.1, HST.out.2.2.2] at h1; simpa using h1)
            have hF5 := hF4
            go_wp2
            go_roundw
            case rel => exact ⟨k + 1, R, c, false, false, by omega, by go_num, HN2, hF5.fb, hF5.zb, hF5.bel⟩
            case measure => simp [intOf]; omega
          · have HN2 : Hid (FHid h (k + 1) R c false false) := Lib.hid (by have h1 := HN.out; rw [HST.out.1, HST.out.2.1, HST.out.2.2.1, HST.out.2.2.2] at h1; simpa using h1)
            have hF5 := (hF4.put3 hzg hob2 hzg2 false)
            go_wp2
            go_roundw
            case rel => exact ⟨k + 1, R, c, false, false, by omega, by go_num, HN2, hF5.fb, hF5.zb, hF5.bel⟩
            case measure => simp [intOf]; omega
    · have hkn : k = n := by omega
      have HF : Hid (facesF h = ⟨R, c, s, r⟩) := Lib.hid (by
        have e : h.take k = h := List.take_of_length_le (by rw [HL.out]; omega)
        have h1 := HC.out
        unfold FHid at h1
        rw [e] at h1
        rw [HRF.out, h1.2.1, h1.2.2.2, h1.2.2.1, ← h1.1]; rfl)
      obtain ⟨y0, y1, y2, y3, z0, z1, z2, z3⟩ := fcells hF
      obtain ⟨v0, v1, v2, v3, u0, u1, u2, u3⟩ := fcells hZ
      clear HC hkn
      have hR := (((hZ.put 0 (.bool R)).put 1 (.bool c)).put 2 (.bool s)).put 3 (.bool r)
      obtain ⟨r0, r1, r2, r3, _⟩ := fcells (a := R) (b := c) (c := s) (d := r) hR
      go_wp2
      refine bodyPost_ret (v := .agg #[.bool R, .bool c, .bool s, .bool r]) (by simp [results, Tryd.results34, go_sem, r0, r1, r2, r3]) rfl ?_
      exact ⟨by rw [HF.out]; rfl, (((hbw.setCell (p := ⟨w.heap.size, 0, none⟩) (Nat.le_refl _) _).setCell (p := ⟨w.heap.size, 1, none⟩) (Nat.le_refl _) _).setCell (p := ⟨w.heap.size, 2, none⟩) (Nat.le_refl _) _).setCell (p := ⟨w.heap.size, 3, none⟩) (Nat.le_refl _) _⟩
end Go.Proofs.YtoboecppilmnnaaDoor

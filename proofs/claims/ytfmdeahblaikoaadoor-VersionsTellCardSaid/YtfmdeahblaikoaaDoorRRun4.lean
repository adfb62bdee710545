
/-
  CONTRACT of laneref2.Run, kind 4 (printed by wip/mkrrun.py).
-/
import Derived.Test.YtfmdeahblaikoaaDoorRRunH
import Derived.Test.YtfmdeahblaikoaaDoorRR0
import Derived.Deep.DeepCutAuto
import Derived.Deep.CutBlock

namespace Go.Proofs.YtfmdeahblaikoaaDoor
open Go.RowKit

theorem anyH_snoc {p : HOp → Bool} {l : List HOp} {j : Nat} {x : HOp} (h : l[j]? = some x) : (l.take (j + 1)).any p = ((l.take j).any p || p x) := by
  rw [List.take_add_one, h, List.any_append]
  simp
set_option maxRecDepth 100000 in
set_option maxHeartbeats 16000000 in
theorem rrun4_any (A : Option Addr) (n c : Nat) (h : List HOp) (w : World) (hr : Rd w w.heap.size 3 A n (cellsH h)) (hok : okH h) :
    Calls Tryd.prog 39 #[.slice A n c, .int .i64 4] w fun e w' => ∃ L tag, e = .returned L.vd ∧ RunH w.heap.size w' (playV (refR 4) h) L tag ∧ InvG h h.length (playV (refR 4) h) ∧ Below w.heap.size w w' := by
  have hn : n ≤ 40 := by rw [← hr.hlen]; exact okH_len hok
  have HL := Lib.hid hr.hlen
  have HOKH := Lib.hid hok
  have HRd := hide (fun w1 (hb : Below w.heap.size w w1) => hr.below hb)
  have HR0 := hide (runH_new w)
  have hb0 : Below w.heap.size w ((w.alloc (.cells (opC (fun _ => .slice none 0 0) (fun _ => .slice none 0 0) []).toArray 144)).alloc (.cells (begC []).toArray 112)) := ((Below.refl _ _).alloc (Nat.le_refl _) _).alloc (by simp) _
  have HB0 := hide hb0
  clear hr hok hb0
  go_enter Tryd.func39, Tryd.ntmps39
  go_wp2
  go_loopw [5, 8, 9] (fun s5 s8 s9 wr => ∃ (k : Nat) (s : VSt) (L : RLay) (tag : Nat → Int × Nat), k ≤ n ∧ s9 = .int .i64 k ∧ s5 = L.vd ∧ s8 = L.vl ∧ L.gO = w.heap.size ∧ L.gB = w.heap.size + 1 ∧ RunH w.heap.size wr s L tag ∧ Hid (InvG h k s) ∧ Hid (s.looks.length ≤ k) ∧ Hid (playV (refR 4) h = vrun (refR 4) k (h.drop k) s) ∧ Below w.heap.size w wr) (fun _ _ s9 _ => n - (intOf s9).toNat)
  case atStart => exact ⟨0, vs00, _, _, Nat.zero_le _, rfl, rfl, rfl, rfl, rfl, unhide HR0, Lib.hid (invG0 h), Lib.hid (Nat.le_refl 0), Lib.hid rfl, unhide HB0⟩
  case round =>
    clear HR0 HB0
    obtain ⟨k, s, L, tag, hk, rfl, rfl, rfl, hgO, hgB, H, HI, HLK, HE, hbw⟩ := hrel
    by_cases hlt : k < n
    · obtain ⟨b, off, o, he, hb, ho, c0, c1, c2⟩ := (unhide HRd wr hbw).op (k := k) hlt
      cases he
      have HO := Lib.hid ho
      have HRO := Lib.hid (rightB_get (okH_right HOKH.out o (List.mem_of_getElem? ho)))
      have HE2 : Hid (playV (refR 4) h = vrun (refR 4) (k + 1) (h.drop (k + 1)) (vstep (refR 4) k o s)) := Lib.hid (by rw [HE.out, drop_at ho]; rfl)
      have HI2 : Hid (InvG h (k + 1) (vstep (refR 4) k o s)) := Lib.hid (HI.out.step HOKH.out (refR_look 4) ho)
      have HLK2 : Hid ((vstep (refR 4) k o s).looks.length ≤ k + 1) := Lib.hid (HI2.out.ok.looks)
      have HND := Lib.hid (HI.out.new HOKH.out ho)
      have HDS := Lib.hid (HI.out.openS HOKH.out ho).1
      have HBD := Lib.hid (begD_ok (k := k) HI.out.ok ⟨HRO.out.1, HRO.out.2.1⟩)
      have HTX := Lib.hid (begD_tx s k o.tx)
      have HGET := Lib.hid (openS_get s k o.tx)
      obtain ⟨t, ht⟩ : ∃ t : Nat, o.tx = t := ⟨o.tx.toNat, by have := HRO.out.1; omega⟩
      obtain ⟨tx, what, item⟩ := o
      simp only at ht c0 c1 c2
      subst ht
      have t1 : (1 : Int) ≤ (t : Int) := HRO.out.1
      have t6 : (t : Int) ≤ 6 := HRO.out.2.1
      have hbx : Below wr.heap.size wr (wr.alloc (.cells #[.int .i64 t, .int .i64 what, .int .i64 item] 129)) := (Below.refl _ _).alloc (Nat.le_refl _) _
      have H1 := H.below hbx
      have hbw1 := hbw.trans (hbx.mono hbw.size)
      have hBo := Blk.new wr 129 [.int .i64 t, .int .i64 what, .int .i64 item]
      have x0 := hBo.cellS (i := 0) (v := .int .i64 t) rfl
      have hbeg := H1.beg.cellS (begC_at (ds := s.ds) (t := (t : Int)) (by omega) t6)
      have hbegf := H1.beg.frozen (t : Int).toNat
      have hopc := fun (i : Nat) (hi : i < 5) => H1.opn.cell ((t : Int).toNat * 5 + i)
      rw [Int.toNat_natCast, hgB] at hbeg hbegf
      have HH1 := hide H1
      have HBO := hide hBo
      have hol := hBo.lt
      clear H H1 hBo ho HE hbx hopc
      obtain ⟨q, hq⟩ : ∃ q : Bool, (dget s.ds (t : Int)).isSome = q := ⟨_, rfl⟩
      rw [hq] at hbeg
      have HQ := Lib.hid hq
      clear hq
      have j0 : (0 : Int) ≤ (t : Int) := by omega
      have j7 : (t : Int) < 7 := by omega
      go_upto_if 36 with fail
      go_cut [36] (fun _ wx => ∃ (L1 : RLay) (tag1 : Nat → Int × Nat), RunH w.heap.size wx (openS s k (t : Int)) L1 tag1 ∧ L1.vd = L.vd ∧ L1.vl = L.vl ∧ L1.gO = w.heap.size ∧ L1.gB = w.heap.size + 1 ∧ Blk wx wr.heap.size 129 [.int .i64 t, .int .i64 what, .int .i64 item] ∧ Below w.heap.size w wx)
      case first =>
        cases q
        · as_aux_lemma =>
            have hnone : dget s.ds (t : Int) = none := by
              have := HQ.out
              cases hd : dget s.ds (t : Int) with
              | none => rfl
              | some d => rw [hd] at this; cases this
            have HX := hide ((unhide HH1).open (k := k) (tx := (t : Int)) (by omega) t6 hnone)
            have hOx := (unhide HH1).opn
            rw [hgO] at hOx
            have hcl : ∀ i : Nat, i < 5 → ∃ v, (wr.alloc (.cells #[.int .i64 t, .int .i64 what, .int .i64 item] 129)).cell? ⟨w.heap.size, t * 5 + i, none⟩ = some v := fun i hi => ⟨_, hOx.cellS (List.getElem?_eq_getElem (by rw [opC_len]; omega))⟩
            obtain ⟨y0, z0⟩ := hcl 0 (by omega)
            obtain ⟨y1, z1⟩ := hcl 1 (by omega)
            obtain ⟨y2, z2⟩ := hcl 2 (by omega)
            obtain ⟨y3, z3⟩ := hcl 3 (by omega)
            obtain ⟨y4, z4⟩ := hcl 4 (by omega)
            rw [Nat.add_zero] at z0
            have f0 := hOx.frozen (t * 5)
            have f1 := hOx.frozen (t * 5 + 1)
            have f2 := hOx.frozen (t * 5 + 2)
            have f3 := hOx.frozen (t * 5 + 3)
            have f4 := hOx.frozen (t * 5 + 4)
            have HOB := hide (fun (w' : World) (hb : ∃ a b c d e, w' = set5 ((wr.alloc (.cells #[.int .i64 t, .int .i64 what, .int .i64 item] 129)).setCell ⟨w.heap.size + 1, t, none⟩ (.bool true)) w.heap.size (t * 5) a b c d e) => show Blk w' wr.heap.size 129 [.int .i64 t, .int .i64 what, .int .i64 item] ∧ Below w.heap.size w w' from by
              obtain ⟨a, b, c, d, e, rfl⟩ := hb
              have hne1 : wr.heap.size ≠ w.heap.size + 1 := by have := (unhide HH1).beg.lt; have h2 := (unhide HBO); intro e2; have h3 := (unhide HH1).beg; rw [hgB] at h3; unfold Blk at h2 h3; rw [e2, h3] at h2; injection h2 with h2; injection h2 with _ h2; exact absurd h2 (by decide)
              have hne2 : wr.heap.size ≠ w.heap.size := by intro e2; have h2 := (unhide HBO); have h3 := (unhide HH1).opn; rw [hgO] at h3; unfold Blk at h2 h3; rw [e2, h3] at h2; injection h2 with h2; injection h2 with _ h2; exact absurd h2 (by decide)
              refine ⟨?_, ?_⟩
              · exact ((((((unhide HBO).far (p := ⟨w.heap.size + 1, t, none⟩) hne1 _).far (p := ⟨w.heap.size, t * 5, none⟩) hne2 _).far (p := ⟨w.heap.size, t * 5 + 1, none⟩) hne2 _).far (p := ⟨w.heap.size, t * 5 + 2, none⟩) hne2 _).far (p := ⟨w.heap.size, t * 5 + 3, none⟩) hne2 _).far (p := ⟨w.heap.size, t * 5 + 4, none⟩) hne2 _
              · exact (((((hbw1.setCell (p := ⟨w.heap.size + 1, t, none⟩) (by simp) _).setCell (p := ⟨w.heap.size, t * 5, none⟩) (by simp) _).setCell (p := ⟨w.heap.size, t * 5 + 1, none⟩) (by simp) _).setCell (p := ⟨w.heap.size, t * 5 + 2, none⟩) (by simp) _).setCell (p := ⟨w.heap.size, t * 5 + 3, none⟩) (by simp) _).setCell (p := ⟨w.heap.size, t * 5 + 4, none⟩) (by simp) _)
            rw [hgO, hgB, Int.toNat_natCast] at HX
            clear hbw1 hcl hOx
            go_wp2
            go_meet
            case rel =>
              obtain ⟨g1, g2⟩ := unhide HOB _ ⟨.int .i64 t, .int .i64 k, .int .i64 (-1), .slice none 0 0, .slice none 0 0, rfl⟩
              exact ⟨_, tag, unhide HX, rfl, rfl, rfl, rfl, g1, g2⟩
        · as_aux_lemma =>
            have hsome : ∃ d, dget s.ds (t : Int) = some d := by
              have := HQ.out
              cases hd : dget s.ds (t : Int) with
              | none => rw [hd] at this; cases this
              | some d => exact ⟨d, rfl⟩
            obtain ⟨d, hd⟩ := hsome
            have HOP := Lib.hid (openS_has (k := k) hd).1
            clear hd
            go_wp2
            go_meet
            case rel => exact ⟨L, tag, by rw [HOP.out]; exact unhide HH1, rfl, rfl, hgO, hgB, unhide HBO, hbw1⟩
      case rest =>
        obtain ⟨wx, rfl⟩ : ∃ wx : World, wx = wc := ⟨_, rfl⟩
        obtain ⟨L1, tag1, H1, hvd1, hvl1, hgO1, hgB1, hBo1, hbw1⟩ := hcut
        obtain ⟨hse, hwr⟩ := H1.deal HGET.out
        obtain ⟨As, cs, hvs⟩ := own_slice hse
        obtain ⟨Aw, cw, hvw⟩ := own_slice hwr
        obtain ⟨Ad, cd, hvd⟩ := own_slice H1.done
        have hdr := (H1.drow hvd).2
        have HOC : Hid (∀ i v, ([.int .i64 (begD s k (t : Int)).tx, .int .i64 (begD s k (t : Int)).began, .int .i64 (begD s k (t : Int)).ended, .slice As (begD s k (t : Int)).seen.length cs, .slice Aw (begD s k (t : Int)).wrote.length cw] : List Value)[i]? = some v → (opC L1.vs L1.vw (openS s k (t : Int)).ds)[t * 5 + i]? = some v) := Lib.hid (fun i v hv => by
          have hi : i < 5 := by simpa using (List.getElem?_eq_some_iff.1 hv).1
          have := opC_at (vs := L1.vs) (vw := L1.vw) (ds := (openS s k (t : Int)).ds) (t := (t : Int)) (by omega) t6 hi
          rw [Int.toNat_natCast] at this
          rw [this, dC_some HGET.out, hvs, hvw]; exact hv)
        have HV1 := Lib.hid (vs_own (R := refR 4) (k := k) (o := ⟨(t : Int), 1, item⟩) (s := s) rfl)
        have HV2 := Lib.hid (vs_see (R := refR 4) (k := k) (o := ⟨(t : Int), 1, item⟩) (s := s) rfl)
        have HV3 := Lib.hid (vs_write (R := refR 4) (k := k) (o := ⟨(t : Int), 2, item⟩) (s := s) rfl)
        have HV4 := Lib.hid (vs_may (R := refR 4) (k := k) (o := ⟨(t : Int), 3, item⟩) (s := s) rfl)
        have HV5 := Lib.hid (vs_not (R := refR 4) (k := k) (o := ⟨(t : Int), 3, item⟩) (s := s) rfl)
        have HV6 := Lib.hid (vs_abort (R := refR 4) (k := k) (o := ⟨(t : Int), 4, item⟩) (s := s) rfl)
        have HDE := Lib.hid (show ∀ e ∈ doneD (openS s k (t : Int)), e.ended < k ∧ e.wrote.length ≤ 40 ∧ e.seen.length ≤ 40 from by
          rw [HDS.out]
          exact fun e he => by
            have h1 := HI.out.ok.deals e (doneD_mem HI.out.nodup HI.out.dnds he).1
            exact ⟨h1.ended.2, by have := h1.wrote; omega, by have := h1.seen; omega⟩)
        have HDN := Lib.hid (show ((doneD (openS s k (t : Int))).map (·.tx)).Nodup ∧ (t : Int) ∉ (doneD (openS s k (t : Int))).map (·.tx) ∧ (doneD (openS s k (t : Int))).length ≤ 40 from by
          rw [HDS.out, doneD_txs HI.out.nodup HI.out.dnds]
          exact ⟨HI.out.dnN, HND.out, by
            have h1 : (doneD s).length = s.dn.length := by unfold doneD; rw [List.length_map]
            have := HI.out.ok.dn
            omega⟩)
        have HLX : Hid ((openS s k (t : Int)).looks.length ≤ k) := Lib.hid HLK.out
        have HND1 : Hid ((t : Int) ∉ (openS s k (t : Int)).dn) := Lib.hid HND.out
        have HDL := Lib.hid (And.intro HBD.out.2.1 HBD.out.2.2.1)
        clear HDS HND HBD HI HLK
        generalize openS s k (t : Int) = s1 at *
        generalize begD s k (t : Int) = d at *
        obtain ⟨ns, hns⟩ : ∃ ns, d.seen.length = ns := ⟨_, rfl⟩
        obtain ⟨nw, hnw⟩ : ∃ nw, d.wrote.length = nw := ⟨_, rfl⟩
        obtain ⟨nd, hnd⟩ : ∃ nd, s1.dn.length = nd := ⟨_, rfl⟩
        have hns40 : ns ≤ 40 := by have := HDL.out.1; omega
        have hnw40 : nw ≤ 40 := by have := HDL.out.2; omega
        have hnd40 : nd ≤ 40 := by rw [← hnd, ← (show (doneD s1).length = s1.dn.length by unfold doneD; rw [List.length_map])]; exact HDN.out.2.2
        rw [hns] at hvs HOC
        rw [hnw] at hvw HOC
        rw [hnd] at hvd hdr
        have hx0 : Below wx.heap.size wx (wx.alloc (.cells #[.int .i64 d.tx, .int .i64 d.began, .int .i64 d.ended, .slice As ns cs, .slice Aw nw cw] 143)) := (Below.refl _ _).alloc (Nat.le_refl _) _
        have hse2 := own_below hse hx0 (Nat.le_refl _)
        have hwr2 := own_below hwr hx0 (Nat.le_refl _)
        have hBd := Blk.new wx 143 [.int .i64 d.tx, .int .i64 d.began, .int .i64 d.ended, .slice As ns cs, .slice Aw nw cw]
        have hBo2 := hBo1.below hx0 hBo1.lt
        have hO1 := H1.opn
        rw [hgO1] at hO1
        have hO2 := hO1.below hx0 hO1.lt
        have q0 := hO1.cellS (HOC.out 0 _ rfl)
        have q1 := hO1.cellS (HOC.out 1 _ rfl)
        have q2 := hO1.cellS (HOC.out 2 _ rfl)
        have q3 := hO1.cellS (HOC.out 3 _ rfl)
        have q4 := hO1.cellS (HOC.out 4 _ rfl)
        rw [Nat.add_zero] at q0
        have p0 := hBo1.cellS (i := 0) (v := .int .i64 t) rfl
        have hol1 := hBo1.lt
        have hOl1 := hO1.lt
        rw [hvs, hns] at hse2
        rw [hvw, hnw] at hwr2
        have HNS := Lib.hid hns
        have HNW := Lib.hid hnw
        have HN := Lib.hid hnd
        have HVS := Lib.hid hvs
        have HVW := Lib.hid hvw
        have HVD := Lib.hid hvd
        have HGO := Lib.hid hgO1
        have HHC := hide H1
        have HVV := Lib.hid (And.intro hvd1 (And.intro hvl1 (And.intro hgO1 hgB1)))
        have HDR := hide (fun w' (hb : Below wx.heap.size wx w') => (hdr.below hb).more hb.size)
        have HWX := hide (show Below wx.heap.size wx (wx.alloc (.cells #[.int .i64 d.tx, .int .i64 d.began, .int .i64 d.ended, .slice As ns cs, .slice Aw nw cw] 143)) from hx0)
        have hz2 : (wx.alloc (.cells #[.int .i64 d.tx, .int .i64 d.began, .int .i64 d.ended, .slice As ns cs, .slice Aw nw cw] 143)).heap.size = wx.heap.size + 1 := by simp
        have hlo1 := hbw1.size
        have HBW := hide hbw1
        have hnd5 : nd ≤ 100 := by omega
        rw [← hvd1, hvd, ← hvl1]
        clear H1 hse hwr hdr hBo1 hO1 hgO1 hgB1 hvd1 hvl1 hgO hgB hvs hvw hvd hns hnw hnd hx0 hbw1 HQ HBO c0 c1 c2 x0 hbeg hbegf hol
        go_upto_region 13 with fail
        generalize wx.alloc (.cells #[.int .i64 d.tx, .int .i64 d.began, .int .i64 d.ended, .slice As ns cs, .slice Aw nw cw] 143) = w2 at *
        clear q0 q1 q2 q3 q4 p0
        have p0 := hBo2.cellS (i := 0) (v := .int .i64 t) rfl
        have p1 := hBo2.cellS (i := 1) (v := .int .i64 what) rfl
        have p2 := hBo2.cellS (i := 2) (v := .int .i64 item) rfl
        have d0 := hBd.cellS (i := 0) (v := .int .i64 d.tx) rfl
        have d1 := hBd.cellS (i := 1) (v := .int .i64 d.began) rfl
        have d2 := hBd.cellS (i := 2) (v := .int .i64 d.ended) rfl
        have d3 := hBd.cellS (i := 3) (v := .slice As ns cs) rfl
        have d4 := hBd.cellS (i := 4) (v := .slice Aw nw cw) rfl
        have hw14 := HRO.out.2.2.1
        have hw41 := HRO.out.2.2.2.1
        have hcase : what = 1 ∨ what = 2 ∨ what = 3 ∨ what = 4 := by
          have h1 : (1 : Int) ≤ what := hw14
          have h2 : what ≤ 4 := hw41
          omega
        have hzw2 : w.heap.size ≤ w2.heap.size := by omega
        have hzx : wx.heap.size < w2.heap.size := by omega
        clear hw14 hw41 hz2
        rcases hcase with rfl | rfl | rfl | rfl
        · as_aux_lemma =>
            have CI := hide (rin_any Aw nw cw d.wrote item w2 _ (rd_own hwr2) (by omega))
            obtain ⟨pin, hpin⟩ : ∃ pin : Bool, decide (item ∈ d.wrote) = pin := ⟨_, rfl⟩
            rw [hpin] at CI
            have HPIN := Lib.hid hpin
            clear hpin
            cases pin
            · as_aux_lemma =>
                have HWT := Lib.hid (who_time (done := doneD s1) (item := item) (t1 := (k : Int)) (t2 := 1000) (below := d.tx) (fun e he => ⟨(HDE.out e he).1, by have := (HDE.out e he).1; omega⟩))
                have HST := Lib.hid (HV2.out (of_decide_eq_false HPIN.out))
                have HDT : Hid (d.tx = (t : Int)) := Lib.hid (dget_tx HGET.out).1
                rw [HST.out, refR_see4, refR_look4, ← HWT.out] at HE2 HI2 HLK2
                have CW := hide (who_any Ad nd cd (doneD s1) item k (t : Int) w2 ((unhide HDR) w2 (unhide HWX)) hnd5 (fun e he => by have := (HDE.out e he).2.1; omega))
                have HFR : Hid (whoT (doneD s1) item (k : Int) (t : Int) = whoT (doneD s1) item (k : Int) d.tx) := Lib.hid (by rw [HDT.out])
                rw [HFR.out] at CW
                clear HWT HFR
                generalize whoT (doneD s1) item (k : Int) d.tx = fr at *
                have HQ : Hid ((⟨d.tx, item, fr⟩ : HOp) = ⟨(t : Int), item, fr⟩) := Lib.hid (by rw [HDT.out])
                rw [HQ.out] at HE2 HI2 HLK2
                obtain ⟨Al, cl, hvl⟩ := own_slice (unhide HHC).looks
                have hlx := HLX.out
                have hlk2 := own_below (unhide HHC).looks (unhide HWX) (Nat.le_refl _)
                obtain ⟨nl, hnl⟩ : ∃ nl, s1.looks.length = nl := ⟨_, rfl⟩
                rw [hnl] at hvl hlx hlk2
                rw [hvl] at hlk2
                have HNL := Lib.hid hnl
                have HVL := Lib.hid hvl
                have hnl40 : nl ≤ 40 := by omega
                rw [hvl]
                clear hnl hvl hlx HQ HST
                go_wp2_with fail
                refine (unhide CI).mono ?_
                rintro e wq ⟨rfl, rfl⟩
                go_wp2_with fail
                refine (unhide CW).mono ?_
                rintro e wq ⟨rfl, rfl⟩
                have hb3 : Below wx.heap.size wx (w2.alloc (.cells (cellsH [⟨(t : Int), item, fr⟩]).toArray 133)) := (unhide HWX).trans (((Below.refl w2.heap.size w2).alloc (Nat.le_refl _) _).mono (by omega))
                have hgd3 : wx.heap.size ≠ (w2.alloc (.cells (cellsH [⟨(t : Int), item, fr⟩]).toArray 133)).heap.size := by simp; omega
                have h2L := hBd.lt
                go_wp2_with (first
                  | (at_builtin; (refine wpList_app rfl (.tmp 87) (.tmp 94) _ rfl w.heap.size slt_seen (n := nl) (xs := cellsH s1.looks) (m := 1) (news := cellsH [⟨(t : Int), item, fr⟩]) rfl (own_alloc hlk2 _) rfl (rd_new' _ _ (cellsH [⟨(t : Int), item, fr⟩]) (by simp) rfl) (oneH _) (by omega) (by simp; omega) ?_); intro v4 w4 hown4 hg4 hb4 hat4 hne4; obtain ⟨A4, c4, rfl⟩ := own_slice hown4; have hBd4 := (hBd.alloc (.cells (cellsH [⟨(t : Int), item, fr⟩]).toArray 133)).other (own_alloc hlk2 _) (by decide) hg4; have hBo4 := (hBo2.alloc (.cells (cellsH [⟨(t : Int), item, fr⟩]).toArray 133)).other (own_alloc hlk2 _) (by decide) hg4; have hO4 := (hO2.alloc (.cells (cellsH [⟨(t : Int), item, fr⟩]).toArray 133)).other (own_alloc hlk2 _) (by decide) hg4; obtain ⟨e0, e1, e2, e3, e4, ef, eo, q0, q1, q2, q3, q4, f0, f1, f2, f3, f4⟩ := cells5 hBd4 hBo4 hO4 HOC.out; have i4 := hBo4.cellS (i := 2) (v := .int .i64 item) rfl; have H4 := (unhide HHC).lookD ⟨(t : Int), item, fr⟩ wx.heap.size hgd3 hb3 (v := .slice A4 (nl + 1) c4) (w4 := w4) (by rw [HNL.out, cellsH_append]; exact hown4) (by rw [HVL.out]; exact hg4) (by rw [HVL.out]; exact hat4); have HH4 := hide H4; have hse4 := (H4.deal (by exact HGET.out)).1; rw [HNS.out] at hse4; have hse4 : w4.ownsRow w.heap.size 133 3 (.slice As ns cs) ns (cellsH d.seen) := (by rw [← HVS.out]; exact hse4); have hz4 := hg4.size; have hz44 : wx.heap.size < w4.heap.size := hBd4.lt)
                  | (at_builtin; (refine wpList_app rfl (.tmp 97) (.tmp 104) _ rfl w.heap.size slt_seen (n := ns) (xs := cellsH d.seen) (m := 1) (news := cellsH [⟨(t : Int), item, fr⟩]) rfl (own_alloc hse4 _) rfl (rd_new' _ _ (cellsH [⟨(t : Int), item, fr⟩]) (by simp) rfl) (oneH _) (by omega) (by simp; omega) ?_); intro v5 w5 hown5 hg5 hb5 hat5 hne5; obtain ⟨A5, c5, rfl⟩ := own_slice hown5; have hBd5 := (hBd4.alloc (.cells (cellsH [⟨(t : Int), item, fr⟩]).toArray 133)).other (own_alloc hse4 _) (by decide) hg5; have hBo5 := (hBo4.alloc (.cells (cellsH [⟨(t : Int), item, fr⟩]).toArray 133)).other (own_alloc hse4 _) (by decide) hg5; have hO5 := (hO4.alloc (.cells (cellsH [⟨(t : Int), item, fr⟩]).toArray 133)).other (own_alloc hse4 _) (by decide) hg5; obtain ⟨k0, k1, k2, k3, k4, kf, ko, r0, r1, r2, r3, r4, g0, g1, g2, g3, g4⟩ := cells5 hBd5 hBo5 hO5 HOC.out))
                have hz5 := hb5.size
                have hb34 : Below w4.heap.size w4 (w4.alloc (.cells (cellsH [⟨(t : Int), item, fr⟩]).toArray 133)) := (Below.refl w4.heap.size w4).alloc (Nat.le_refl _) _
                have hx5 := (unhide HH4).sawD (tx := (t : Int)) (by omega) t6 (by exact HGET.out) HND1.out ⟨(t : Int), item, fr⟩ hb34 (v := .slice A5 (ns + 1) c5) (w4 := w5) (by
                  rw [HNS.out, cellsH_append]; exact hown5) (by show World.grownBy _ _ (L1.vs (t : Int)).ownBlock; rw [HVS.out]; exact hg5) (by show _ = (L1.vs (t : Int)).ownBlock ∨ _; rw [HVS.out]; exact hat5) (gd := wx.heap.size) (.inr (by simp)) (by simp; omega) (show But w5.heap.size (fun j => ((j : Int), 0)) (fun m => m.1 = (wx.heap.size : Int)) w5 (w5.setCell ⟨wx.heap.size, 3, none⟩ (.slice A5 (ns + 1) c5)) from But.set (tag := fun j => ((j : Int), 0)) (S := fun m => m.1 = (wx.heap.size : Int)) (p := ⟨wx.heap.size, 3, none⟩) (fun _ => rfl) (.slice A5 (ns + 1) c5))
                obtain ⟨L2, tag2, H2, g2O, g2B, g2d, g2l⟩ := hx5
                dsimp only at H2
                rw [HGO.out, HVW.out, Int.toNat_natCast] at H2
                have hb6 : Below w.heap.size w w5 := ((((unhide HBW).trans (hb3.mono hlo1)).trans (hb4.mono (by simp <;> omega))).trans (hb34.mono (by omega))).trans (hb5.mono (by simp <;> omega))
                have hbF := (((((hb6.setCell (p := ⟨wx.heap.size, 3, none⟩) hlo1 (.slice A5 (ns + 1) c5)).setCell (p := ⟨w.heap.size, t * 5, none⟩) (Nat.le_refl _) (.int .i64 d.tx)).setCell (p := ⟨w.heap.size, t * 5 + 1, none⟩) (Nat.le_refl _) (.int .i64 d.began)).setCell (p := ⟨w.heap.size, t * 5 + 2, none⟩) (Nat.le_refl _) (.int .i64 d.ended)).setCell (p := ⟨w.heap.size, t * 5 + 3, none⟩) (Nat.le_refl _) (.slice A5 (ns + 1) c5)).setCell (p := ⟨w.heap.size, t * 5 + 4, none⟩) (Nat.le_refl _) (.slice Aw nw cw)
                have HF := hide (And.intro H2 hbF)
                clear H2 hbF hb6 hb3 hown5 hg5 hb5 hat5 hne5 hBd5 hBo5 hO5 hown4 hg4 hb4 hat4 hne4 hBd4 hBo4 hO4 hb34 hse4
                go_roundw
                case rel => exact ⟨k + 1, _, L2, tag2, by omega, by go_num, (g2d.trans HVD.out).symm, g2l.symm, g2O.trans HVV.out.2.2.1, g2B.trans HVV.out.2.2.2, (unhide HF).1, HI2, HLK2, HE2, (unhide HF).2⟩
                case measure => simp [intOf]; omega
            · as_aux_lemma =>
                have HST := Lib.hid (HV1.out (of_decide_eq_true HPIN.out))
                rw [HST.out] at HE2 HI2 HLK2
                go_wp2_with fail
                refine (unhide CI).mono ?_
                rintro e wq ⟨rfl, rfl⟩
                go_wp2_with (at_builtin; (refine wpList_app rfl (.tmp 97) (.tmp 104) _ rfl w.heap.size slt_seen (n := ns) (xs := cellsH d.seen) (m := 1) (news := cellsH [⟨(t : Int), item, (t : Int)⟩]) rfl (own_alloc hse2 _) rfl (rd_new' _ _ (cellsH [⟨(t : Int), item, (t : Int)⟩]) (by simp) rfl) (oneH _) (by omega) (by simp; omega) ?_); intro v5 w5 hown5 hg5 hb5 hat5 hne5; obtain ⟨A5, c5, rfl⟩ := own_slice hown5; have hBd5 := (hBd.alloc (.cells (cellsH [⟨(t : Int), item, (t : Int)⟩]).toArray 133)).other (own_alloc hse2 _) (by decide) hg5; have hBo5 := (hBo2.alloc (.cells (cellsH [⟨(t : Int), item, (t : Int)⟩]).toArray 133)).other (own_alloc hse2 _) (by decide) hg5; have hO5 := (hO2.alloc (.cells (cellsH [⟨(t : Int), item, (t : Int)⟩]).toArray 133)).other (own_alloc hse2 _) (by decide) hg5; obtain ⟨e0, e1, e2, e3, e4, ef, eo, q0, q1, q2, q3, q4, f0, f1, f2, f3, f4⟩ := cells5 hBd5 hBo5 hO5 HOC.out)
                have hz5 := hb5.size
                have hb3 : Below wx.heap.size wx (w2.alloc (.cells (cellsH [⟨(t : Int), item, (t : Int)⟩]).toArray 133)) := (unhide HWX).trans (((Below.refl w2.heap.size w2).alloc (Nat.le_refl _) _).mono (by omega))
                have hx5 := (unhide HHC).sawD (tx := (t : Int)) (by omega) t6 (by exact HGET.out) HND1.out ⟨(t : Int), item, (t : Int)⟩ hb3 (v := .slice A5 (ns + 1) c5) (w4 := w5) (by
                  rw [HNS.out, cellsH_append]; exact hown5) (by rw [HVS.out]; exact hg5) (by rw [HVS.out]; exact hat5) (gd := wx.heap.size) (.inl (Nat.le_refl _)) (by simp; omega) (show But w5.heap.size (fun j => ((j : Int), 0)) (fun m => m.1 = (wx.heap.size : Int)) w5 (w5.setCell ⟨wx.heap.size, 3, none⟩ (.slice A5 (ns + 1) c5)) from But.set (tag := fun j => ((j : Int), 0)) (S := fun m => m.1 = (wx.heap.size : Int)) (p := ⟨wx.heap.size, 3, none⟩) (fun _ => rfl) (.slice A5 (ns + 1) c5))
                obtain ⟨L2, tag2, H2, g2O, g2B, g2d, g2l⟩ := hx5
                rw [HGO.out, HVW.out, Int.toNat_natCast] at H2
                have hb6 : Below w.heap.size w w5 := (((unhide HBW).trans ((unhide HWX).mono hlo1)).trans (((Below.refl w2.heap.size w2).alloc (Nat.le_refl _) (.cells (cellsH [⟨(t : Int), item, (t : Int)⟩]).toArray 133)).mono (by omega))).trans hb5
                have hbF := (((((hb6.setCell (p := ⟨wx.heap.size, 3, none⟩) hlo1 (.slice A5 (ns + 1) c5)).setCell (p := ⟨w.heap.size, t * 5, none⟩) (Nat.le_refl _) (.int .i64 d.tx)).setCell (p := ⟨w.heap.size, t * 5 + 1, none⟩) (Nat.le_refl _) (.int .i64 d.began)).setCell (p := ⟨w.heap.size, t * 5 + 2, none⟩) (Nat.le_refl _) (.int .i64 d.ended)).setCell (p := ⟨w.heap.size, t * 5 + 3, none⟩) (Nat.le_refl _) (.slice A5 (ns + 1) c5)).setCell (p := ⟨w.heap.size, t * 5 + 4, none⟩) (Nat.le_refl _) (.slice Aw nw cw)
                have HF := hide (And.intro H2 hbF)
                clear H2 hbF hb6 hb3 hown5 hg5 hb5 hat5 hne5 hBd5 hBo5 hO5
                go_roundw
                case rel => exact ⟨k + 1, _, L2, tag2, by omega, by go_num, (g2d.trans HVD.out).symm, g2l.symm, g2O.trans HVV.out.2.2.1, g2B.trans HVV.out.2.2.2, (unhide HF).1, HI2, HLK2, HE2, (unhide HF).2⟩
                case measure => simp [intOf]; omega
        · as_aux_lemma =>
            have HST := Lib.hid HV3.out
            rw [HST.out] at HE2 HI2 HLK2
            go_wp2_with (at_builtin; (refine wpList_app rfl (.tmp 110) (.tmp 113) _ rfl w.heap.size slt_ints (n := nw) (xs := cellsI d.wrote) (m := 1) (news := cellsI [item]) rfl (own_alloc hwr2 _) rfl (rd_new' _ _ (cellsI [item]) (by simp) rfl) (oneI _) (by omega) (by simp; omega) ?_); intro v5 w5 hown5 hg5 hb5 hat5 hne5; obtain ⟨A5, c5, rfl⟩ := own_slice hown5; have hBd5 := (hBd.alloc (.cells (cellsI [item]).toArray 3)).other (own_alloc hwr2 _) (by decide) hg5; have hBo5 := (hBo2.alloc (.cells (cellsI [item]).toArray 3)).other (own_alloc hwr2 _) (by decide) hg5; have hO5 := (hO2.alloc (.cells (cellsI [item]).toArray 3)).other (own_alloc hwr2 _) (by decide) hg5; obtain ⟨e0, e1, e2, e3, e4, ef, eo, q0, q1, q2, q3, q4, f0, f1, f2, f3, f4⟩ := cells5 hBd5 hBo5 hO5 HOC.out)
            have hz5 := hb5.size
            have hb3 : Below wx.heap.size wx (w2.alloc (.cells (cellsI [item]).toArray 3)) := (unhide HWX).trans (((Below.refl w2.heap.size w2).alloc (Nat.le_refl _) _).mono (by omega))
            have hx5 := (unhide HHC).wroteD (tx := (t : Int)) (by omega) t6 (by exact HGET.out) HND1.out item hb3 (v := .slice A5 (nw + 1) c5) (w4 := w5) (by
              rw [HNW.out, show cellsI (d.wrote ++ [item]) = cellsI d.wrote ++ cellsI [item] by simp [cellsI]]; exact hown5) (by rw [HVW.out]; exact hg5) (by rw [HVW.out]; exact hat5) (But.set (p := ⟨wx.heap.size, 4, none⟩) (fun _ => by show (wx.heap.size : Int) ≤ (wx.heap.size : Int) ∧ (wx.heap.size : Int) < ((w2.alloc (.cells (cellsI [item]).toArray 3)).heap.size : Int); simp; omega) (.slice A5 (nw + 1) c5))
            obtain ⟨L2, tag2, H2, g2O, g2B, g2d, g2l⟩ := hx5
            rw [HGO.out, HVS.out, Int.toNat_natCast] at H2
            have hb6 : Below w.heap.size w w5 := (((unhide HBW).trans ((unhide HWX).mono hlo1)).trans (((Below.refl w2.heap.size w2).alloc (Nat.le_refl _) (.cells (cellsI [item]).toArray 3)).mono (by omega))).trans hb5
            have hbF := (((((hb6.setCell (p := ⟨wx.heap.size, 4, none⟩) hlo1 (.slice A5 (nw + 1) c5)).setCell (p := ⟨w.heap.size, t * 5, none⟩) (Nat.le_refl _) (.int .i64 d.tx)).setCell (p := ⟨w.heap.size, t * 5 + 1, none⟩) (Nat.le_refl _) (.int .i64 d.began)).setCell (p := ⟨w.heap.size, t * 5 + 2, none⟩) (Nat.le_refl _) (.int .i64 d.ended)).setCell (p := ⟨w.heap.size, t * 5 + 3, none⟩) (Nat.le_refl _) (.slice As ns cs)).setCell (p := ⟨w.heap.size, t * 5 + 4, none⟩) (Nat.le_refl _) (.slice A5 (nw + 1) c5)
            have HF := hide (And.intro H2 hbF)
            clear H2 hbF hb6 hb3 hown5 hg5 hb5 hat5 hne5 hBd5 hBo5 hO5
            go_roundw
            case rel => exact ⟨k + 1, _, L2, tag2, by omega, by go_num, (g2d.trans HVD.out).symm, g2l.symm, g2O.trans HVV.out.2.2.1, g2B.trans HVV.out.2.2.2, (unhide HF).1, HI2, HLK2, HE2, (unhide HF).2⟩
            case measure => simp [intOf]; omega
        · as_aux_lemma =>
            have hdsl : (doneD s1).length = nd := by rw [← HN.out]; unfold doneD; rw [List.length_map]
            have HDSL := Lib.hid hdsl
            obtain ⟨Al, cl, hvl⟩ := own_slice (unhide HHC).looks
            have hlx := HLX.out
            have hlk2 := own_below (unhide HHC).looks (unhide HWX) (Nat.le_refl _)
            obtain ⟨nl, hnl⟩ : ∃ nl, s1.looks.length = nl := ⟨_, rfl⟩
            rw [hnl] at hvl hlx hlk2
            rw [hvl] at hlk2
            have HNL := Lib.hid hnl
            have hrl := rd_own hlk2
            have HRL := hide (fun w' (hb : Below w2.heap.size w2 w') => (hrl.below hb).more hb.size)
            have hnl40 : nl ≤ 40 := by omega
            clear hlk2 hrl hnl
            have HVL := Lib.hid hvl
            rw [hvl]
            have HBD2 := hide hBd
            have HBO2 := hide hBo2
            have HO2 := hide hO2
            have HSE2 := hide hse2
            have HWR2 := hide hwr2
            have hb22 : Below w2.heap.size w2 w2 := Below.refl _ _
            have h02 := hBd.lt
            have HXX := hide (fun w' (hb : Below w2.heap.size w2 w') => show Below wx.heap.size wx w' from (unhide HWX).trans (hb.mono (by omega)))
            clear hdsl hvl hlx hBd hBo2 hO2 hse2 hwr2
            go_upto_block 4 with fail
            go_cut [14, 15] (fun s14 _ wx9 => s14 = .bool true ∧ w2 = wx9)
            case first =>
              go_wp2
              go_loopw [14, 15] (fun s14 s15 wr' => s14 = .bool true ∧ s15 = .int .i64 0 ∧ w2 = wr') (fun _ _ _ => 0)
              case atStart => exact ⟨rfl, rfl, rfl⟩
              case round =>
                obtain ⟨rfl, rfl, rfl⟩ := hrel
                by_cases h0 : 0 < nd
                · have h0' : decide ((0 : Int) < (nd : Int)) = true := decide_eq_true (by omega)
                  have h0i : (0 : Int) < (nd : Int) := by omega
                  go_wp2
                  go_meet
                  case rel => exact ⟨rfl, rfl⟩
                · have h0' : decide ((0 : Int) < (nd : Int)) = false := decide_eq_false (by omega)
                  have h0i : ¬ (0 : Int) < (nd : Int) := by omega
                  go_wp2
                  go_meet
                  case rel => exact ⟨rfl, rfl⟩
            case rest =>
              obtain ⟨rfl, rfl⟩ := hcut
              have HDT : Hid (d.tx = (t : Int)) := Lib.hid (dget_tx HGET.out).1
              have HP0 := hide (fun w' (hb : Below w2.heap.size w2 w') => (show w'.cell? ⟨wr.heap.size, 0, none⟩ = some (.int .i64 t) from ((unhide HBO2).below hb (unhide HBO2).lt).cellS (i := 0) rfl))
              go_wp2
              go_loopw [14, 19, 20] (fun s14 s19 _ wr' => ∃ (i : Nat) (ok : Bool), i ≤ nl ∧ s19 = .int .i64 i ∧ s14 = .bool ok ∧ Hid (ok = !(s1.looks.take i).any (fun q => decide (q.what ∈ d.wrote) && decide (d.tx < q.tx) && decide (q.item < d.tx))) ∧ Below w2.heap.size w2 wr') (fun _ s19 _ _ => nl - (intOf s19).toNat)
              case atStart => exact ⟨0, true, Nat.zero_le _, rfl, rfl, Lib.hid rfl, hb22⟩
              case round =>
                clear hb22 d0 d1 d2 d3 d4 p0 p1 p2
                obtain ⟨i, ok, hi, rfl, rfl, HOKX, hbv⟩ := hrel
                by_cases hlt3 : i < nl
                · obtain ⟨b4, off4, q, he4, hb4, hq4, z0, z1, z2⟩ := (unhide HRL wr hbv).op (k := i) hlt3
                  have HAL2 := Lib.hid he4
                  subst he4
                  have HAS := Lib.hid (anyH_snoc (p := (fun q => decide (q.what ∈ d.wrote) && decide (d.tx < q.tx) && decide (q.item < d.tx))) hq4)
                  obtain ⟨q1, q2, q3⟩ := q
                  simp only at z0 z1 z2 HAS
                  have hBv := (unhide HBD2).below hbv h02
                  have d4 := hBv.cellS (i := 4) (v := .slice Aw nw cw) rfl
                  have p0 := unhide HP0 wr hbv
                  have CI2 := hide (rin_any Aw nw cw d.wrote q2 wr.drew _ ((rd_own (unhide HWR2)).below hbv.drew) (by omega))
                  obtain ⟨qi, hqi⟩ : ∃ qi : Bool, decide (q2 ∈ d.wrote) = qi := ⟨_, rfl⟩
                  rw [hqi] at CI2 HAS
                  have n0 : (0 : Int) ≤ (i : Int) := by omega
                  have n1 : (i : Int) < (nl : Int) := by omega
                  clear hqi hBv hq4
                  go_wp2
                  go_still_tail 7, (by kernel_rfl)
                  change wpList _ _ _ _ _ wr.drew
                  go_wp2_with fail
                  refine (unhide CI2).mono ?_
                  rintro e9 w9 ⟨rfl, rfl⟩
                  clear CI2
                  have z0d : wr.drew.cell? ⟨b4, off4 + i * 3, none⟩ = some (.int .i64 q1) := z0
                  have z2d : wr.drew.cell? ⟨b4, off4 + i * 3 + 2, none⟩ = some (.int .i64 q3) := z2
                  have p0d := unhide HP0 wr.drew hbv.drew
                  clear z1 d4
                  cases qi
                  · have HK9 : Hid (ok = !(s1.looks.take (i + 1)).any (fun q => decide (q.what ∈ d.wrote) && decide (d.tx < q.tx) && decide (q.item < d.tx))) := Lib.hid (by rw [HAS.out, Bool.false_and, Bool.false_and]; simp [HOKX.out])
                    clear HOKX
                    go_wp2
                    go_quiet (fail)
                    go_wp2
                    go_roundw
                    case rel => exact ⟨i + 1, ok, by omega, by go_num, rfl, HK9, below_drewN hbv _⟩
                    case measure => simp [intOf]; omega
                  · by_cases g1 : (t : Int) < q1
                    · have tg1 : decide ((t : Int) < q1) = true := decide_eq_true g1
                      have HG1 : Hid (decide (d.tx < q1) = true) := Lib.hid (by rw [HDT.out]; exact tg1)
                      by_cases g2 : q3 < (t : Int)
                      · have tg2 : decide (q3 < (t : Int)) = true := decide_eq_true g2
                        have HG2 : Hid (decide (q3 < d.tx) = true) := Lib.hid (by rw [HDT.out]; exact tg2)
                        have HK9 : Hid (false = !(s1.looks.take (i + 1)).any (fun q => decide (q.what ∈ d.wrote) && decide (d.tx < q.tx) && decide (q.item < d.tx))) := Lib.hid (by rw [HAS.out, HG1.out, HG2.out]; simp)
                        clear HOKX
                        go_wp2
                        go_quiet (fail)
                        go_wp2
                        go_roundw
                        case rel => exact ⟨i + 1, false, by omega, by go_num, rfl, HK9, below_drewN hbv _⟩
                        case measure => simp [intOf]; omega
                      · have tg2 : decide (q3 < (t : Int)) = false := decide_eq_false g2
                        have HG2 : Hid (decide (q3 < d.tx) = false) := Lib.hid (by rw [HDT.out]; exact tg2)
                        have HK9 : Hid (ok = !(s1.looks.take (i + 1)).any (fun q => decide (q.what ∈ d.wrote) && decide (d.tx < q.tx) && decide (q.item < d.tx))) := Lib.hid (by rw [HAS.out, HG2.out]; simp [HOKX.out])
                        clear HOKX
                        go_wp2
                        go_quiet (fail)
                        go_wp2
                        go_roundw
                        case rel => exact ⟨i + 1, ok, by omega, by go_num, rfl, HK9, below_drewN hbv _⟩
                        case measure => simp [intOf]; omega
                    · have tg1 : decide ((t : Int) < q1) = false := decide_eq_false g1
                      have HG1 : Hid (decide (d.tx < q1) = false) := Lib.hid (by rw [HDT.out]; exact tg1)
                      have HK9 : Hid (ok = !(s1.looks.take (i + 1)).any (fun q => decide (q.what ∈ d.wrote) && decide (d.tx < q.tx) && decide (q.item < d.tx))) := Lib.hid (by rw [HAS.out, HG1.out]; simp [HOKX.out])
                      clear HOKX
                      go_wp2
                      go_quiet (fail)
                      go_wp2
                      go_roundw
                      case rel => exact ⟨i + 1, ok, by omega, by go_num, rfl, HK9, below_drewN hbv _⟩
                      case measure => simp [intOf]; omega
                · have HM : Hid (ok = !s1.looks.any (fun q => decide (q.what ∈ d.wrote) && decide (d.tx < q.tx) && decide (q.item < d.tx))) := Lib.hid (by rw [HOKX.out, List.take_of_length_le (l := s1.looks) (by rw [HNL.out]; omega)])
                  clear HOKX
                  obtain ⟨w3, rfl⟩ : ∃ w3 : World, w3 = wr := ⟨_, rfl⟩
                  have hBv := (unhide HBD2).below hbv h02
                  have hBov := (unhide HBO2).below hbv (unhide HBO2).lt
                  have hOv := (unhide HO2).below hbv (unhide HO2).lt
                  have hzv := hbv.size
                  cases ok
                  · as_aux_lemma =>
                      have HMY : Hid ((refR 4).may s1 d = false) := Lib.hid (by rw [refR_may4, ← HM.out])
                      have HST := Lib.hid (HV5.out HMY.out)
                      rw [HST.out] at HE2 HI2 HLK2
                      obtain ⟨d0, d1, d2, d3, d4, ef, p0, q0, q1, q2, q3, q4, f0, f1, f2, f3, f4⟩ := cells5 hBv hBov hOv HOC.out
                      have hRR := (unhide HHC).rest (tx := (t : Int)) (by omega) t6 (by exact HGET.out) (unhide HXX w3 hbv)
                      rw [HGO.out, HVS.out, HVW.out, Int.toNat_natCast] at hRR
                      have hbF : Below w.heap.size w (set5 w3 w.heap.size (t * 5) (.int .i64 d.tx) (.int .i64 d.began) (.int .i64 d.ended) (.slice As ns cs) (.slice Aw nw cw)) := ((((((unhide HBW).trans ((unhide HXX w3 hbv).mono hlo1)).setCell (p := ⟨w.heap.size, t * 5, none⟩) (Nat.le_refl _) _).setCell (p := ⟨w.heap.size, t * 5 + 1, none⟩) (Nat.le_refl _) _).setCell (p := ⟨w.heap.size, t * 5 + 2, none⟩) (Nat.le_refl _) _).setCell (p := ⟨w.heap.size, t * 5 + 3, none⟩) (Nat.le_refl _) _).setCell (p := ⟨w.heap.size, t * 5 + 4, none⟩) (Nat.le_refl _) _
                      have HF := hide (And.intro hRR hbF)
                      clear hRR hbF hBv hBov hOv
                      go_wp2
                      go_roundw
                      case rel => exact ⟨k + 1, s1, L1, tag1, by omega, by go_num, HVD.out.symm, HVL.out.symm, HVV.out.2.2.1, HVV.out.2.2.2, (unhide HF).1, HI2, HLK2, HE2, (unhide HF).2⟩
                      case measure => simp [intOf]; omega
                  · as_aux_lemma =>
                      have HMY : Hid ((refR 4).may s1 d = true) := Lib.hid (by rw [refR_may4, ← HM.out])
                      have HST := Lib.hid (HV4.out HMY.out)
                      rw [HST.out] at HE2 HI2 HLK2
                      have hdn2 := own_below (unhide HHC).done (unhide HXX w3 hbv) (Nat.le_refl _)
                      rw [HVD.out, HN.out] at hdn2
                      have hdn3 : (w3.setCell ⟨wx.heap.size, 2, none⟩ (.int .i64 k)).ownsRow w.heap.size 143 5 (.slice Ad nd cd) nd (s1.dn.flatMap (dC L1.vs L1.vw s1.ds)) := own_set_far hdn2 (fun g hg => by have := ((unhide HHC).done.lt g (by rw [HVD.out]; exact hg)).2; omega) _ _
                      have hBv3 := hBv.put 2 (.int .i64 k)
                      have hBov3 := hBov.far (p := ⟨wx.heap.size, 2, none⟩) (by show wr.heap.size ≠ wx.heap.size; omega) (.int .i64 k)
                      have hOv3 := hOv.far (p := ⟨wx.heap.size, 2, none⟩) (by show w.heap.size ≠ wx.heap.size; omega) (.int .i64 k)
                      obtain ⟨d0, d1, d2, d3, d4, ef, p0, q0, q1, q2, q3, q4, f0, f1, f2, f3, f4⟩ := cells5 hBv hBov hOv HOC.out
                      have fz2 := ef 2
                      have hzw3 : w.heap.size ≤ w3.heap.size := by omega
                      clear hBv hBov hOv hdn2
                      go_wp2_with (at_builtin; (refine wpList_app rfl (.tmp 225) (.tmp 227) _ rfl w.heap.size slt_rdeal (n := nd) (xs := s1.dn.flatMap (dC L1.vs L1.vw s1.ds)) (m := 1) (news := [.int .i64 d.tx, .int .i64 d.began, .int .i64 k, .slice As ns cs, .slice Aw nw cw]) rfl (own_alloc hdn3 _) rfl (rd_new' _ _ [.int .i64 d.tx, .int .i64 d.began, .int .i64 k, .slice As ns cs, .slice Aw nw cw] (by simp) rfl) (by intro u hu; simp at hu; rcases hu with rfl | rfl | rfl | rfl | rfl <;> rfl) (by omega) (by simp; omega) ?_); intro v5 w5 hown5 hg5 hb5 hat5 hne5; obtain ⟨A5, c5, rfl⟩ := own_slice hown5; have hbd := dbox_grown (hBv3.alloc (.cells #[.int .i64 d.tx, .int .i64 d.began, .int .i64 k, .slice As ns cs, .slice Aw nw cw] 143)) hg5 (fun g hg => by have := ((unhide HHC).done.lt g (by rw [HVD.out]; exact hg)).2; omega); have hbo := (hBov3.alloc (.cells #[.int .i64 d.tx, .int .i64 d.began, .int .i64 k, .slice As ns cs, .slice Aw nw cw] 143)).other (own_alloc hdn3 _) (by decide) hg5; have hoo := (hOv3.alloc (.cells #[.int .i64 d.tx, .int .i64 d.began, .int .i64 k, .slice As ns cs, .slice Aw nw cw] 143)).other (own_alloc hdn3 _) (by decide) hg5; obtain ⟨e0, e1, e2, e3, e4, eff, po, r0, r1, r2, r3, r4, h0, h1, h2, h3, h4⟩ := cells5 hbd hbo hoo HOC.out)
                      have hz5 := hb5.size
                      have hbA : Below wx.heap.size wx ((w3.setCell ⟨wx.heap.size, 2, none⟩ (.int .i64 k)).alloc (.cells #[.int .i64 d.tx, .int .i64 d.began, .int .i64 k, .slice As ns cs, .slice Aw nw cw] 143)) := ((unhide HXX w3 hbv).setCell (p := ⟨wx.heap.size, 2, none⟩) (Nat.le_refl _) _).alloc (by simp; omega) _
                      obtain ⟨tag2, H2⟩ := (unhide HHC).doneD (tx := (t : Int)) (by omega) t6 (by exact HGET.out) HND1.out (k : Int) (setsL (t : Int) d.wrote s1.last) hbA (v := .slice A5 (nd + 1) c5) (w4 := w5) (by rw [HN.out, HVS.out, HVW.out]; exact hown5) (by rw [HVD.out]; exact hg5) (by rw [HVD.out]; exact hat5)
                      rw [HGO.out, HVS.out, HVW.out, Int.toNat_natCast] at H2
                      have hb6 : Below w.heap.size w w5 := ((unhide HBW).trans (hbA.mono hlo1)).trans hb5
                      have hbF := ((((hb6.setCell (p := ⟨w.heap.size, t * 5, none⟩) (Nat.le_refl _) (.int .i64 d.tx)).setCell (p := ⟨w.heap.size, t * 5 + 1, none⟩) (Nat.le_refl _) (.int .i64 d.began)).setCell (p := ⟨w.heap.size, t * 5 + 2, none⟩) (Nat.le_refl _) (.int .i64 k)).setCell (p := ⟨w.heap.size, t * 5 + 3, none⟩) (Nat.le_refl _) (.slice As ns cs)).setCell (p := ⟨w.heap.size, t * 5 + 4, none⟩) (Nat.le_refl _) (.slice Aw nw cw)
                      have HF := hide (And.intro H2 hbF)
                      clear H2 hbF hb6 hbA hown5 hg5 hb5 hat5 hne5 hbd hbo hoo
                      go_roundw
                      case rel => exact ⟨k + 1, _, ⟨w.heap.size, L1.gB, .slice A5 (nd + 1) c5, L1.vl, L1.vs, L1.vw⟩, tag2, by omega, by go_num, rfl, HVL.out.symm, rfl, HVV.out.2.2.2, (unhide HF).1, HI2, HLK2, HE2, (unhide HF).2⟩
                      case measure => simp [intOf]; omega
        · as_aux_lemma =>
            have HST := Lib.hid HV6.out
            rw [HST.out] at HE2 HI2 HLK2
            have hRR := (unhide HHC).rest (tx := (t : Int)) (by omega) t6 (by exact HGET.out) (unhide HWX)
            rw [HGO.out, HVS.out, HVW.out, Int.toNat_natCast] at hRR
            have HRR := hide hRR
            have hbF : Below w.heap.size w (set5 w2 w.heap.size (t * 5) (.int .i64 d.tx) (.int .i64 d.began) (.int .i64 d.ended) (.slice As ns cs) (.slice Aw nw cw)) := ((((((unhide HBW).trans ((unhide HWX).mono hlo1)).setCell (p := ⟨w.heap.size, t * 5, none⟩) (Nat.le_refl _) _).setCell (p := ⟨w.heap.size, t * 5 + 1, none⟩) (Nat.le_refl _) _).setCell (p := ⟨w.heap.size, t * 5 + 2, none⟩) (Nat.le_refl _) _).setCell (p := ⟨w.heap.size, t * 5 + 3, none⟩) (Nat.le_refl _) _).setCell (p := ⟨w.heap.size, t * 5 + 4, none⟩) (Nat.le_refl _) _
            have HBF := hide hbF
            have q0 := hO2.cellS (HOC.out 0 _ rfl)
            have q1 := hO2.cellS (HOC.out 1 _ rfl)
            have q2 := hO2.cellS (HOC.out 2 _ rfl)
            have q3 := hO2.cellS (HOC.out 3 _ rfl)
            have q4 := hO2.cellS (HOC.out 4 _ rfl)
            rw [Nat.add_zero] at q0
            have f0 := hO2.frozen (t * 5)
            have f1 := hO2.frozen (t * 5 + 1)
            have f2 := hO2.frozen (t * 5 + 2)
            have f3 := hO2.frozen (t * 5 + 3)
            have f4 := hO2.frozen (t * 5 + 4)
            clear hRR hbF hse2 hwr2 hBd hBo2 hO2
            go_wp2
            go_roundw
            case rel => exact ⟨k + 1, s1, L1, tag1, by omega, by go_num, HVD.out.symm, rfl, HVV.out.2.2.1, HVV.out.2.2.2, unhide HRR, HI2, HLK2, HE2, unhide HBF⟩
            case measure => simp [intOf]; omega
    · have HT : Hid (playV (refR 4) h = s) := Lib.hid (by rw [HE.out, drop_end (by rw [HL.out]; omega)]; rfl)
      have HKN : k = n := by omega
      obtain ⟨Ad, cd, hvd⟩ : ∃ Ad cd, L.vd = .slice Ad s.dn.length cd := own_slice H.done
      have HH := hide H
      have HV := Lib.hid hvd
      rw [hvd]
      clear H hvd HE
      go_wp2
      go_ret
      exact ⟨L, tag, by rw [HV.out]; rfl, by rw [HT.out]; exact unhide HH, by rw [HT.out, HL.out, ← HKN]; exact HI.out, hbw⟩
end Go.Proofs.YtfmdeahblaikoaaDoor

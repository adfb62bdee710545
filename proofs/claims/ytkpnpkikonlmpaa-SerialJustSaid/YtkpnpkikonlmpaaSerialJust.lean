
/-
  PROVED: lanelaw1.SerialJust returns true, for every history and every list of numbers: a history has an order by which it is the same just if its edges have no ring; along that order it is the same, comes to the same, and is serial. No condition beyond the form's own reach.
-/
import Derived.Test.YtkpnpkikonlmpaaM2
import Derived.Test.YtkpnpkikonlmpaaSerial3
import Derived.Test.YtkpnpkikonlmpaaN4
import Derived.Test.YtkpnpkikonlmpaaDone2
import Derived.Test.YtkpnpkikonlmpaaPlay
import Derived.Test.YtkpnpkikonlmpaaOpen

namespace Go.Proofs.Ytkpnpkikonlmpaa.serialJust
open Go.ChangeShapes Go.WideShapes Go.ChangeAt Go.RowKit Go.Proofs.Ytkpnpkikonlmpaa

theorem fact : ordE oneJ = 0 ∧ ordL oneJ = [2, 1] := ord_some oneJ_ok oneJ_order

/-! ### The walk. -/
set_option maxRecDepth 100000 in
set_option maxHeartbeats 8000000 in
theorem walk (A : Option Addr) (n c : Nat) (h : List HOp) (B : Option Addr) (m d : Nat) (p : List Int) (w : World) (hr : Rd w w.heap.size 3 A n (cellsH h)) (hn : n * 24 ≤ 140737488351232) (hp : Rd w w.heap.size 1 B m (cellsI p)) (hmb : m * 8 ≤ 140737488351232) :
    Calls Try.prog 4 #[.slice A n c, .slice B m d] w fun e w' => e = .returned (.bool true) ∧ Below w.heap.size w w' := by
  have hm : n ≤ 6000000000000 := by omega
  have hm2 : m ≤ 17592186043904 := by omega
  have HR := hide (fun w1 (hb : Below w.heap.size w w1) => (hr.below hb).more hb.size)
  have HP := hide (fun w1 (hb : Below w.heap.size w w1) => (hp.below hb).more hb.size)
  have hr0 := rd_new w 24 (size := 3) (n := 4) (cellsH oneJ) rfl
  have hb0 : Below w.heap.size w (w.alloc (.cells (cellsH oneJ).toArray 24)) := (Below.refl _ _).alloc (Nat.le_refl _) _
  have C1 := hide (sorder_any (some ⟨w.heap.size, 0, none⟩) 4 4 oneJ _ (hr0.more (by simp)) (by omega))
  rw [fact.1, fact.2, errV_zero] at C1
  have HB0 := hide hb0
  have HH := Lib.hid hr.hlen
  clear hb0 hr0 hr hp hn
  go_enter Try.func4, Try.ntmps4
  go_wp2_with fail
  refine (unhide C1).mono ?_
  rintro e w1 ⟨v1, k1, rfl, ho1, hb1⟩
  obtain ⟨A1, c1, rfl⟩ := own_slice ho1
  obtain rfl : k1 = 2 := by rw [← own_ilen ho1]; rfl
  have hbw1 := (unhide HB0).trans (hb1.mono (unhide HB0).size)
  have hd1 := rd_own ho1
  obtain ⟨b, off, x, he, _, hx, q0⟩ := hd1.int (k := 0) (by omega)
  cases he
  cases hx
  rw [Nat.add_zero] at q0
  clear C1 hb1 ho1 hd1 HB0
  by_cases hok : okH h
  · have CE := hide (edges_any A n c h w1 (unhide HR w1 hbw1) hm hok)
    have hE := edgesF_check (okH_tx hok)
    have hdl : (doneL h).length ≤ 40 := Nat.le_trans (doneL_len h) (okH_len hok)
    have CO := hide (fun w2 (hb : Below w.heap.size w w2) => sorder_any A n c h w2 (unhide HR w2 hb) hm)
    have CD := hide (fun w2 (hb : Below w.heap.size w w2) => (done_any A n c h w2 (unhide HR w2 hb) hm).1 hok)
    have CV := hide (fun w2 (hb : Below w.heap.size w w2) => (values_any A n c h w2 (unhide HR w2 hb) hm).1 hok)
    have CS := hide (fun A2 m2 c2 o w2 (hb : Below w.heap.size w w2) (ho : Rd w2 w2.heap.size 1 A2 m2 (cellsI o)) (hm2 : m2 ≤ 17592186043904) => serial_any A A2 n m2 c c2 h o w2 (unhide HR w2 hb) ho hm hm2)
    have HE := Lib.hid hE
    have HDL := Lib.hid hdl
    clear hE hdl
    rcases order_either (okH_tx hok) with ⟨o, ho, hnr⟩ | ⟨hno, r, hsr, hr2⟩
    · obtain ⟨e1, e2⟩ := ord_some hok ho
      obtain ⟨j1, j2, j3, j4, j5, j6, j7⟩ := just_some hok ho
      rw [e1, e2, errV_zero] at CO
      have HNR := Lib.hid hnr
      have HOL := Lib.hid (order_len hok ho)
      have HJ1 := Lib.hid j1
      have HJ2 := Lib.hid (show (checkF (serL h o)).2 = 0 from j2)
      have HJ4 : Hid (isV (serL h o) = true) := Lib.hid (by unfold isV; rw [show (checkF (serL h o)).2 = 0 from j2, j3, j4]; rfl)
      have HJ5 := Lib.hid j5
      have HJ6 := Lib.hid j6
      have HJ7 := Lib.hid j7
      have CW := hide (fun A2 m2 c2 w2 (hd : Rd w2 w2.heap.size 3 A2 m2 (cellsH (serL h o))) (hm2 : m2 ≤ 6000000000000) => (values_any A2 m2 c2 (serL h o) w2 hd hm2).1 j2)
      clear hok ho hnr e1 e2 j1 j2 j3 j4 j5 j6 j7
      generalize edgesF h = E at *
      generalize doneL h = D at *
      go_wp2_with fail
      refine (unhide CE).mono ?_
      rintro e w2 ⟨v2, m2, rfl, ho2, hm2', hb2⟩
      obtain ⟨A2, c2, rfl⟩ := own_slice ho2
      have hbw2 := hbw1.trans (hb2.mono hbw1.size)
      have hd2 := rd_own ho2
      have CO2 := hide (unhide CO w2 hbw2)
      clear CE CO ho2 hb2 q0 hbw1
      go_wp2_with fail
      refine (unhide CO2).mono ?_
      rintro e w3 ⟨v3, k3, rfl, ho3, hb3⟩
      obtain ⟨A3, c3, rfl⟩ := own_slice ho3
      have hbw3 := hbw2.trans (hb3.mono hbw2.size)
      have hd3 := rd_own ho3
      have hk3 : k3 ≤ 6 := by rw [← own_ilen ho3]; exact HOL.out
      have CR3 := hide (ring_ok A2 m2 c2 E w3 ((hd2.below hb3).more hb3.size) (by omega) HE.out)
      clear CO2 ho3 hb3 hd2 hbw2
      go_wp2_with fail
      refine (unhide CR3).mono ?_
      rintro e w4 ⟨hb4, hcs⟩
      rcases hcs with ⟨_, rfl⟩ | ⟨L, _, _, _, hL, _⟩
      case inr => rw [HNR.out] at hL; cases hL
      have hbw4 := hbw3.trans (hb4.mono hbw3.size)
      have hd4 := (hd3.below hb4).more hb4.size
      rw [show errV 5 = .iface 74 (.int .i64 5) from rfl]
      have CD4 := hide (unhide CD w4 hbw4)
      clear CR3 hb4 hd3 hbw3 CD
      go_wp2_with fail
      refine (unhide CD4).mono ?_
      rintro e w5 ⟨v5, m5, rfl, ho5, hb5⟩
      obtain ⟨A5, c5, rfl⟩ := own_slice ho5
      have hbw5 := hbw4.trans (hb5.mono hbw4.size)
      have hd5 := rd_own ho5
      have hm5 : m5 ≤ 40 := by rw [← hd5.hlen]; exact HDL.out
      have hd45 := (hd4.below hb5).more hb5.size
      have K5 := hide (fun w' (hb : Below w5.heap.size w5 w') => And.intro (hbw5.trans (hb.mono hbw5.size)) (And.intro ((hd5.below hb).more hb.size) ((hd45.below hb).more hb.size)))
      clear CD4 ho5 hb5 hd4 hbw4 hbw5 hd5 hd45
      go_wp2
      go_quiet (fail)
      obtain ⟨hbw5, hd5, hd45⟩ := unhide K5 (w5.drewN nq) (below_drewN (Below.refl _ _) nq)
      clear K5
      generalize w5.drewN nq = w5 at *
      have CS5 := hide (unhide CS A3 k3 c3 o w5 hbw5 hd45 (by omega))
      rw [HJ1.out, errV_zero] at CS5
      clear CS
      go_wp2_with fail
      refine (unhide CS5).mono ?_
      rintro e w6 ⟨v6, q6, rfl, ho6, hq6, hb6⟩
      obtain ⟨A6, c6, rfl⟩ := own_slice ho6
      have hbw6 := hbw5.trans (hb6.mono hbw5.size)
      have hd6 := rd_own ho6
      have hd56 := (hd5.below hb6).more hb6.size
      have C6 := hide (same_any A6 A5 q6 m5 c6 c5 (serL h o) D w6 hd6 hd56 (by omega) (by omega))
      rw [HJ5.out, HJ6.out, errV_zero] at C6
      clear CS5 ho6 hb6 hd5 hd45 hbw5
      go_wp2_with fail
      refine (unhide C6).mono ?_
      rintro e w7 ⟨rfl, hb7⟩
      have hbw7 := hbw6.trans (hb7.mono hbw6.size)
      have hd7 := (hd6.below hb7).more hb7.size
      have C7 := hide (is_any A6 q6 c6 (serL h o) w7 hd7 (by omega))
      rw [HJ4.out, HJ2.out, errV_zero] at C7
      clear C6 hb7 hd6 hd56 hbw6
      go_wp2_with fail
      refine (unhide C7).mono ?_
      rintro e w8 ⟨rfl, hb8⟩
      have hbw8 := hbw7.trans (hb8.mono hbw7.size)
      have hd8 := (hd7.below hb8).more hb8.size
      have C8 := hide (unhide CV w8 hbw8)
      clear C7 hb8 hd7 hbw7 CV
      go_wp2_with fail
      refine (unhide C8).mono ?_
      rintro e w9 ⟨v9, rfl, ho9, hb9⟩
      obtain ⟨A9, c9, rfl⟩ := own_slice ho9
      have hbw9 := hbw8.trans (hb9.mono hbw8.size)
      have hd9 := (hd8.below hb9).more hb9.size
      have hv9 := rd_own ho9
      have C9 := hide (unhide CW A6 q6 c6 w9 hd9 (by omega))
      clear C8 hb9 ho9 hd8 hbw8 CW
      go_wp2_with fail
      refine (unhide C9).mono ?_
      rintro e w10 ⟨v10, rfl, ho10, hb10⟩
      obtain ⟨A10, c10, rfl⟩ := own_slice ho10
      have hbw10 := hbw9.trans (hb10.mono hbw9.size)
      have hv910 := (hv9.below hb10).more hb10.size
      rw [HJ7.out] at hv910
      have hv10 := rd_own ho10
      have C10 := hide (ints_any A9 A10 6 6 c9 c10 _ _ w10 hv910 hv10 (by omega))
      rw [decide_eq_true rfl] at C10
      clear C9 hb10 ho10 hd9 hv9 hv910 hv10 hbw9
      go_wp2_with fail
      refine (unhide C10).mono ?_
      rintro e w11 ⟨rfl, hb11⟩
      have hbw11 := hbw10.trans (hb11.mono hbw10.size)
      go_wp2
      go_ret
      exact ⟨rfl, hbw11⟩
    · obtain ⟨e1, e2⟩ := ord_none hok hno
      rw [e1, e2] at CO
      rw [show errV 8 = .iface 74 (.int .i64 8) from rfl] at CO
      have HSR := Lib.hid hsr
      have HR2 := Lib.hid hr2
      have HJ := Lib.hid (just_none hok hno p)
      clear hok hno hsr hr2 e1 e2 CV
      generalize edgesF h = E at *
      generalize doneL h = D at *
      go_wp2_with fail
      refine (unhide CE).mono ?_
      rintro e w2 ⟨v2, m2', rfl, ho2, hm2', hb2⟩
      obtain ⟨A2, c2, rfl⟩ := own_slice ho2
      have hbw2 := hbw1.trans (hb2.mono hbw1.size)
      have hd2 := rd_own ho2
      have CO2 := hide (unhide CO w2 hbw2)
      clear CE CO ho2 hb2 q0 hbw1
      go_wp2_with fail
      refine (unhide CO2).mono ?_
      rintro e w3 ⟨v3, k3, rfl, ho3, hb3⟩
      obtain ⟨A3, c3, rfl⟩ := own_slice ho3
      have hbw3 := hbw2.trans (hb3.mono hbw2.size)
      have CR3 := hide (ring_ok A2 m2' c2 E w3 ((hd2.below hb3).more hb3.size) (by omega) HE.out)
      clear CO2 ho3 hb3 hd2 hbw2
      go_wp2_with fail
      refine (unhide CR3).mono ?_
      rintro e w4 ⟨hb4, hcs⟩
      rcases hcs with ⟨hL, _⟩ | ⟨L, a4, n4, c4, hL, rfl, hd4⟩
      case inl => rw [HSR.out] at hL; cases hL
      have hn4 : 2 ≤ n4 := by
        rw [HSR.out] at hL
        cases hL
        rw [← hd4.ilen]; exact HR2.out
      have hbw4 := hbw3.trans (hb4.mono hbw3.size)
      have CD4 := hide (unhide CD w4 hbw4)
      clear CR3 hb4 hd4 hbw3 CD hL HSR
      go_wp2_with fail
      refine (unhide CD4).mono ?_
      rintro e w5 ⟨v5, m5, rfl, ho5, hb5⟩
      obtain ⟨A5, c5, rfl⟩ := own_slice ho5
      have hbw5 := hbw4.trans (hb5.mono hbw4.size)
      have hd5 := rd_own ho5
      have hm5 : m5 ≤ 40 := by rw [← hd5.hlen]; exact HDL.out
      have K5 := hide (fun w' (hb : Below w5.heap.size w5 w') => And.intro (hbw5.trans (hb.mono hbw5.size)) ((hd5.below hb).more hb.size))
      have hn4' : decide ((n4 : Int) < 2) = false := decide_eq_false (by omega)
      clear CD4 ho5 hb5 hbw4 hbw5 hd5
      go_wp2
      go_quiet (fail)
      obtain ⟨hbw5, hd5⟩ := unhide K5 (w5.drewN nq) (below_drewN (Below.refl _ _) nq)
      clear K5
      generalize w5.drewN nq = w5 at *
      have CS5 := hide (unhide CS B m d p w5 hbw5 (unhide HP w5 hbw5) hm2)
      clear CS
      go_wp2_with fail
      refine (unhide CS5).mono ?_
      rintro e w6 ⟨v6, q6, rfl, ho6, hq6, hb6⟩
      obtain ⟨A6, c6, rfl⟩ := own_slice ho6
      have hbw6 := hbw5.trans (hb6.mono hbw5.size)
      have hd6 := rd_own ho6
      have hd56 := (hd5.below hb6).more hb6.size
      have C6 := hide (same_any A6 A5 q6 m5 c6 c5 (serL h p) D w6 hd6 hd56 (by omega) (by omega))
      have HJ2 := HJ.out
      clear CS5 ho6 hb6 hd5 hbw5 HJ
      by_cases hs0 : serE h p = 0
      · obtain ⟨j1, j2⟩ := HJ2.resolve_left (fun e => e hs0)
        rw [j1, j2, errV_zero] at C6
        rw [hs0, errV_zero]
        clear HJ2 j1 j2 hs0
        go_wp2_with fail
        refine (unhide C6).mono ?_
        rintro e w7 ⟨rfl, hb7⟩
        have hbw7 := hbw6.trans (hb7.mono hbw6.size)
        go_wp2
        go_ret
        exact ⟨rfl, hbw7⟩
      · rw [ne_errV hs0]
        generalize serE h p = ev at *
        generalize sameV (serL h p) D = sv at *
        generalize sameE (serL h p) D = se at *
        clear HJ2 hs0
        go_wp2_with fail
        refine (unhide C6).mono ?_
        rintro e w7 ⟨rfl, hb7⟩
        have hbw7 := hbw6.trans (hb7.mono hbw6.size)
        go_wp2
        go_ret
        exact ⟨rfl, hbw7⟩
  · have CE := hide (edges_no A n c h w1 (unhide HR w1 hbw1) hm hok)
    have CO := hide (fun w2 (hb : Below w.heap.size w w2) => sorder_any A n c h w2 (unhide HR w2 hb) hm)
    rw [(ord_bad hok).1, (ord_bad hok).2, ne_errV (show (checkF h).2 ≠ 0 from hok)] at CO
    rw [ne_errV (show (checkF h).2 ≠ 0 from hok)] at CE
    generalize (checkF h).2 = ev at *
    clear hok
    go_wp2_with fail
    refine (unhide CE).mono ?_
    rintro e w2 ⟨rfl, hb2⟩
    have hbw2 := hbw1.trans (hb2.mono hbw1.size)
    have CO2 := hide (unhide CO w2 hbw2)
    clear CE CO hb2 q0 hbw1
    go_wp2_with fail
    refine (unhide CO2).mono ?_
    rintro e w3 ⟨v3, k3, rfl, ho3, hb3⟩
    obtain ⟨A3, c3, rfl⟩ := own_slice ho3
    have hbw3 := hbw2.trans (hb3.mono hbw2.size)
    go_wp2
    go_ret
    exact ⟨rfl, hbw3⟩
theorem own : ownKnob Try.prog.godebug = none := by kernel_rfl
theorem bytes_ints : Try.prog.bytesOf 3 = 8 := by kernel_rfl
theorem bytes_ops : Try.prog.bytesOf 24 = 24 := by kernel_rfl

/-! ### The row. -/
set_option maxRecDepth 100000 in
theorem lifted (os : Os) (started : os.Started) (H : Type) (enc : TypeId × Value → H) :
    ReturnsInHanded {} Try.checked os 4 .any (Rows.serialJustSpec.pre6 enc Try.prog Try.f4 Rows.serialJustRow.domain false) (Rows.serialJustSpec.post enc Try.prog Try.f4 false true false false) := by
  refine returnsInHanded_of_change_sized (C := Try.checked) own started (by kernel_rfl) Try.func4
    (ChangeSpec.witness6 (enc := enc) (C := Try.checked) false ⟨#[], #[.slice none 0 0, .slice none 0 0], []⟩ 8 (by kernel_rfl) (by kernel_rfl) (by kernel_rfl) (by kernel_rfl)) ?_
  intro W base args ds gs before hval0 hW hcnd hsz0 _
  have hval : ∀ (j : Nat) t v, Try.f4.params[j]? = some t → args[j]? = some v → Value.okWide Try.prog W .any base t v := hval0
  have hW' := hW
  obtain ⟨p, q, hA0, hV, rfl, hfz, hnd⟩ := hW
  have hA : DataW.TrodAll enc Try.prog W 0 (fun _ => true) true Try.f4.params.toList args.toList ds p := hA0
  have hsz : (DataW.weightsEach Try.prog (Try.f4.params.toList ++ Rows.serialJustSpec.plain.varTypes Try.prog) (ds ++ gs)).all (· ≤ reachBytes) = true := hsz0
  rw [Try.params4] at hA hval hsz
  obtain ⟨v0, vs0, d0, ds0, p0, q0, hargs, rfl, rfl, h0, r0⟩ := trodAll_cons hA
  obtain ⟨v1, vs1, d1, ds1, p1, q1, rfl, rfl, rfl, h1, r1⟩ := trodAll_cons r0
  obtain ⟨rfl, rfl, rfl⟩ := trodAll_nil r1
  obtain rfl : args = #[v0, v1] := by cases args; simp_all
  obtain ⟨rfl, rfl⟩ := trodVars_none hV
  simp only [List.append_nil] at hW'
  have hk0 := h0
  have hlt0 : ∀ x ∈ p0, x.block < W.heap.size := fun x hx => hW'.lt x (by simp [hx])
  obtain ⟨A0, n0, c0, l0, rfl, rd0, bd0⟩ := open_ops Try.underlying22 Try.underlying24 Try.underlying3 rfl rfl rfl (by kernel_rfl) (by kernel_rfl) (hval 0 22 v0 rfl rfl) h0 (fun e s he => by have := sized_slice hsz (j := 0) (t := 22) (e := 24) rfl (congrArg some he) Try.underlying22; rwa [bytes_ops] at this)
  have hk1 := h1
  have hlt1 : ∀ x ∈ p1, x.block < W.heap.size := fun x hx => hW'.lt x (by simp [hx])
  obtain ⟨A1, n1, c1, l1, rfl, rd1, bd1⟩ := open_is Try.underlying31 Try.underlying3 (by kernel_rfl) (hval 1 31 v1 rfl rfl) h1 (fun e s he => by have := sized_slice hsz (j := 1) (t := 31) (e := 3) rfl (congrArg some he) Try.underlying31; rwa [bytes_ints] at this)
  clear hA0 hval0
  refine (walk A0 n0 c0 l0 A1 n1 c1 l1 W rd0 bd0 rd1 bd1).mono fun e W' ⟨he, hg⟩ => ?_
  subst he
  exact ⟨_, rfl, post_slices (pa := _) (pv := []) hW' hg (by simp) (fun _ _ _ => (trodAll_cons_mk (shut_bool Try.underlying4 _) trodAll_mk0)) (trodAll_cons_mk (Below.trod laidOut (by kernel_rfl) (of_decide_eq_true (by kernel_rfl)) hk0 hg hlt0) (trodAll_cons_mk (Below.trod laidOut (by kernel_rfl) (of_decide_eq_true (by kernel_rfl)) hk1 hg hlt1) trodAll_mk0)) rfl⟩

theorem over : Rows.serialJustRow.holds Try.pinned (OpenSpec.ofChange Rows.serialJustSpec) :=
  OpenClaim.holds_of_wide 4 Try.f4 rfl rfl rfl rfl rfl rfl rfl ⟨rfl, rfl, rfl, rfl, rfl⟩ rfl rfl rfl rfl rfl (by kernel_rfl) Try.func4 (by kernel_rfl)
    (of_decide_eq_true (by kernel_rfl)) (by unfold Func.isWrapper; first | (rw [if_pos (by decide +kernel)]; kernel_rfl) | (rw [if_neg (by decide +kernel)]; exact ⟨rfl, rfl⟩))
    (fun os started H enc _ => lifted os started H enc)

/-- The statement. -/
theorem proved : Rows.SerialJustSaid :=
  over
#print axioms proved
end Go.Proofs.Ytkpnpkikonlmpaa.serialJust

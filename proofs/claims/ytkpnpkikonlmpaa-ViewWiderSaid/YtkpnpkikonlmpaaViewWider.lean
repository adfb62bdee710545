
/-
  PROVED: lanelaw1.ViewWider returns true, for every two histories: those that are the same, but for what may change places, look the same; one that has an order has one by view; and who looks the same comes to the same. No condition beyond the form's own reach.
-/
import Derived.Test.YtkpnpkikonlmpaaViewB
import Derived.Test.YtkpnpkikonlmpaaM2
import Derived.Test.YtkpnpkikonlmpaaSerial3
import Derived.Test.YtkpnpkikonlmpaaPlay
import Derived.Test.YtkpnpkikonlmpaaOpen
import Derived.Deep.DeepCutAuto

namespace Go.Proofs.Ytkpnpkikonlmpaa.viewWider
open Go.ChangeShapes Go.WideShapes Go.ChangeAt Go.RowKit Go.Proofs.Ytkpnpkikonlmpaa

/-! ### The plain law. -/
theorem fact : (checkF oneJ).2 = 0 ∧ rdsL oneJ = [(1, 2)] := ⟨by decide, by decide⟩
/-- Which fault there is: of an order by odds, of one by view. -/
theorem ends {h : List HOp} : (ordE h = 0 → vordE h = 0) ∧ (vordE h = 0 → okH h ∧ serE h (vordL h) = 0 ∧ vsE h (serL h (vordL h)) = 0 ∧ vsV h (serL h (vordL h)) = true ∧ okH (serL h (vordL h)) ∧ (playF h).1 = (playF (serL h (vordL h))).1) := by
  by_cases hk : okH h
  · refine ⟨fun e => ?_, fun e => ?_⟩
    · cases ho : orderOf h with
      | none => rw [(ord_none hk ho).1] at e; cases e
      | some o =>
        obtain ⟨p, hp⟩ := order_view hk ho
        exact (vord_some hk hp).1
    · cases ho : vOrd (doneL h) with
      | none => rw [(vord_none hk ho).1] at e; cases e
      | some o =>
        obtain ⟨s1, s2, s3, s4, s5⟩ := view_serial hk ho
        rw [(vord_some hk ho).2]
        refine ⟨hk, s1, ?_, ?_, s2, s5⟩
        · unfold vsE
          rw [if_neg (fun e => e hk)]
          exact s2
        · unfold vsV
          rw [s3, s4, show (checkF h).2 = 0 from hk, show (checkF (serL h o)).2 = 0 from s2]; rfl
  · refine ⟨fun e => ?_, fun e => ?_⟩
    · rw [(ord_bad hk).1] at e; exact absurd e hk
    · rw [(vord_bad hk).1] at e; exact absurd e hk
/-- What two histories look like. -/
theorem two {h g : List HOp} : sameE h g = vsE h g ∧ (vsE h g = 0 → okH h ∧ okH g ∧ (vsV h g = false → sameV h g = false) ∧ (vsV h g = true → (playF h).1 = (playF g).1)) := by
  refine ⟨rfl, fun e => ?_⟩
  have hk : okH h := by
    unfold vsE at e
    split at e
    · rename_i h1; exact absurd e h1
    · rename_i h1; exact Classical.not_not.1 h1
  have hg : okH g := by
    unfold vsE at e
    rw [if_neg (fun e => e hk)] at e
    exact e
  refine ⟨hk, hg, fun hv => ?_, fun hv => ?_⟩
  · cases hs : sameV h g with
    | false => rfl
    | true =>
      unfold sameV at hs
      rw [Bool.and_eq_true] at hs
      have hsw := ((alike_iff_sw (okH_tx hk) (okH_tx hg)).1 hs.2).done (okH_tx hk)
      have := view_sw hsw (okH_right (okH_done hk))
      unfold vsV at hv
      rw [this, show (checkF h).2 = 0 from hk, show (checkF g).2 = 0 from hg] at hv
      cases hv
  · unfold vsV at hv
    rw [Bool.and_eq_true] at hv
    exact view_play (okH_right hk) (okH_right hg) hv.2

/-! ### The walk. -/
set_option maxRecDepth 100000 in
set_option maxHeartbeats 8000000 in
theorem walk (A : Option Addr) (n c : Nat) (h : List HOp) (B : Option Addr) (m d : Nat) (g : List HOp) (w : World) (hr : Rd w w.heap.size 3 A n (cellsH h)) (hn : n * 24 ≤ 140737488351232) (hg : Rd w w.heap.size 3 B m (cellsH g)) (hmb : m * 24 ≤ 140737488351232) :
    Calls Try.prog 6 #[.slice A n c, .slice B m d] w fun e w' => e = .returned (.bool true) ∧ Below w.heap.size w w' := by
  have hm : n ≤ 6000000000000 := by omega
  have hm2 : m ≤ 6000000000000 := by omega
  have HR := hide (fun w1 (hb : Below w.heap.size w w1) => (hr.below hb).more hb.size)
  have HG := hide (fun w1 (hb : Below w.heap.size w w1) => (hg.below hb).more hb.size)
  have hr0 := rd_new w 24 (size := 3) (n := 4) (cellsH oneJ) rfl
  have hb0 : Below w.heap.size w (w.alloc (.cells (cellsH oneJ).toArray 24)) := (Below.refl _ _).alloc (Nat.le_refl _) _
  have C1 := hide (vreads_any (some ⟨w.heap.size, 0, none⟩) 4 4 oneJ _ (hr0.more (by simp)) (by omega))
  rw [fact.1, fact.2, errV_zero] at C1
  have HB0 := hide hb0
  have CO := hide (fun w1 (hb : Below w.heap.size w w1) => sorder_any A n c h w1 (unhide HR w1 hb) hm)
  have CV := hide (fun w1 (hb : Below w.heap.size w w1) => vorder_any A n c h w1 (unhide HR w1 hb) hm)
  have CP := hide (fun (hk : okH h) w1 (hb : Below w.heap.size w w1) => (values_any A n c h w1 (unhide HR w1 hb) hm).1 hk)
  have CQ := hide (fun (hk : okH g) w1 (hb : Below w.heap.size w w1) => (values_any B m d g w1 (unhide HG w1 hb) hm2).1 hk)
  have CS := hide (fun A2 m2 c2 o w1 (hb : Below w.heap.size w w1) (ho : Rd w1 w1.heap.size 1 A2 m2 (cellsI o)) (hm2 : m2 ≤ 17592186043904) => serial_any A A2 n m2 c c2 h o w1 (unhide HR w1 hb) ho hm hm2)
  have C2S := hide (fun A2 m2 c2 s w1 (hb : Below w.heap.size w w1) (hs : Rd w1 w1.heap.size 3 A2 m2 (cellsH s)) (hm2 : m2 ≤ 6000000000000) => vsame_any A A2 n m2 c c2 h s w1 (unhide HR w1 hb) hs hm hm2)
  have COS := hide (fun w1 (hb : Below w.heap.size w w1) => same_any A B n m c d h g w1 (unhide HR w1 hb) (unhide HG w1 hb) hm hm2)
  have CVS := hide (fun w1 (hb : Below w.heap.size w w1) => vsame_any A B n m c d h g w1 (unhide HR w1 hb) (unhide HG w1 hb) hm hm2)
  have HEN := Lib.hid (ends (h := h))
  have HTW := Lib.hid (two (h := h) (g := g))
  have HVL : Hid ((vordL h).length ≤ 6) := Lib.hid (by
    by_cases hk : okH h
    · cases ho : vOrd (doneL h) with
      | none => rw [(vord_none hk ho).2]; simp
      | some o =>
        rw [(vord_some hk ho).2]
        exact serL_len hk (view_serial hk ho).1
    · rw [(vord_bad hk).2]; simp)
  clear hb0 hr0 hr hg hn hmb
  go_enter Try.func6, Try.ntmps6
  go_wp2_with fail
  refine (unhide C1).mono ?_
  rintro e w1 ⟨v1, k1, rfl, ho1, hb1⟩
  obtain ⟨A1, c1, rfl⟩ := own_slice ho1
  obtain rfl : k1 = 1 := by rw [← (rd_own ho1).dlen]; rfl
  have hbw1 := (unhide HB0).trans (hb1.mono (unhide HB0).size)
  obtain ⟨b, off, x, he, _, hx, q0, q1⟩ := (rd_own ho1).pr (k := 0) (by omega)
  cases he
  cases hx
  simp only [Nat.zero_mul, Nat.add_zero] at q0 q1
  have C2 := hide (unhide CO w1 hbw1)
  clear C1 hb1 ho1 HB0 CO
  go_wp2_with fail
  refine (unhide C2).mono ?_
  rintro e w2 ⟨v2, k2, rfl, ho2, hb2⟩
  obtain ⟨A2, c2, rfl⟩ := own_slice ho2
  have hbw2 := hbw1.trans (hb2.mono hbw1.size)
  have C3 := hide (unhide CV w2 hbw2)
  clear C2 ho2 hb2 CV q0 q1 hbw1
  go_wp2_with fail
  refine (unhide C3).mono ?_
  rintro e w3 ⟨A3, k3, c3, rfl, hd3, hb3⟩
  have hbw3 := hbw2.trans (hb3.mono hbw2.size)
  have hk3 : k3 ≤ 6 := by rw [← hd3.ilen]; exact HVL.out
  clear C3 hb3 hbw2
  go_upto_region 7 with fail
  go_cut [9, 11, 72] (fun s9 s11 s72 wx => s9 = errV (ordE h) ∧ s11 = errV (vordE h) ∧ s72 = .bool false ∧ w3 = wx)
  case first =>
    by_cases ho : ordE h = 0
    · have hv := HEN.out.1 ho
      rw [hv, ho, errV_zero]
      have q1 := Lib.hid ho
      have q2 := Lib.hid hv
      clear ho hv HEN
      go_wp2
      go_meet
      case rel => exact ⟨by rw [q1.out, errV_zero], by rw [q2.out, errV_zero], rfl, rfl⟩
    · have q1 := Lib.hid (ne_errV ho)
      rw [ne_errV ho]
      clear ho HEN
      go_wp2
      go_meet
      case rel => exact ⟨q1.out.symm, rfl, rfl, rfl⟩
  case rest =>
  obtain ⟨rfl, rfl, rfl, rfl⟩ := hcut
  go_upto_region 9 with fail
  go_cut [11, 74] (fun s11 s74 wx => s11 = errV (vordE h) ∧ s74 = .bool (decide (vordE h = 0)) ∧ w3 = wx)
  case first =>
    by_cases hv : vordE h = 0
    · have q2 := Lib.hid hv
      rw [hv, errV_zero]
      clear hv HEN
      go_wp2
      go_meet
      case rel => exact ⟨by rw [q2.out, errV_zero], by rw [decide_eq_true q2.out], rfl⟩
    · have q1 := Lib.hid (ne_errV hv)
      have q2 := Lib.hid (decide_eq_false hv)
      rw [ne_errV hv]
      clear hv HEN
      go_wp2
      go_meet
      case rel => exact ⟨q1.out.symm, by rw [q2.out], rfl⟩
  case rest =>
  obtain ⟨rfl, rfl, rfl⟩ := hcut
  go_upto_if 74 with fail
  go_cut [9, 11] (fun s9 s11 wx => Below w.heap.size w wx)
  case first =>
    by_cases hv : vordE h = 0
    · obtain ⟨k0, s1, s2, s3, s4, s5⟩ := HEN.out.2 hv
      have HS1 := Lib.hid s1
      have HS2 := Lib.hid s2
      have HS3 := Lib.hid s3
      have HS5 := Lib.hid s5
      have CS3 := hide (unhide CS A3 k3 c3 (vordL h) w3 hbw3 hd3 (by omega))
      rw [s1, errV_zero] at CS3
      have CPh := hide (unhide CP k0)
      have CPs := hide (fun A4 m4 c4 w4 (hd : Rd w4 w4.heap.size 3 A4 m4 (cellsH (serL h (vordL h)))) (hm4 : m4 ≤ 6000000000000) => (values_any A4 m4 c4 (serL h (vordL h)) w4 hd hm4).1 s4)
      have C2S3 := hide (fun A2 m2 c2 w1 hb hs hm => unhide C2S A2 m2 c2 (serL h (vordL h)) w1 hb hs hm)
      rw [s2, s3, errV_zero] at C2S3
      rw [decide_eq_true hv]
      generalize errV (vordE h) = ve at *
      clear k0 s1 s2 s3 s4 s5 hv HEN HTW CP CQ CS C2S COS CVS
      generalize serL h (vordL h) = sl at *
      generalize errV (ordE h) = oe at *
      go_wp2_with fail
      refine (unhide CS3).mono ?_
      rintro e w4 ⟨v4, k4, rfl, ho4, hk4, hb4⟩
      obtain ⟨A4, c4, rfl⟩ := own_slice ho4
      have hd4 := rd_own ho4
      have hbw4 := hbw3.trans (hb4.mono hbw3.size)
      have C4 := hide (unhide C2S3 A4 k4 c4 w4 hbw4 hd4 (by omega))
      clear CS3 ho4 hb4 hbw3 hd3 C2S3
      go_wp2_with fail
      refine (unhide C4).mono ?_
      rintro e w5 ⟨rfl, hb5⟩
      have hbw5 := hbw4.trans (hb5.mono hbw4.size)
      have hd5 := (hd4.below hb5).more hb5.size
      have C5 := hide (unhide CPh w5 hbw5)
      clear C4 hb5 hbw4 hd4 CPh
      go_wp2_with fail
      refine (unhide C5).mono ?_
      rintro e w6 ⟨v6, rfl, ho6, hb6⟩
      obtain ⟨A6, c6, rfl⟩ := own_slice ho6
      have hv6 := rd_own ho6
      have hbw6 := hbw5.trans (hb6.mono hbw5.size)
      have hd6 := (hd5.below hb6).more hb6.size
      have C6 := hide (unhide CPs A4 k4 c4 w6 hd6 (by omega))
      clear C5 ho6 hb6 hbw5 hd5 CPs
      go_wp2_with fail
      refine (unhide C6).mono ?_
      rintro e w7 ⟨v7, rfl, ho7, hb7⟩
      obtain ⟨A7, c7, rfl⟩ := own_slice ho7
      have hv7 := rd_own ho7
      have hbw7 := hbw6.trans (hb7.mono hbw6.size)
      have hv67 := (hv6.below hb7).more hb7.size
      rw [HS5.out] at hv67
      have C7 := hide (ints_any A6 A7 6 6 c6 c7 _ _ w7 hv67 hv7 (by omega))
      rw [decide_eq_true rfl] at C7
      clear C6 ho7 hb7 hbw6 hd6 hv6 hv7 hv67
      go_wp2_with fail
      refine (unhide C7).mono ?_
      rintro e w8 ⟨rfl, hb8⟩
      have hbw8 := hbw7.trans (hb8.mono hbw7.size)
      go_wp2
      go_meet
      case rel => exact hbw8
    · rw [decide_eq_false hv]
      generalize errV (vordE h) = ve at *
      generalize errV (ordE h) = oe at *
      clear hv HEN HTW CP CQ CS C2S COS CVS
      go_wp2
      go_meet
      case rel => exact hbw3
  case rest =>
    clear hbw3 hd3 HEN CP
    have CP := hide (fun (hk : okH h) w1 (hb : Below w.heap.size w w1) => (values_any A n c h w1 (unhide HR w1 hb) hm).1 hk)
    have C4 := hide (unhide COS wc hcut)
    rw [HTW.out.1] at C4
    go_wp2_with fail
    refine (unhide C4).mono ?_
    rintro e w4 ⟨rfl, hb4⟩
    have hbw4 := hcut.trans (hb4.mono hcut.size)
    have C5 := hide (unhide CVS w4 hbw4)
    clear C4 hb4 hcut
    go_wp2_with fail
    refine (unhide C5).mono ?_
    rintro e w5 ⟨rfl, hb5⟩
    have hbw5 := hbw4.trans (hb5.mono hbw4.size)
    clear C5 hb5 hbw4 COS CVS C2S CS
    by_cases he : vsE h g = 0
    · obtain ⟨k0, k1, hf, ht⟩ := HTW.out.2 he
      rw [he, errV_zero]
      cases hv : vsV h g
      · rw [hf hv]
        clear k0 k1 hf ht hv he HTW
        go_wp2
        go_ret
        exact ⟨rfl, hbw5⟩
      · have HP := Lib.hid (ht hv)
        have C6 := hide (unhide CP k0 w5 hbw5)
        have CQ2 := hide (unhide CQ k1)
        generalize sameV h g = sv at *
        clear k0 k1 hf ht hv he HTW CP CQ
        go_wp2_with fail
        refine (unhide C6).mono ?_
        rintro e w6 ⟨v6, rfl, ho6, hb6⟩
        obtain ⟨A6, c6, rfl⟩ := own_slice ho6
        have hv6 := rd_own ho6
        have hbw6 := hbw5.trans (hb6.mono hbw5.size)
        have C7 := hide (unhide CQ2 w6 hbw6)
        clear C6 ho6 hb6 hbw5 CQ2
        go_wp2_with fail
        refine (unhide C7).mono ?_
        rintro e w7 ⟨v7, rfl, ho7, hb7⟩
        obtain ⟨A7, c7, rfl⟩ := own_slice ho7
        have hv7 := rd_own ho7
        have hbw7 := hbw6.trans (hb7.mono hbw6.size)
        have hv67 := (hv6.below hb7).more hb7.size
        rw [HP.out] at hv67
        have C8 := hide (ints_any A6 A7 6 6 c6 c7 _ _ w7 hv67 hv7 (by omega))
        rw [decide_eq_true rfl] at C8
        clear C7 ho7 hb7 hbw6 hv6 hv7 hv67
        go_wp2_with fail
        refine (unhide C8).mono ?_
        rintro e w8 ⟨rfl, hb8⟩
        have hbw8 := hbw7.trans (hb8.mono hbw7.size)
        go_wp2
        go_ret
        exact ⟨rfl, hbw8⟩
    · rw [ne_errV he]
      generalize vsE h g = ve at *
      generalize sameV h g = sv at *
      generalize vsV h g = vv at *
      clear he HTW CP CQ
      go_wp2
      go_ret
      exact ⟨rfl, hbw5⟩
theorem own : ownKnob Try.prog.godebug = none := by kernel_rfl
theorem bytes_ops : Try.prog.bytesOf 24 = 24 := by kernel_rfl

/-! ### The row. -/
set_option maxRecDepth 100000 in
theorem lifted (os : Os) (started : os.Started) (H : Type) (enc : TypeId × Value → H) :
    ReturnsInHanded {} Try.checked os 6 .any (Rows.viewWiderSpec.pre6 enc Try.prog Try.f6 Rows.viewWiderRow.domain false) (Rows.viewWiderSpec.post enc Try.prog Try.f6 false true false false) := by
  refine returnsInHanded_of_change_sized (C := Try.checked) own started (by kernel_rfl) Try.func6
    (ChangeSpec.witness6 (enc := enc) (C := Try.checked) false ⟨#[], #[.slice none 0 0, .slice none 0 0], []⟩ 8 (by kernel_rfl) (by kernel_rfl) (by kernel_rfl) (by kernel_rfl)) ?_
  intro W base args ds gs before hval0 hW hcnd hsz0 _
  have hval : ∀ (j : Nat) t v, Try.f6.params[j]? = some t → args[j]? = some v → Value.okWide Try.prog W .any base t v := hval0
  have hW' := hW
  obtain ⟨p, q, hA0, hV, rfl, hfz, hnd⟩ := hW
  have hA : DataW.TrodAll enc Try.prog W 0 (fun _ => true) true Try.f6.params.toList args.toList ds p := hA0
  have hsz : (DataW.weightsEach Try.prog (Try.f6.params.toList ++ Rows.viewWiderSpec.plain.varTypes Try.prog) (ds ++ gs)).all (· ≤ reachBytes) = true := hsz0
  rw [Try.params6] at hA hval hsz
  obtain ⟨v0, vs0, d0, ds0, p0, q0, hargs, rfl, rfl, h0, r0⟩ := trodAll_cons hA
  obtain ⟨v1, vs1, d1, ds1, p1, q1, rfl, rfl, rfl, h1, r1⟩ := trodAll_cons r0
  obtain ⟨rfl, rfl, rfl⟩ := trodAll_nil r1
  obtain rfl : args = #[v0, v1] := by cases args; simp_all
  obtain ⟨rfl, rfl⟩ := trodVars_none hV
  simp only [List.append_nil] at hW'
  have hk0 := h0
  have hlt0 : ∀ x ∈ p0, x.block < W.heap.size := fun x hx => hW'.lt x (by simp [hx])
  obtain ⟨A0, n0, c0, l0, rfl, rd0, bd0⟩ := open_ops Try.underlying22 Try.underlying24 Try.underlying3 rfl rfl rfl (by kernel_rfl) (by kernel_rfl) (hval 0 22 v0 rfl rfl) h0 (fun e s he => by have := sized_slice hsz (j := 0) (t := 22) (e := 24) rfl (congrArg some he) Try.underlying22; rwa [bytes_ops] at this)
  have hk1 := h1
  have hlt1 : ∀ x ∈ p1, x.block < W.heap.size := fun x hx => hW'.lt x (by simp [hx])
  obtain ⟨A1, n1, c1, l1, rfl, rd1, bd1⟩ := open_ops Try.underlying22 Try.underlying24 Try.underlying3 rfl rfl rfl (by kernel_rfl) (by kernel_rfl) (hval 1 22 v1 rfl rfl) h1 (fun e s he => by have := sized_slice hsz (j := 1) (t := 22) (e := 24) rfl (congrArg some he) Try.underlying22; rwa [bytes_ops] at this)
  clear hA0 hval0
  refine (walk A0 n0 c0 l0 A1 n1 c1 l1 W rd0 bd0 rd1 bd1).mono fun e W' ⟨he, hg⟩ => ?_
  subst he
  exact ⟨_, rfl, post_slices (pa := _) (pv := []) hW' hg (by simp) (fun _ _ _ => (trodAll_cons_mk (shut_bool Try.underlying4 _) trodAll_mk0)) (trodAll_cons_mk (Below.trod laidOut (by kernel_rfl) (of_decide_eq_true (by kernel_rfl)) hk0 hg hlt0) (trodAll_cons_mk (Below.trod laidOut (by kernel_rfl) (of_decide_eq_true (by kernel_rfl)) hk1 hg hlt1) trodAll_mk0)) rfl⟩

theorem over : Rows.viewWiderRow.holds Try.pinned (OpenSpec.ofChange Rows.viewWiderSpec) :=
  OpenClaim.holds_of_wide 6 Try.f6 rfl rfl rfl rfl rfl rfl rfl ⟨rfl, rfl, rfl, rfl, rfl⟩ rfl rfl rfl rfl rfl (by kernel_rfl) Try.func6 (by kernel_rfl)
    (of_decide_eq_true (by kernel_rfl)) (by unfold Func.isWrapper; first | (rw [if_pos (by decide +kernel)]; kernel_rfl) | (rw [if_neg (by decide +kernel)]; exact ⟨rfl, rfl⟩))
    (fun os started H enc _ => lifted os started H enc)

/-- The statement. -/
theorem proved : Rows.ViewWiderSaid :=
  over
#print axioms proved
end Go.Proofs.Ytkpnpkikonlmpaa.viewWider

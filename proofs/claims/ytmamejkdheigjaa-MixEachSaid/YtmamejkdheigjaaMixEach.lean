
/-
  PROVED: lanelaw3.MixEach returns true, for all its arguments: each order has the same ops of each deal; two unlike numbers are two unlike histories; at least one is good. No condition beyond the form's own reach.
-/
import Derived.Test.YtmamejkdheigjaaMX3
import Derived.Test.YtmamejkdheigjaaMixN
import Derived.Test.YtmamejkdheigjaaHistOf
import Derived.Test.YtmamejkdheigjaaSE1
import Derived.Test.YtmamejkdheigjaaN4
import Derived.Test.YtmamejkdheigjaaM2
import Derived.Test.YtmamejkdheigjaaPieces
import Derived.Test.YtmamejkdheigjaaEnd
import Derived.Test.YtmamejkdheigjaaOpen

namespace Go.Proofs.Ytmamejkdheigjaa.mixEach
open Go.ChangeShapes Go.WideShapes Go.ChangeAt Go.RowKit Go.Proofs.Ytmamejkdheigjaa

theorem nth_in {h : List HOp} {k : Int} (he : mixE h = 0) (h0 : 0 ≤ k) (h1 : k < (mixesF h).length) : nthE h k = 0 ∧ (mixesF h)[k.toNat]? = some (nthL h k) := by
  have e : nthE h k = 0 := by unfold nthE; rw [if_neg (by omega), if_pos ⟨h0, h1⟩]
  refine ⟨e, ?_⟩
  unfold nthL
  rw [if_pos e, List.getD_eq_getElem?_getD]
  have : k.toNat < (mixesF h).length := by omega
  rw [List.getElem?_eq_getElem this]; rfl
theorem nth_out {h : List HOp} {k : Int} (he : mixE h = 0) (h1 : k < 0 ∨ ((mixesF h).length : Int) ≤ k) : nthE h k = 1 := by
  unfold nthE; rw [if_neg (by omega), if_neg (by omega)]
theorem nth_same {h : List HOp} (hok : okH h) {k m : Int} (hk0 : 0 ≤ k) (hm0 : 0 ≤ m) {x y : List HOp} (hx : (mixesF h)[k.toNat]? = some x) (hy : (mixesF h)[m.toNat]? = some y) : decide (x = y) = decide (k = m) := by
  by_cases e : k = m
  · subst e
    rw [hx] at hy
    simp [Option.some.inj hy]
  · have hne : x ≠ y := fun e2 => by
      subst e2
      have hn := mixes_nodup hok
      obtain ⟨i1, e1⟩ := List.getElem?_eq_some_iff.1 hx
      obtain ⟨i2, e2⟩ := List.getElem?_eq_some_iff.1 hy
      have := (List.getElem_inj hn).1 (e1.trans e2.symm)
      omega
    simp [e, hne]
theorem fact : okH (twoM 1 1) ∧ ((mixesF (twoM 1 1)).length : Int) = 2 := ⟨(two_all (by omega)).1, by rw [(two_all (N := 1) (M := 1) (by omega)).2.1]; decide⟩

set_option maxRecDepth 100000 in
set_option maxHeartbeats 8000000 in
theorem walk (A : Option Addr) (n c : Nat) (h : List HOp) (k m : Int) (w : World) (hr : Rd w w.heap.size 3 A n (cellsH h)) (hn : n * 24 ≤ 140737488351232) :
    Calls Try.prog 4 #[.slice A n c, .int .i64 k, .int .i64 m] w fun e w' => e = .returned (.bool true) ∧ Below w.heap.size w w' := by
  have hr0 := rd_new w 24 (size := 3) (n := 2) (cellsH (twoM 1 1)) rfl
  have hb0 : Below w.heap.size w (w.alloc (.cells (cellsH (twoM 1 1)).toArray 24)) := (Below.refl _ _).alloc (Nat.le_refl _) _
  have CF := hide (count_ok (some ⟨w.heap.size, 0, none⟩) 2 2 (twoM 1 1) _ (hr0.more (by simp)) fact.1 (by omega))
  rw [fact.2] at CF
  have hl := hr.hlen
  have HRW := hide (fun w1 (hb : Below w.heap.size w w1) => (hr.below hb).more hb.size)
  by_cases he : mixE h = 0
  rotate_left
  · have CC := hide (fun w1 (hb : Below w.heap.size w w1) => count_no A n c h w1 (unhide HRW w1 hb) (by omega) he)
    rw [ne_errV he] at CC
    generalize mixE h = ev at *
    clear hr hr0 hl he
    go_enter Try.func4, Try.ntmps4
    go_wp2_with fail
    refine (unhide CF).mono ?_
    rintro e w1 ⟨rfl, hb1⟩
    have hbw1 := hb0.trans (hb1.mono hb0.size)
    go_wp2_with fail
    refine (unhide CC w1 hbw1).mono ?_
    rintro e w2 ⟨rfl, hb2⟩
    have hbw2 := hbw1.trans (hb2.mono hbw1.size)
    go_wp2
    go_ret
    exact ⟨rfl, hbw2⟩
  obtain ⟨hok, h8⟩ := mixE_zero he
  rw [hl] at h8
  have CC := hide (fun w1 (hb : Below w.heap.size w w1) => count_ok A n c h w1 (unhide HRW w1 hb) hok h8)
  have CG := hide (fun w1 (hb : Below w.heap.size w w1) => good_ok A n c h w1 (unhide HRW w1 hb) hok h8)
  have CK := hide (fun w1 (hb : Below w.heap.size w w1) => nth_any A n c h k w1 (unhide HRW w1 hb) (by omega))
  have CM := hide (fun w1 (hb : Below w.heap.size w w1) => nth_any A n c h m w1 (unhide HRW w1 hb) (by omega))
  have CO := hide (fun (t : Nat) (ht : 1 ≤ t ∧ t ≤ 6) w1 (hb : Below w.heap.size w w1) => of_ok A n c h t w1 (unhide HRW w1 hb) hok (by omega))
  obtain ⟨hg1, hg2⟩ := good_some hok
  unfold NthPost at CK CM
  have HKI := Lib.hid (fun h0 h1 => nth_in (k := k) he h0 h1)
  have HMI := Lib.hid (fun h0 h1 => nth_in (k := m) he h0 h1)
  have HKO := Lib.hid (fun h1 => nth_out (k := k) he h1)
  have HMO := Lib.hid (fun h1 => nth_out (k := m) he h1)
  have HSAME := Lib.hid (fun hk0 hm0 x y hx hy => nth_same hok (k := k) (m := m) hk0 hm0 (x := x) (y := y) hx hy)
  have HOWN := Lib.hid (fun x hx => mixes_own hok (m := x) hx)
  obtain ⟨N, hN⟩ : ∃ N, (mixesF h).length = N := ⟨_, rfl⟩
  obtain ⟨G, hG⟩ : ∃ G, goodN (mixesF h) = G := ⟨_, rfl⟩
  rw [hN] at CC hg2 HKI HMI HKO HMO
  rw [hG] at CG hg1 hg2
  have hG1 : ¬ (G : Int) < 1 := by omega
  have hG2 : ¬ (N : Int) < (G : Int) := by omega
  have HLH := Lib.hid (And.intro hl h8)
  clear hr hr0 hl he hok hN hG h8 hn
  go_enter Try.func4, Try.ntmps4
  go_wp2_with fail
  refine (unhide CF).mono ?_
  rintro e w1 ⟨rfl, hb1⟩
  have hbw1 := hb0.trans (hb1.mono hb0.size)
  go_wp2_with fail
  refine (unhide CC w1 hbw1).mono ?_
  rintro e w2 ⟨rfl, hb2⟩
  have hbw2 := hbw1.trans (hb2.mono hbw1.size)
  go_wp2_with fail
  refine (unhide CG w2 hbw2).mono ?_
  rintro e w3 ⟨rfl, hb3⟩
  have hbw3 := hbw2.trans (hb3.mono hbw2.size)
  go_wp2_with fail
  refine (unhide CK w3 hbw3).mono ?_
  rintro e w4 ⟨A4, n4, c4, rfl, hc4, hd4, hb4⟩
  have hbw4 := hbw3.trans (hb4.mono hbw3.size)
  go_wp2_with fail
  refine (unhide CM w4 hbw4).mono ?_
  rintro e w5 ⟨A5, n5, c5, rfl, hc5, hd5, hb5⟩
  have hbw5 := hbw4.trans (hb5.mono hbw4.size)
  have hd45 := (hd4.below hb5).more hb5.size
  have HX := hide (fun w' (hb : Below w5.heap.size w5 w') => And.intro ((hd45.below hb).more hb.size) ((hd5.below hb).more hb.size))
  clear hb0 hb1 hb2 hb3 hb4 hb5 hbw1 hbw2 hbw3 hbw4 CF CC CG CK CM hd4 hd5 hd45
  have hkc : (0 ≤ k ∧ k < (N : Int)) ∨ (k < 0) ∨ ((N : Int) ≤ k ∧ 0 ≤ k ∧ ¬ k < (N : Int)) := by omega
  have hmc : (0 ≤ m ∧ m < (N : Int)) ∨ (m < 0) ∨ ((N : Int) ≤ m ∧ 0 ≤ m ∧ ¬ m < (N : Int)) := by omega
  rcases hkc with ⟨k0, k1⟩ | hk
  · obtain ⟨hk1, hk2⟩ := HKI.out k0 k1
    rw [hk1, errV_zero]
    have HX1 := Lib.hid hk2
    generalize nthL h k = x at *
    have HOX := Lib.hid (HOWN.out x (List.mem_of_getElem? hk2))
    clear hk1 hk2
    have hx8 : n4 ≤ 8 := by
      have h1 := (unhide HX w5 (Below.refl _ _)).1.hlen
      rw [HOX.out.2.1] at h1
      have := HLH.out; omega
    have CX := hide (fun (t : Nat) (ht : 1 ≤ t ∧ t ≤ 6) w1 (hb : Below w5.heap.size w5 w1) => of_ok A4 n4 c4 x t w1 (unhide HX w1 hb).1 HOX.out.2.2 (by omega))
    rcases hmc with ⟨m0, m1⟩ | hm
    · obtain ⟨hm1, hm2⟩ := HMI.out m0 m1
      rw [hm1, errV_zero]
      generalize nthL h m = y at *
      have HSM := Lib.hid (HSAME.out k0 m0 x y HX1.out hm2)
      clear hm1 hm2
      go_wp2
      go_loopw [18] (fun s18 wr => ∃ t : Nat, 1 ≤ t ∧ t ≤ 7 ∧ s18 = .int .i64 t ∧ Below w5.heap.size w5 wr) (fun s18 _ => 7 - (intOf s18).toNat)
      case atStart => exact ⟨1, by omega, by omega, rfl, Below.refl _ _⟩
      case round =>
        obtain ⟨t, ht1, ht2, rfl, hbr⟩ := hrel
        have hbwr := hbw5.trans (hbr.mono hbw5.size)
        by_cases hlt : t ≤ 6
        · have hlti : (t : Int) ≤ 6 := by omega
          have C1 := hide (unhide CO t ⟨ht1, hlt⟩ wr hbwr)
          have HC2 := hide (fun w' (hb : Below wr.heap.size wr w') => unhide CX t ⟨ht1, hlt⟩ w' (hbr.trans (hb.mono hbr.size)))
          have HE1 := Lib.hid (HOX.out.1 (t : Int) (mem_six.2 ⟨by omega, by omega⟩))
          have hql : (ownL h (t : Int)).length ≤ 8 := by
            have h1 := List.length_filter_le (fun o : HOp => decide (o.tx = (t : Int))) h
            have h2 := HLH.out
            unfold ownL; omega
          rw [HE1.out] at HC2
          generalize ownL h (t : Int) = D at *
          have HQL := Lib.hid hql
          clear hql
          go_wp2_with fail
          refine (unhide C1).mono ?_
          rintro e v1 ⟨u1, q1, rfl, ho1, hv1⟩
          obtain ⟨B1, d1, rfl⟩ := own_slice ho1
          go_wp2_with fail
          refine (unhide HC2 v1 hv1).mono ?_
          rintro e v2 ⟨u2, q2, rfl, ho2, hv2⟩
          obtain ⟨B2, d2, rfl⟩ := own_slice ho2
          have hr1 := ((rd_own ho1).below hv2).more hv2.size
          have hq1 := hr1.hlen
          have CQ := hide (ops_any B1 B2 q1 q2 d1 d2 D D v2 hr1 (rd_own ho2) (by have := HQL.out; omega))
          rw [decide_eq_true (rfl : D = D)] at CQ
          have hbr2 := (hbr.trans (hv1.mono hbr.size)).trans (hv2.mono (Nat.le_trans hbr.size hv1.size))
          clear ho1 ho2 hr1 hq1 hv1 hv2 C1 HC2 hbr hbwr
          go_wp2_with fail
          refine (unhide CQ).mono ?_
          rintro e v3 ⟨rfl, hv3⟩
          have hbr3 := hbr2.trans (hv3.mono hbr2.size)
          clear CQ hbr2 hv3
          go_wp2
          go_roundw
          case rel => exact ⟨t + 1, by omega, by omega, by go_num, hbr3⟩
          case measure => simp [intOf]; omega
        · have ht7 : t = 7 := by omega
          subst ht7
          have hrx := (unhide HX wr hbr).1
          have hry := (unhide HX wr hbr).2
          have CQ := hide (ops_any A4 A5 n4 n5 c4 c5 x y wr hrx hry (by omega))
          have hkq : decide (k = m) = (k == m) := by by_cases e : k = m <;> simp [e]
          rw [HSM.out, hkq] at CQ
          generalize hkm : (k == m) = qb at *
          clear hkq
          have CE := hide (fun w' (hb : Below wr.heap.size wr w') => edges_any A4 n4 c4 x w' ((hrx.below hb).more hb.size) (by omega) HOX.out.2.2)
          have CS := hide (fun w' (hb : Below wr.heap.size wr w') => sorder_any A4 n4 c4 x w' ((hrx.below hb).more hb.size) (by omega))
          have HTX := Lib.hid (okH_tx HOX.out.2.2)
          clear hrx hry
          go_wp2_with fail
          refine (unhide CQ).mono ?_
          rintro e v1 ⟨rfl, hv1⟩
          go_wp2_with fail
          refine (unhide CE v1 hv1).mono ?_
          rintro e v2 ⟨u2, q2, rfl, ho2, hq2, hv2⟩
          obtain ⟨B2, d2, rfl⟩ := own_slice ho2
          have hbv2 := hv1.trans (hv2.mono hv1.size)
          have hr2 := rd_own ho2
          have CR := hide (fun w' (hb : Below v2.heap.size v2 w') => ring_ok B2 q2 d2 (edgesF x) w' ((hr2.below hb).more hb.size) (by omega) (edgesF_check HTX.out))
          unfold RingPost at CR
          clear ho2 hr2
          go_wp2_with fail
          refine (unhide CS v2 hbv2).mono ?_
          rintro e v3 ⟨u3, q3, rfl, ho3, hv3⟩
          obtain ⟨B3, d3, rfl⟩ := own_slice ho3
          have hbv3 := hbv2.trans (hv3.mono hbv2.size)
          clear ho3
          rcases order_either HTX.out with ⟨o, ho, hring⟩ | ⟨ho, r, hring, _⟩
          · have e1 : ordE x = 0 := (ord_some HOX.out.2.2 ho).1
            rw [e1, errV_zero]
            rw [hring] at CR
            clear ho hring e1
            go_wp2_with fail
            refine (unhide CR v3 hv3).mono ?_
            rintro e v4 ⟨hv4, ⟨_, rfl⟩ | ⟨L, a, n9, c9, hL, _⟩⟩
            · have hfin := hbwr.trans ((hbv3.trans (hv4.mono hbv3.size)).mono hbwr.size)
              rw [show errV 5 = .iface 46 (.int .i64 5) from rfl]
              go_wp2
              go_quiet (fail)
              go_wp2
              go_ret
              exact ⟨rfl, below_drewN hfin _⟩
            · cases hL
          · have e1 : ordE x = 8 := (ord_none HOX.out.2.2 ho).1
            rw [e1, show errV 8 = .iface 46 (.int .i64 8) from rfl]
            rw [hring] at CR
            clear ho hring e1
            go_wp2_with fail
            refine (unhide CR v3 hv3).mono ?_
            rintro e v4 ⟨hv4, ⟨hL, _⟩ | ⟨L, a, n9, c9, _, rfl, _⟩⟩
            · cases hL
            · have hfin := hbwr.trans ((hbv3.trans (hv4.mono hbv3.size)).mono hbwr.size)
              go_wp2
              go_quiet (fail)
              go_wp2
              go_ret
              exact ⟨rfl, below_drewN hfin _⟩
    · have hmo : nthE h m = 1 := HMO.out (by omega)
      rw [hmo, show errV 1 = .iface 46 (.int .i64 1) from rfl]
      rcases hm with hm | ⟨hm, hm0, hm1⟩
      all_goals
        go_wp2
        go_loopw [18] (fun s18 wr => ∃ t : Nat, 1 ≤ t ∧ t ≤ 7 ∧ s18 = .int .i64 t ∧ Below w5.heap.size w5 wr) (fun s18 _ => 7 - (intOf s18).toNat)
        case atStart => exact ⟨1, by omega, by omega, rfl, Below.refl _ _⟩
        case round =>
          obtain ⟨t, ht1, ht2, rfl, hbr⟩ := hrel
          have hbwr := hbw5.trans (hbr.mono hbw5.size)
          by_cases hlt : t ≤ 6
          · have hlti : (t : Int) ≤ 6 := by omega
            have C1 := hide (unhide CO t ⟨ht1, hlt⟩ wr hbwr)
            have HC2 := hide (fun w' (hb : Below wr.heap.size wr w') => unhide CX t ⟨ht1, hlt⟩ w' (hbr.trans (hb.mono hbr.size)))
            have HE1 := Lib.hid (HOX.out.1 (t : Int) (mem_six.2 ⟨by omega, by omega⟩))
            have hql : (ownL h (t : Int)).length ≤ 8 := by
              have h1 := List.length_filter_le (fun o : HOp => decide (o.tx = (t : Int))) h
              have h2 := HLH.out
              unfold ownL; omega
            rw [HE1.out] at HC2
            generalize ownL h (t : Int) = D at *
            have HQL := Lib.hid hql
            clear hql
            go_wp2_with fail
            refine (unhide C1).mono ?_
            rintro e v1 ⟨u1, q1, rfl, ho1, hv1⟩
            obtain ⟨B1, d1, rfl⟩ := own_slice ho1
            go_wp2_with fail
            refine (unhide HC2 v1 hv1).mono ?_
            rintro e v2 ⟨u2, q2, rfl, ho2, hv2⟩
            obtain ⟨B2, d2, rfl⟩ := own_slice ho2
            have hr1 := ((rd_own ho1).below hv2).more hv2.size
            have hq1 := hr1.hlen
            have CQ := hide (ops_any B1 B2 q1 q2 d1 d2 D D v2 hr1 (rd_own ho2) (by have := HQL.out; omega))
            rw [decide_eq_true (rfl : D = D)] at CQ
            have hbr2 := (hbr.trans (hv1.mono hbr.size)).trans (hv2.mono (Nat.le_trans hbr.size hv1.size))
            clear ho1 ho2 hr1 hq1 hv1 hv2 C1 HC2 hbr hbwr
            go_wp2_with fail
            refine (unhide CQ).mono ?_
            rintro e v3 ⟨rfl, hv3⟩
            have hbr3 := hbr2.trans (hv3.mono hbr2.size)
            clear CQ hbr2 hv3
            go_wp2
            go_roundw
            case rel => exact ⟨t + 1, by omega, by omega, by go_num, hbr3⟩
            case measure => simp [intOf]; omega
          · have ht7 : t = 7 := by omega
            subst ht7
            go_wp2
            go_ret
            exact ⟨rfl, hbwr⟩
  · have hko : nthE h k = 1 := HKO.out (by omega)
    rw [hko, show errV 1 = .iface 46 (.int .i64 1) from rfl]
    rcases hmc with ⟨m0, m1⟩ | hm
    · obtain ⟨hm1, _⟩ := HMI.out m0 m1
      rw [hm1, errV_zero]
      rcases hk with hk | ⟨hk, hk0, hk1⟩
      all_goals
        go_wp2
        go_ret
        exact ⟨rfl, hbw5⟩
    · have hmo : nthE h m = 1 := HMO.out (by omega)
      rw [hmo, show errV 1 = .iface 46 (.int .i64 1) from rfl]
      rcases hk with hk | ⟨hk, hk0, hk1⟩
      all_goals
        rcases hm with hm | ⟨hm, hm0, hm1⟩
        all_goals
          go_wp2
          go_ret
          exact ⟨rfl, hbw5⟩
theorem own : ownKnob Try.prog.godebug = none := by kernel_rfl
theorem bytes_ops : Try.prog.bytesOf 24 = 24 := by kernel_rfl

/-! ### The row. -/
set_option maxRecDepth 100000 in
theorem lifted (os : Os) (started : os.Started) (H : Type) (enc : TypeId × Value → H) :
    ReturnsInHanded {} Try.checked os 4 .any (Rows.mixEachSpec.pre6 enc Try.prog Try.f4 Rows.mixEachRow.domain false) (Rows.mixEachSpec.post enc Try.prog Try.f4 false true false false) := by
  refine returnsInHanded_of_change_sized (C := Try.checked) own started (by kernel_rfl) Try.func4
    (ChangeSpec.witness6 (enc := enc) (C := Try.checked) false ⟨#[], #[.slice none 0 0, .int .i64 0, .int .i64 0], []⟩ 8 (by kernel_rfl) (by kernel_rfl) (by kernel_rfl) (by kernel_rfl)) ?_
  intro W base args ds gs before hval0 hW hcnd hsz0 _
  have hval : ∀ (j : Nat) t v, Try.f4.params[j]? = some t → args[j]? = some v → Value.okWide Try.prog W .any base t v := hval0
  have hW' := hW
  obtain ⟨p, q, hA0, hV, rfl, hfz, hnd⟩ := hW
  have hA : DataW.TrodAll enc Try.prog W 0 (fun _ => true) true Try.f4.params.toList args.toList ds p := hA0
  have hsz : (DataW.weightsEach Try.prog (Try.f4.params.toList ++ Rows.mixEachSpec.plain.varTypes Try.prog) (ds ++ gs)).all (· ≤ reachBytes) = true := hsz0
  rw [Try.params4] at hA hval hsz
  obtain ⟨v0, vs0, d0, ds0, p0, q0, hargs, rfl, rfl, h0, r0⟩ := trodAll_cons hA
  obtain ⟨v1, vs1, d1, ds1, p1, q1, rfl, rfl, rfl, h1, r1⟩ := trodAll_cons r0
  obtain ⟨v2, vs2, d2, ds2, p2, q2, rfl, rfl, rfl, h2, r2⟩ := trodAll_cons r1
  obtain ⟨rfl, rfl, rfl⟩ := trodAll_nil r2
  obtain rfl : args = #[v0, v1, v2] := by cases args; simp_all
  obtain ⟨rfl, rfl⟩ := trodVars_none hV
  simp only [List.append_nil] at hW'
  have hk0 := h0
  have hlt0 : ∀ x ∈ p0, x.block < W.heap.size := fun x hx => hW'.lt x (by simp [hx])
  obtain ⟨A0, n0, c0, l0, rfl, rd0, bd0⟩ := open_ops Try.underlying22 Try.underlying24 Try.underlying3 rfl rfl rfl (by kernel_rfl) (by kernel_rfl) (hval 0 22 v0 rfl rfl) h0 (fun e s he => by have := sized_slice hsz (j := 0) (t := 22) (e := 24) rfl (congrArg some he) Try.underlying22; rwa [bytes_ops] at this)
  obtain ⟨a1, rfl, rfl, rfl, w1⟩ := open_int Try.underlying3 (hval 1 3 v1 rfl rfl) h1
  obtain ⟨a2, rfl, rfl, rfl, w2⟩ := open_int Try.underlying3 (hval 2 3 v2 rfl rfl) h2
  clear hA0 hval0
  refine (walk A0 n0 c0 l0 a1 a2 W rd0 bd0).mono fun e W' ⟨he, hg⟩ => ?_
  subst he
  exact ⟨_, rfl, post_slices (pa := _) (pv := []) hW' hg (by simp) (fun _ _ _ => (trodAll_cons_mk (shut_bool Try.underlying4 _) trodAll_mk0)) (trodAll_cons_mk (Below.trod laidOut (by kernel_rfl) (of_decide_eq_true (by kernel_rfl)) hk0 hg hlt0) (trodAll_cons_mk (shut_int Try.underlying3 w1) (trodAll_cons_mk (shut_int Try.underlying3 w2) trodAll_mk0))) rfl⟩

theorem over : Rows.mixEachRow.holds Try.pinned (OpenSpec.ofChange Rows.mixEachSpec) :=
  OpenClaim.holds_of_wide 4 Try.f4 rfl rfl rfl rfl rfl rfl rfl ⟨rfl, rfl, rfl, rfl, rfl⟩ rfl rfl rfl rfl rfl (by kernel_rfl) Try.func4 (by kernel_rfl)
    (of_decide_eq_true (by kernel_rfl)) (by unfold Func.isWrapper; first | (rw [if_pos (by decide +kernel)]; kernel_rfl) | (rw [if_neg (by decide +kernel)]; exact ⟨rfl, rfl⟩))
    (fun os started H enc _ => lifted os started H enc)

/-- The statement. -/
theorem proved : Rows.MixEachSaid :=
  over
#print axioms proved
end Go.Proofs.Ytmamejkdheigjaa.mixEach

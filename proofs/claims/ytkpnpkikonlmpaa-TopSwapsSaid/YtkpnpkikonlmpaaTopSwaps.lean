
/-
  PROVED: lanetop.TopSwaps returns true, for every history and every list of numbers: however often two that may change places do so, a history keeps its edges, its orders, its views, and what it comes to. No condition beyond the form's own reach.
-/
import Derived.Test.YtkpnpkikonlmpaaViewB
import Derived.Test.YtkpnpkikonlmpaaM2
import Derived.Test.YtkpnpkikonlmpaaTopOne
import Derived.Test.YtkpnpkikonlmpaaSwapAny
import Derived.Test.YtkpnpkikonlmpaaEdgesS
import Derived.Test.YtkpnpkikonlmpaaN2
import Derived.Test.YtkpnpkikonlmpaaOpen

namespace Go.Proofs.Ytkpnpkikonlmpaa.topSwaps
open Go.ChangeShapes Go.WideShapes Go.ChangeAt Go.RowKit Go.Proofs.Ytkpnpkikonlmpaa

/-! ### The plain law. -/
theorem keeps {h g : List HOp} (hk : okH h) (hs : Sw h g) : okH g ∧ edgesF g = edgesF h ∧ sameV h g = true ∧ sameE h g = 0 ∧ vsV h g = true ∧ vsE h g = 0 ∧ (playF g).1 = (playF h).1 ∧ ((orderE (edgesF h) = 0 ∧ ordE g = 0) ∨ (orderE (edgesF h) = 8 ∧ ordE g = 8)) := by
  have hg := okH_sw hs hk
  have h0 : (checkF h).2 = 0 := hk
  have g0 : (checkF g).2 = 0 := hg
  have he := (edgesF_sw hs (okH_tx hk)).symm
  have hc := edgesF_check (okH_tx hk)
  refine ⟨hg, he, ?_, ?_, ?_, ?_, (playF_sw hs (okH_right hk)).symm, ?_⟩
  · unfold sameV; rw [h0, g0, (alike_iff_sw (okH_tx hk) (okH_tx hg)).2 hs]; rfl
  · unfold sameE; rw [if_neg (fun e => e h0)]; exact g0
  · unfold vsV; rw [h0, g0, view_sw (hs.done (okH_tx hk)) (okH_right (okH_done hk))]; rfl
  · unfold vsE; rw [if_neg (fun e => e h0)]; exact g0
  · rcases either (edgesF_ok (okH_tx hk)).1 with ⟨o, ho, hr⟩ | ⟨hn, r, hr⟩
    · left
      refine ⟨by unfold orderE; rw [if_neg (fun e => e hc), ho], ?_⟩
      rcases order_either (okH_tx hg) with ⟨p, hp, _⟩ | ⟨_, r, hr2, _⟩
      · exact (ord_some hg hp).1
      · rw [he, hr] at hr2; cases hr2
    · right
      refine ⟨by unfold orderE; rw [if_neg (fun e => e hc), hn], ?_⟩
      rcases order_either (okH_tx hg) with ⟨p, _, hr2⟩ | ⟨hn2, _⟩
      · rw [he, hr] at hr2; cases hr2
      · exact (ord_none hg hn2).1

/-! ### The walk. -/
set_option maxRecDepth 100000 in
set_option maxHeartbeats 8000000 in
theorem walk (A : Option Addr) (n c : Nat) (h : List HOp) (B : Option Addr) (m d : Nat) (l : List Int) (w : World) (hr : Rd w w.heap.size 3 A n (cellsH h)) (hn : n * 24 ≤ 140737488351232) (hl : Rd w w.heap.size 1 B m (cellsI l)) (hmb : m * 8 ≤ 140737488351232) :
    Calls Try.prog 7 #[.slice A n c, .slice B m d] w fun e w' => e = .returned (.bool true) ∧ Below w.heap.size w w' := by
  have hm : n ≤ 6000000000000 := by omega
  have HR := hide (fun w1 (hb : Below w.heap.size w w1) => (hr.below hb).more hb.size)
  have HLd := hide (fun w1 (hb : Below w.heap.size w w1) => (hl.below hb))
  have HLN := Lib.hid hr.hlen
  have C0 := hide (one_any w)
  have CC := hide (fun w1 (hb : Below w.heap.size w w1) => check_any A n c h w1 (unhide HR w1 hb) hm)
  go_enter Try.func7, Try.ntmps7
  go_wp2_with fail
  refine (unhide C0).mono ?_
  rintro e w1 ⟨rfl, hb1⟩
  have C1 := hide (unhide CC w1 hb1)
  clear C0 CC
  by_cases hok : okH h
  · rw [show (checkF h).2 = 0 from hok, errV_zero] at C1
    have hn40 : n ≤ 40 := by rw [← hr.hlen]; exact okH_len hok
    have HK := Lib.hid (fun g => keeps hok (g := g))
    have HOK := Lib.hid hok
    have hrd := hr.below hb1
    go_wp2_with fail
    refine (unhide C1).mono ?_
    rintro e w2 ⟨rfl, hb2⟩
    have hbw2 := hb1.trans (hb2.mono hb1.size)
    have hrd2 := hr.below hbw2
    clear C1 hb1 hb2 hrd hok hn hmb
    generalize (checkF h).1 = ci at *
    go_wp2_with (at_builtin; refine wpList_app rfl (.tmp 34) (.tmp 35) _ rfl w.heap.size slt_op (n := 0) (xs := []) (m := n) (news := cellsH h) rfl (World.ownsRow_nil _ _ _ _) rfl hrd2 (oneH _) (by omega) hbw2.size ?_; intro v5 w5 hown5 hg5 hb5 hat5 hne5)
    rw [List.nil_append, Nat.zero_add] at hown5
    obtain ⟨A5, c5, rfl⟩ := own_slice hown5
    have hd5 := rd_own hown5
    have hbw5 := hbw2.trans hb5
    clear hown5 hg5 hb5 hat5 hne5 hrd2 hbw2
    go_loopw [8, 9] (fun s8 s9 wr => ∃ (k : Nat) (Ag : Option Addr) (q cg : Nat) (gl : List HOp), k ≤ m ∧ s9 = .int .i64 k ∧ s8 = .slice Ag q cg ∧ Rd wr wr.heap.size 3 Ag q (cellsH gl) ∧ Hid (Sw h gl) ∧ Below w.heap.size w wr) (fun _ s9 _ => m - (intOf s9).toNat)
    case atStart => exact ⟨0, A5, n, c5, h, Nat.zero_le _, rfl, rfl, hd5, Lib.hid (Sw.refl h), hbw5⟩
    case round =>
      clear hd5 hbw5
      obtain ⟨k, Ag, q, cg, gl, hk, rfl, rfl, hdg, HS, hbw⟩ := hrel
      have hq : q ≤ 40 := by
        have h1 := okH_len (HK.out gl HS.out).1
        rw [hdg.hlen] at h1
        exact h1
      by_cases hlt : k < m ∧ k < 60
      · obtain ⟨b, off, x, he, hb, hx, c0⟩ := (unhide HLd wr hbw).int (k := k) hlt.1
        cases he
        have C2 := hide (swap_any Ag q cg gl x wr hdg (HK.out gl HS.out).1)
        have hk1 := hlt.1
        have hk2 := hlt.2
        clear hx hlt
        by_cases hs : swE gl x = 0
        · have HS2 := Lib.hid (HS.out.trans (swL_sw hs))
          rw [hs, errV_zero] at C2
          generalize swL gl x = gn at *
          clear hs HS
          go_wp2_with fail
          refine (unhide C2).mono ?_
          rintro e w3 ⟨A3, k3, c3, rfl, hd3, hb3⟩
          have hbw3 := hbw.trans (hb3.mono hbw.size)
          clear C2 hb3 hdg
          go_wp2
          go_roundw
          case rel => exact ⟨k + 1, A3, k3, c3, gn, by omega, by go_num, rfl, hd3, HS2, hbw3⟩
          case measure => simp [intOf]; omega
        · rw [ne_errV hs] at C2
          generalize swE gl x = ev at *
          clear hs
          go_wp2_with fail
          refine (unhide C2).mono ?_
          rintro e w3 ⟨A3, k3, c3, rfl, hd3, hb3⟩
          have hbw3 := hbw.trans (hb3.mono hbw.size)
          have hdg3 := (hdg.below hb3).more hb3.size
          clear C2 hb3 hdg hd3
          go_wp2
          go_roundw
          case rel => exact ⟨k + 1, Ag, q, cg, gl, by omega, by go_num, rfl, hdg3, HS, hbw3⟩
          case measure => simp [intOf]; omega
      · obtain ⟨k0, k1, k2, k3, k4, k5, k6, k7⟩ := HK.out gl HS.out
        have HK1 := Lib.hid k1
        have HK6 := Lib.hid k6
        have HK7 := Lib.hid k7
        have CE1 := hide (fun w1 (hb : Below w.heap.size w w1) => edges_any A n c h w1 (unhide HR w1 hb) hm HOK.out)
        have CE2 := hide (fun w1 (hd : Rd w1 w1.heap.size 3 Ag q (cellsH gl)) => edges_any Ag q cg gl w1 hd (by omega) k0)
        have CS1 := hide (fun w1 (hb : Below w.heap.size w w1) (hd : Rd w1 w1.heap.size 3 Ag q (cellsH gl)) => same_any A Ag n q c cg h gl w1 (unhide HR w1 hb) hd hm (by omega))
        rw [k2, k3, errV_zero] at CS1
        have CS2 := hide (fun w1 (hb : Below w.heap.size w w1) (hd : Rd w1 w1.heap.size 3 Ag q (cellsH gl)) => vsame_any A Ag n q c cg h gl w1 (unhide HR w1 hb) hd hm (by omega))
        rw [k4, k5, errV_zero] at CS2
        have CV1 := hide (fun w1 (hb : Below w.heap.size w w1) => (values_any A n c h w1 (unhide HR w1 hb) hm).1 HOK.out)
        have CV2 := hide (fun w1 (hd : Rd w1 w1.heap.size 3 Ag q (cellsH gl)) => (values_any Ag q cg gl w1 hd (by omega)).1 k0)
        have CO := hide (fun A2 m2 c2 w1 (hd : Rd w1 w1.heap.size 2 A2 m2 (dcells (edgesF h))) (hm2 : m2 ≤ 9000000000000) => gorder_any A2 m2 c2 (edgesF h) w1 hd hm2)
        have CP := hide (fun w1 (hd : Rd w1 w1.heap.size 3 Ag q (cellsH gl)) => sorder_any Ag q cg gl w1 hd (by omega))
        have K := hide (fun w' (hb : Below wr.heap.size wr w') => And.intro (hbw.trans (hb.mono hbw.size)) ((hdg.below hb).more hb.size))
        have hke : ((k : Int) < (m : Int) ∧ ¬ (k : Int) < 60) ∨ ¬ (k : Int) < (m : Int) := by omega
        clear k0 k1 k2 k3 k4 k5 k6 k7 HK hdg HS hbw hlt
        have C3 := hide (unhide CE1 wr (unhide K wr (Below.refl _ _)).1)
        rcases hke with ⟨g1, g2⟩ | g1
        all_goals
          go_wp2_with fail
          refine (unhide C3).mono ?_
          rintro e w3 ⟨v3, m3, rfl, ho3, hm3, hb3⟩
          obtain ⟨A3, c3, rfl⟩ := own_slice ho3
          have hd3 := rd_own ho3
          have C4 := hide (unhide CE2 w3 (unhide K w3 hb3).2)
          clear C3 ho3
          go_wp2_with fail
          refine (unhide C4).mono ?_
          rintro e w4 ⟨v4, m4, rfl, ho4, hm4, hb4⟩
          obtain ⟨A4, c4, rfl⟩ := own_slice ho4
          have hd4 := rd_own ho4
          rw [HK1.out] at hd4
          have hd34 := (hd3.below hb4).more hb4.size
          have hx4 := hb3.trans (hb4.mono hb3.size)
          have C5 := hide (unhide CS1 w4 (unhide K w4 hx4).1 (unhide K w4 hx4).2)
          clear C4 ho4 hb4 hb3 hd3
          go_wp2_with fail
          refine (unhide C5).mono ?_
          rintro e w5 ⟨rfl, hb5⟩
          have hx5 := hx4.trans (hb5.mono hx4.size)
          have hd35 := (hd34.below hb5).more hb5.size
          have hd45 := (hd4.below hb5).more hb5.size
          have C6 := hide (unhide CS2 w5 (unhide K w5 hx5).1 (unhide K w5 hx5).2)
          clear C5 hb5 hx4 hd34 hd4
          go_wp2_with fail
          refine (unhide C6).mono ?_
          rintro e w6 ⟨rfl, hb6⟩
          have hx6 := hx5.trans (hb6.mono hx5.size)
          have hd36 := (hd35.below hb6).more hb6.size
          have hd46 := (hd45.below hb6).more hb6.size
          have C7 := hide (unhide CV1 w6 (unhide K w6 hx6).1)
          clear C6 hb6 hx5 hd35 hd45
          go_wp2_with fail
          refine (unhide C7).mono ?_
          rintro e w7 ⟨v7, rfl, ho7, hb7⟩
          obtain ⟨A7, c7, rfl⟩ := own_slice ho7
          have hv7 := rd_own ho7
          have hx7 := hx6.trans (hb7.mono hx6.size)
          have hd37 := (hd36.below hb7).more hb7.size
          have hd47 := (hd46.below hb7).more hb7.size
          have C8 := hide (unhide CV2 w7 (unhide K w7 hx7).2)
          clear C7 ho7 hb7 hx6 hd36 hd46
          go_wp2_with fail
          refine (unhide C8).mono ?_
          rintro e w8 ⟨v8, rfl, ho8, hb8⟩
          obtain ⟨A8, c8, rfl⟩ := own_slice ho8
          have hv8 := rd_own ho8
          rw [HK6.out] at hv8
          have hx8 := hx7.trans (hb8.mono hx7.size)
          have hd38 := (hd37.below hb8).more hb8.size
          have hd48 := (hd47.below hb8).more hb8.size
          have hv78 := (hv7.below hb8).more hb8.size
          have C9 := hide (edgesS_any A3 A4 m3 m4 c3 c4 _ _ w8 hd38 hd48 (by omega))
          rw [decide_eq_true rfl] at C9
          clear C8 ho8 hb8 hx7 hd37 hd47 hv7 hd48
          go_wp2_with fail
          refine (unhide C9).mono ?_
          rintro e w9 ⟨rfl, hb9⟩
          have hx9 := hx8.trans (hb9.mono hx8.size)
          have hd39 := (hd38.below hb9).more hb9.size
          have C10 := hide (ints_any A7 A8 6 6 c7 c8 _ _ w9 ((hv78.below hb9).more hb9.size) ((hv8.below hb9).more hb9.size) (by omega))
          rw [decide_eq_true rfl] at C10
          clear C9 hb9 hx8 hd38 hv8 hv78
          go_wp2_with fail
          refine (unhide C10).mono ?_
          rintro e w10 ⟨rfl, hb10⟩
          have hx10 := hx9.trans (hb10.mono hx9.size)
          have hd310 := (hd39.below hb10).more hb10.size
          have C11 := hide (unhide CO A3 m3 c3 w10 hd310 (by omega))
          clear C10 hb10 hx9 hd39
          go_wp2_with fail
          refine (unhide C11).mono ?_
          rintro e w11 ⟨v11, k11, rfl, ho11, hb11⟩
          obtain ⟨A11, c11, rfl⟩ := own_slice ho11
          have hx11 := hx10.trans (hb11.mono hx10.size)
          have C12 := hide (unhide CP w11 (unhide K w11 hx11).2)
          clear C11 ho11 hb11 hx10 hd310
          rcases HK7.out with ⟨z1, z2⟩ | ⟨z1, z2⟩
          all_goals
            rw [z2] at C12
            rw [z1]
            clear z1 z2
            go_wp2_with fail
            refine (unhide C12).mono ?_
            rintro e w12 ⟨v12, k12, rfl, ho12, hb12⟩
            obtain ⟨A12, c12, rfl⟩ := own_slice ho12
            have hx12 := hx11.trans (hb12.mono hx11.size)
            have hbw12 := (unhide K w12 hx12).1
            clear C12 ho12 hb12 hx11
            first | rw [show errV 8 = .iface 74 (.int .i64 8) from rfl] | rw [errV_zero]
            go_wp2
            go_quiet (fail)
            have hbw13 := below_drewN hbw12 nq
            go_wp2
            go_ret
            exact ⟨rfl, hbw13⟩
  · rw [ne_errV (show (checkF h).2 ≠ 0 from hok)] at C1
    generalize (checkF h).2 = ev at *
    generalize (checkF h).1 = ci at *
    clear hok hr hl
    go_wp2_with fail
    refine (unhide C1).mono ?_
    rintro e w2 ⟨rfl, hb2⟩
    go_wp2
    go_ret
    exact ⟨rfl, hb1.trans (hb2.mono hb1.size)⟩
theorem own : ownKnob Try.prog.godebug = none := by kernel_rfl
theorem bytes_ints : Try.prog.bytesOf 3 = 8 := by kernel_rfl
theorem bytes_ops : Try.prog.bytesOf 24 = 24 := by kernel_rfl

/-! ### The row. -/
set_option maxRecDepth 100000 in
theorem lifted (os : Os) (started : os.Started) (H : Type) (enc : TypeId × Value → H) :
    ReturnsInHanded {} Try.checked os 7 .any (Rows.topSwapsSpec.pre6 enc Try.prog Try.f7 Rows.topSwapsRow.domain false) (Rows.topSwapsSpec.post enc Try.prog Try.f7 false true false false) := by
  refine returnsInHanded_of_change_sized (C := Try.checked) own started (by kernel_rfl) Try.func7
    (ChangeSpec.witness6 (enc := enc) (C := Try.checked) false ⟨#[], #[.slice none 0 0, .slice none 0 0], []⟩ 8 (by kernel_rfl) (by kernel_rfl) (by kernel_rfl) (by kernel_rfl)) ?_
  intro W base args ds gs before hval0 hW hcnd hsz0 _
  have hval : ∀ (j : Nat) t v, Try.f7.params[j]? = some t → args[j]? = some v → Value.okWide Try.prog W .any base t v := hval0
  have hW' := hW
  obtain ⟨p, q, hA0, hV, rfl, hfz, hnd⟩ := hW
  have hA : DataW.TrodAll enc Try.prog W 0 (fun _ => true) true Try.f7.params.toList args.toList ds p := hA0
  have hsz : (DataW.weightsEach Try.prog (Try.f7.params.toList ++ Rows.topSwapsSpec.plain.varTypes Try.prog) (ds ++ gs)).all (· ≤ reachBytes) = true := hsz0
  rw [Try.params7] at hA hval hsz
  obtain ⟨v0, vs0, d0, ds0, p0, q0, hargs, rfl, rfl, h0, r0⟩ := trodAll_cons hA
  obtain ⟨v1, vs1, d1, ds1, p1, q1, rfl, rfl, rfl, h1, r1⟩ := trodAll_cons r0
  obtain ⟨rfl, rfl, rfl⟩ := trodAll_nil r1
  obtain rfl : args = #[v0, v1] := by cases args; simp_all
  obtain ⟨rfl, rfl⟩ := trodVars_none hV
  simp only [List.append_nil] at hW'
  have hk0 := h0
  have hlt0 : ∀ x ∈ p0, x.block < W.heap.size := fun x hx => hW'.lt x (by simp [hx])
  obtain ⟨A0, n0, c0, l0, rfl, rd0, bd0⟩ := open_ops Try.underlying22 Try.underlying24 Try.underlying3 rfl rfl rfl (by kernel_rfl) (by kernel_rfl) (hval 0 22 v0 rfl rfl) h0 (fun e s he => by have := sized_slice hsz (j := 0) (t := 22) (e := 24) rfl (congrArg some he) Try.underlying22; rwa [bytes_ops] at this)
  have hk1 := h1
  have hlt1 : ∀ x ∈ p1, x.block < W.heap.size := fun x hx => hW'.lt x (by simp [hx])
  obtain ⟨A1, n1, c1, l1, rfl, rd1, bd1⟩ := open_is Try.underlying31 Try.underlying3 (by kernel_rfl) (hval 1 31 v1 rfl rfl) h1 (fun e s he => by have := sized_slice hsz (j := 1) (t := 31) (e := 3) rfl (congrArg some he) Try.underlying31; rwa [bytes_ints] at this)
  clear hA0 hval0
  refine (walk A0 n0 c0 l0 A1 n1 c1 l1 W rd0 bd0 rd1 bd1).mono fun e W' ⟨he, hg⟩ => ?_
  subst he
  exact ⟨_, rfl, post_slices (pa := _) (pv := []) hW' hg (by simp) (fun _ _ _ => (trodAll_cons_mk (shut_bool Try.underlying4 _) trodAll_mk0)) (trodAll_cons_mk (Below.trod laidOut (by kernel_rfl) (of_decide_eq_true (by kernel_rfl)) hk0 hg hlt0) (trodAll_cons_mk (Below.trod laidOut (by kernel_rfl) (of_decide_eq_true (by kernel_rfl)) hk1 hg hlt1) trodAll_mk0)) rfl⟩

theorem over : Rows.topSwapsRow.holds Try.pinned (OpenSpec.ofChange Rows.topSwapsSpec) :=
  OpenClaim.holds_of_wide 7 Try.f7 rfl rfl rfl rfl rfl rfl rfl ⟨rfl, rfl, rfl, rfl, rfl⟩ rfl rfl rfl rfl rfl (by kernel_rfl) Try.func7 (by kernel_rfl)
    (of_decide_eq_true (by kernel_rfl)) (by unfold Func.isWrapper; first | (rw [if_pos (by decide +kernel)]; kernel_rfl) | (rw [if_neg (by decide +kernel)]; exact ⟨rfl, rfl⟩))
    (fun os started H enc _ => lifted os started H enc)

/-- The statement. -/
theorem proved : Rows.TopSwapsSaid :=
  over
#print axioms proved
end Go.Proofs.Ytkpnpkikonlmpaa.topSwaps


/-
  PROVED: lanelaw2.StampOrders returns true, for every list of ops: what is told by numbers is a history of which all edges lead from lesser numbers to greater ones; its order is that by numbers; who is aborted ends so. No condition beyond the form's own reach.
-/
import Derived.Test.YtkpnpkikonlmpaaStampP
import Derived.Test.YtkpnpkikonlmpaaM2
import Derived.Test.YtkpnpkikonlmpaaSerial3
import Derived.Test.YtkpnpkikonlmpaaHistOf
import Derived.Test.YtkpnpkikonlmpaaOpen

namespace Go.Proofs.Ytkpnpkikonlmpaa.stampOrders
open Go.ChangeShapes Go.WideShapes Go.ChangeAt Go.RowKit Go.Proofs.Ytkpnpkikonlmpaa

/-! ### The plain law. -/
def oneS : List HOp := [⟨2, 2, 1⟩, ⟨1, 1, 1⟩]
theorem fact : okH oneS ∧ stampF false oneS = ([⟨2, 2, 1⟩, ⟨1, 4, 0⟩], [1]) := ⟨by show (checkF _).2 = 0; decide, by decide⟩
theorem stampGo_len (lv : Bool) (l : List HOp) : ∀ (ms : List (Int × Int)) (told : List HOp) (vic : List Int), (stampGo lv ms told vic l).1.length ≤ told.length + l.length ∧ (stampGo lv ms told vic l).2.length ≤ vic.length + l.length := by
  induction l with
  | nil => intros; simp [stampGo]
  | cons o r ih =>
    intro ms told vic
    unfold stampGo
    simp only [List.length_cons]
    split
    · have := ih ms told vic; omega
    · split
      · have := ih ms (told ++ [o]) vic; simp at this; omega
      · split
        · have := ih (ms.set o.item.toNat (lookM (ms.getD o.item.toNat (0, 0)).1 (ms.getD o.item.toNat (0, 0)).2 o lv).2) (told ++ [o]) vic; simp at this ⊢; omega
        · split
          · have := ih (ms.set o.item.toNat (lookM (ms.getD o.item.toNat (0, 0)).1 (ms.getD o.item.toNat (0, 0)).2 o lv).2) (told ++ [⟨o.tx, 4, 0⟩]) (vic ++ [o.tx]); simp at this ⊢; omega
          · have := ih (ms.set o.item.toNat (lookM (ms.getD o.item.toNat (0, 0)).1 (ms.getD o.item.toNat (0, 0)).2 o lv).2) told vic; simp at this ⊢; omega
theorem stamp_len {h : List HOp} (hk : okH h) (lv : Bool) : (stampF lv h).1.length ≤ 40 ∧ (stampF lv h).2.length ≤ 40 := by
  have := stampGo_len lv h (List.replicate 7 (0, 0)) [] []
  have := okH_len hk
  unfold stampF; simp only [List.length_nil] at *; omega

theorem rises {o : List Int} (hu : Up ltI o) {k : Nat} {x y : Int} (hx : o[k]? = some x) (hy : o[k + 1]? = some y) : x < y := by
  obtain ⟨hi, e1⟩ := List.getElem?_eq_some_iff.1 hx
  obtain ⟨hj, e2⟩ := List.getElem?_eq_some_iff.1 hy
  have := List.pairwise_iff_getElem.1 hu k (k + 1) hi hj (by omega)
  rw [e1, e2] at this
  simpa [ltI] using this

set_option maxHeartbeats 400000 in
theorem stamp_no (A : Option Addr) (n cap : Nat) (h : List HOp) (lv : Bool) (w : World) (hr : Rd w w.heap.size 3 A n (cellsH h)) (hm : n ≤ 6000000000000) (hno : ¬ okH h) :
    Calls Try.prog 18 #[.slice A n cap, .bool lv] w fun e w' => e = .returned (.tuple #[.slice none 0 0, .slice none 0 0, errV (checkF h).2]) ∧ Below w.heap.size w w' := by
  have C := right_h A n cap h w hr hm
  rw [ne_errV (show (checkF h).2 ≠ 0 from hno)] at C ⊢
  generalize (checkF h).2 = ev at *
  have HC := hide C
  clear C hno
  go_enter Try.func18, Try.ntmps18
  go_wp2_with (go_at_call 28; refine (unhide HC).mono ?_; rintro e w1 ⟨rfl, hb1⟩)
  go_ret3
  exact ⟨rfl, hb1⟩

/-! ### The walk. -/
set_option maxRecDepth 100000 in
set_option maxHeartbeats 8000000 in
theorem walk (A : Option Addr) (n c : Nat) (h : List HOp) (w : World) (hr : Rd w w.heap.size 3 A n (cellsH h)) (hn : n * 24 ≤ 140737488351232) :
    Calls Try.prog 5 #[.slice A n c] w fun e w' => e = .returned (.bool true) ∧ Below w.heap.size w w' := by
  have hm : n ≤ 6000000000000 := by omega
  have HR := hide (fun w1 (hb : Below w.heap.size w w1) => (hr.below hb).more hb.size)
  have hr0 := rd_new w 24 (size := 3) (n := 2) (cellsH oneS) rfl
  have hb0 : Below w.heap.size w (w.alloc (.cells (cellsH oneS).toArray 24)) := (Below.refl _ _).alloc (Nat.le_refl _) _
  have C1 := hide (stamp_any (some ⟨w.heap.size, 0, none⟩) 2 2 oneS false _ (hr0.more (by simp)) fact.1)
  rw [fact.2] at C1
  have HB0 := hide hb0
  clear hb0 hr0 hn
  go_enter Try.func5, Try.ntmps5
  go_wp2_with fail
  refine (unhide C1).mono ?_
  rintro e w1 ⟨v1, v2, k1, k2, rfl, ho1, ho2, hb1⟩
  obtain ⟨A1, c1, rfl⟩ := own_slice ho1
  obtain ⟨A2, c2, rfl⟩ := own_slice ho2
  obtain rfl : k1 = 2 := by rw [← (rd_own ho1).hlen]; rfl
  obtain rfl : k2 = 1 := by rw [← own_ilen ho2]; rfl
  have hbw1 := (unhide HB0).trans (hb1.mono (unhide HB0).size)
  obtain ⟨b1, off1, x1, he, _, hx, q0⟩ := (rd_own ho2).int (k := 0) (by omega)
  cases he
  cases hx
  obtain ⟨b2, off2, x2, he, _, hx, p0, p1, p2⟩ := (rd_own ho1).op (k := 1) (by omega)
  cases he
  cases hx
  rw [Nat.add_zero] at q0
  simp only at p0 p1 p2
  clear C1 hb1 ho1 ho2 HB0 p0 p2
  by_cases hok : okH h
  · have CS := hide (fun lv w1 (hb : Below w.heap.size w w1) => stamp_any A n c h lv w1 (unhide HR w1 hb) hok)
    have HSO := Lib.hid (fun lv => stamp_orders lv hok)
    have CE := hide (fun lv A2 m2 c2 w2 (hd : Rd w2 w2.heap.size 3 A2 m2 (cellsH (stampF lv h).1)) (hm2 : m2 ≤ 6000000000000) => edges_any A2 m2 c2 (stampF lv h).1 w2 hd hm2 (stamp_orders lv hok).1)
    have CO := hide (fun lv A2 m2 c2 w2 (hd : Rd w2 w2.heap.size 3 A2 m2 (cellsH (stampF lv h).1)) (hm2 : m2 ≤ 6000000000000) => sorder_any A2 m2 c2 (stampF lv h).1 w2 hd hm2)
    have CF := hide (fun lv A2 m2 c2 t w2 (hd : Rd w2 w2.heap.size 3 A2 m2 (cellsH (stampF lv h).1)) (ht : 1 ≤ t ∧ t ≤ 6) => of_ok A2 m2 c2 (stampF lv h).1 t w2 hd (stamp_orders lv hok).1 ht)
    have HL40 := Lib.hid (fun lv => okH_len (stamp_orders lv hok).1)
    have HV40 := Lib.hid (fun lv => (stamp_len hok lv).2)
    clear hr hok
    go_wp2
    go_loopw [7] (fun s7 wr => ∃ i : Nat, i ≤ 2 ∧ s7 = .int .i64 i ∧ Below w.heap.size w wr) (fun s7 _ => 2 - (intOf s7).toNat)
    case atStart => exact ⟨0, by omega, rfl, hbw1⟩
    case round =>
      clear hbw1 q0 p1
      obtain ⟨i, hi, rfl, hbw⟩ := hrel
      by_cases hlt : i < 2
      · obtain ⟨hoks, hedg, ⟨o, hord, hup⟩, hvic⟩ := HSO.out ((i : Int) == 1)
        obtain ⟨e1, e2⟩ := ord_some hoks hord
        have HED := Lib.hid hedg
        have HUP := Lib.hid hup
        have HVI := Lib.hid hvic
        have HL := Lib.hid (HL40.out ((i : Int) == 1))
        have HVL := Lib.hid (HV40.out ((i : Int) == 1))
        have HOLN := Lib.hid (order_len hoks hord)
        have C2 := hide (unhide CS ((i : Int) == 1) wr hbw)
        have CE2 := hide (unhide CE ((i : Int) == 1))
        have CO2 := hide (unhide CO ((i : Int) == 1))
        rw [e1, e2, errV_zero] at CO2
        have CF2 := hide (unhide CF ((i : Int) == 1))
        clear hoks hedg hord hup hvic e1 e2 CS CE CO CF HSO HL40 HV40
        generalize stampF ((i : Int) == 1) h = T at *
        obtain ⟨told, vic⟩ := T
        simp only at HED HVI HL HVL C2 CE2 CO2 CF2
        obtain ⟨wo, rfl⟩ : ∃ wo : World, wo = wr := ⟨_, rfl⟩
        go_wp2_with fail
        refine (unhide C2).mono ?_
        rintro e w2 ⟨v3, v4, k3, k4, rfl, ho3, ho4, hb2⟩
        obtain ⟨A3, c3, rfl⟩ := own_slice ho3
        obtain ⟨A4, c4, rfl⟩ := own_slice ho4
        have hd3 := rd_own ho3
        have hd4 := rd_own ho4
        have hk3 : k3 ≤ 40 := by rw [← hd3.hlen]; exact HL.out
        have hk4 : k4 ≤ 40 := by rw [← hd4.ilen]; exact HVL.out
        have hbw2 := hbw.trans (hb2.mono hbw.size)
        have C3 := hide (unhide CE2 A3 k3 c3 w2 hd3 (by omega))
        clear C2 ho3 ho4 hb2 hbw CE2
        go_wp2_with fail
        refine (unhide C3).mono ?_
        rintro e w3 ⟨v5, k5, rfl, ho5, hk5, hb3⟩
        obtain ⟨A5, c5, rfl⟩ := own_slice ho5
        have hd5 := rd_own ho5
        have hd33 := (hd3.below hb3).more hb3.size
        have hd43 := (hd4.below hb3).more hb3.size
        have hbw3 := hbw2.trans (hb3.mono hbw2.size)
        have C4 := hide (unhide CO2 A3 k3 c3 w3 hd33 (by omega))
        clear C3 ho5 hb3 hd3 hd4 hbw2 CO2
        go_wp2_with fail
        refine (unhide C4).mono ?_
        rintro e w4 ⟨v6, k6, rfl, ho6, hb4⟩
        obtain ⟨A6, c6, rfl⟩ := own_slice ho6
        have hd6 := rd_own ho6
        have hk6 : k6 ≤ 6 := by rw [← own_ilen ho6]; exact HOLN.out
        have hbw4 := hbw3.trans (hb4.mono hbw3.size)
        have K4 := hide (fun w' (hb : Below w4.heap.size w4 w') => And.intro (hbw4.trans (hb.mono hbw4.size)) (And.intro (((hd33.below hb4).more hb4.size).below hb) (And.intro (((hd43.below hb4).more hb4.size).below hb) (And.intro (((hd5.below hb4).more hb4.size).below hb) (hd6.below hb)))))
        clear C4 ho6 hb4 hd33 hd43 hd5 hd6 hbw3 hbw4
        go_wp2
        go_loopw [15] (fun s15 wr => ∃ k : Nat, k ≤ k5 ∧ s15 = .int .i64 k ∧ Below w4.heap.size w4 wr) (fun s15 _ => k5 - (intOf s15).toNat)
        case atStart => exact ⟨0, Nat.zero_le _, rfl, Below.refl _ _⟩
        case round =>
          obtain ⟨k, hk, rfl, hbx⟩ := hrel
          by_cases hkl : k < k5
          · obtain ⟨bx, ox, p, he, hbo, hx, r0, r1⟩ := (unhide K4 wr hbx).2.2.2.1.pr (k := k) hkl
            cases he
            have hlt2 := HED.out p (List.mem_of_getElem? hx)
            obtain ⟨x, y⟩ := p
            simp only at r0 r1 hlt2
            have t1 : decide (x ≥ y) = false := decide_eq_false (by omega)
            have HX2 := hide (fun q => below_drewN hbx q)
            clear hx hlt2 hbx
            go_wp2
            go_quiet (fail)
            have hbx2 := unhide HX2 nq
            go_wp2
            go_roundw
            case rel => exact ⟨k + 1, by omega, by go_num, hbx2⟩
            case measure => simp [intOf]; omega
          · obtain ⟨wp, rfl⟩ : ∃ wp : World, wp = wr := ⟨_, rfl⟩
            go_wp2
            go_loopw [16] (fun s16 wr => ∃ k : Nat, 1 ≤ k ∧ s16 = .int .i64 k ∧ Below w4.heap.size w4 wr) (fun s16 _ => k6 - (intOf s16).toNat)
            case atStart => exact ⟨1, Nat.le_refl _, rfl, hbx⟩
            case round =>
              clear hbx
              obtain ⟨k, hk1, rfl, hbx⟩ := hrel
              by_cases hkl : k < k6
              · have hR6 := (unhide K4 wr hbx).2.2.2.2
                obtain ⟨bx, ox, x, he, hbo, hx, r0⟩ := hR6.int (k := k - 1) (by omega)
                cases he
                obtain ⟨_, _, y, he, _, hy, r1⟩ := hR6.int (k := k) (by omega)
                cases he
                have hxy := rises HUP.out hx (by rw [show k - 1 + 1 = k by omega]; exact hy)
                have t1 : decide (y ≤ x) = false := decide_eq_false (by omega)
                have HX2 := hide (fun q => below_drewN hbx q)
                have i0 : (0 : Int) ≤ (k : Int) := by omega
                have i1 : (k : Int) < (k6 : Int) := by omega
                have i2 : IntKind.i64.wrap ((k : Int) - 1) = ((k - 1 : Nat) : Int) := by
                  rw [show ((k - 1 : Nat) : Int) = (k : Int) - 1 by omega]; exact IntWalk.i64_in _ (by omega)
                have i3 : (0 : Int) ≤ ((k - 1 : Nat) : Int) := by omega
                have i4 : ((k - 1 : Nat) : Int) < (k6 : Int) := by omega
                clear hx hy hxy hbx hR6
                generalize k - 1 = j at *
                go_wp2
                go_quiet (fail)
                have hbx2 := unhide HX2 nq
                go_wp2
                go_roundw
                case rel => exact ⟨k + 1, by omega, by go_num, hbx2⟩
                case measure => simp [intOf]; omega
              · obtain ⟨wq, rfl⟩ : ∃ wq : World, wq = wr := ⟨_, rfl⟩
                go_wp2
                go_loopw [17] (fun s17 wr => ∃ k : Nat, k ≤ k4 ∧ s17 = .int .i64 k ∧ Below w4.heap.size w4 wr) (fun s17 _ => k4 - (intOf s17).toNat)
                case atStart => exact ⟨0, Nat.zero_le _, rfl, hbx⟩
                case round =>
                  clear hbx
                  obtain ⟨k, hk, rfl, hbx⟩ := hrel
                  obtain ⟨hw5, hR3, hR4, _, _⟩ := unhide K4 wr hbx
                  by_cases hkl : k < k4
                  · obtain ⟨bx, ox, v, he, hbo, hx, r0⟩ := hR4.int (k := k) hkl
                    cases he
                    obtain ⟨v1, v6, l, hl⟩ := HVI.out v (List.mem_of_getElem? hx)
                    have CF3 := hide (unhide CF2 A3 k3 c3 v wr (hR3.more hbx.size) ⟨v1, v6⟩)
                    rw [hl] at CF3
                    have HLV := Lib.hid hl
                    clear hx hl
                    go_wp2_with fail
                    refine (unhide CF3).mono ?_
                    rintro e w5 ⟨v7, m7, rfl, ho7, hb7⟩
                    obtain ⟨A7, c7, rfl⟩ := own_slice ho7
                    have hm7 : m7 = l.length + 1 := by rw [← (rd_own ho7).hlen]; simp
                    have hm40 : m7 ≤ 40 := by
                      have h1 := (rd_own ho7).hlen
                      have h2 : (ownL told v).length ≤ told.length := List.length_filter_le _ _
                      have h3 := HL.out
                      rw [HLV.out] at h2
                      rw [List.length_append, List.length_singleton] at h2
                      omega
                    obtain ⟨b7, o7, x7, he, hb7', hx7, s0, s1, s2⟩ := (rd_own ho7).op (k := l.length) (by omega)
                    cases he
                    rw [List.getElem?_append_right (Nat.le_refl _), Nat.sub_self] at hx7
                    cases hx7
                    simp only at s0 s1 s2
                    have hbx2 := hbx.trans (hb7.mono hbx.size)
                    clear CF3 hb7 ho7 HLV
                    generalize l.length = q at *
                    have t0 : ((m7 : Int) == 0) = false := by simp; omega
                    have i2 : IntKind.i64.wrap ((m7 : Int) - 1) = (q : Int) := by
                      rw [show (q : Int) = (m7 : Int) - 1 by omega]; exact IntWalk.i64_in _ (by omega)
                    have i3 : (0 : Int) ≤ (q : Int) := by omega
                    have i4 : (q : Int) < (m7 : Int) := by omega
                    clear hm7
                    go_wp2
                    go_roundw
                    case rel => exact ⟨k + 1, by omega, by go_num, hbx2⟩
                    case measure => simp [intOf]; omega
                  · go_wp2
                    go_roundw
                    case rel => exact ⟨i + 1, by omega, by go_num, hw5⟩
                    case measure => simp [intOf]; omega
      · go_wp2
        go_ret
        exact ⟨rfl, hbw⟩
  · have CN := hide (fun w2 (hb : Below w.heap.size w w2) => stamp_no A n c h false w2 (unhide HR w2 hb) hm hok)
    rw [ne_errV (show (checkF h).2 ≠ 0 from hok)] at CN
    generalize (checkF h).2 = ev at *
    have CN1 := hide (unhide CN w1 hbw1)
    clear hok hr CN
    go_wp2
    go_loopw [7] (fun s7 wr => s7 = .int .i64 0 ∧ wr = w1) (fun _ _ => 0)
    case atStart => exact ⟨rfl, rfl⟩
    case round =>
      obtain ⟨rfl, rfl⟩ := hrel
      go_wp2_with fail
      refine (unhide CN1).mono ?_
      rintro e w2 ⟨rfl, hb2⟩
      go_wp2
      go_ret
      exact ⟨rfl, hbw1.trans (hb2.mono hbw1.size)⟩
theorem own : ownKnob Try.prog.godebug = none := by kernel_rfl
theorem bytes_ops : Try.prog.bytesOf 24 = 24 := by kernel_rfl

/-! ### The row. -/
set_option maxRecDepth 100000 in
theorem lifted (os : Os) (started : os.Started) (H : Type) (enc : TypeId × Value → H) :
    ReturnsInHanded {} Try.checked os 5 .any (Rows.stampOrdersSpec.pre6 enc Try.prog Try.f5 Rows.stampOrdersRow.domain false) (Rows.stampOrdersSpec.post enc Try.prog Try.f5 false true false false) := by
  refine returnsInHanded_of_change_sized (C := Try.checked) own started (by kernel_rfl) Try.func5
    (ChangeSpec.witness6 (enc := enc) (C := Try.checked) false ⟨#[], #[.slice none 0 0], []⟩ 8 (by kernel_rfl) (by kernel_rfl) (by kernel_rfl) (by kernel_rfl)) ?_
  intro W base args ds gs before hval0 hW hcnd hsz0 _
  have hval : ∀ (j : Nat) t v, Try.f5.params[j]? = some t → args[j]? = some v → Value.okWide Try.prog W .any base t v := hval0
  have hW' := hW
  obtain ⟨p, q, hA0, hV, rfl, hfz, hnd⟩ := hW
  have hA : DataW.TrodAll enc Try.prog W 0 (fun _ => true) true Try.f5.params.toList args.toList ds p := hA0
  have hsz : (DataW.weightsEach Try.prog (Try.f5.params.toList ++ Rows.stampOrdersSpec.plain.varTypes Try.prog) (ds ++ gs)).all (· ≤ reachBytes) = true := hsz0
  rw [Try.params5] at hA hval hsz
  obtain ⟨v0, vs0, d0, ds0, p0, q0, hargs, rfl, rfl, h0, r0⟩ := trodAll_cons hA
  obtain ⟨rfl, rfl, rfl⟩ := trodAll_nil r0
  obtain rfl : args = #[v0] := by cases args; simp_all
  obtain ⟨rfl, rfl⟩ := trodVars_none hV
  simp only [List.append_nil] at hW'
  have hk0 := h0
  have hlt0 : ∀ x ∈ p0, x.block < W.heap.size := fun x hx => hW'.lt x (by simp [hx])
  obtain ⟨A0, n0, c0, l0, rfl, rd0, bd0⟩ := open_ops Try.underlying22 Try.underlying24 Try.underlying3 rfl rfl rfl (by kernel_rfl) (by kernel_rfl) (hval 0 22 v0 rfl rfl) h0 (fun e s he => by have := sized_slice hsz (j := 0) (t := 22) (e := 24) rfl (congrArg some he) Try.underlying22; rwa [bytes_ops] at this)
  clear hA0 hval0
  refine (walk A0 n0 c0 l0 W rd0 bd0).mono fun e W' ⟨he, hg⟩ => ?_
  subst he
  exact ⟨_, rfl, post_slices (pa := _) (pv := []) hW' hg (by simp) (fun _ _ _ => (trodAll_cons_mk (shut_bool Try.underlying4 _) trodAll_mk0)) (trodAll_cons_mk (Below.trod laidOut (by kernel_rfl) (of_decide_eq_true (by kernel_rfl)) hk0 hg hlt0) trodAll_mk0) rfl⟩

theorem over : Rows.stampOrdersRow.holds Try.pinned (OpenSpec.ofChange Rows.stampOrdersSpec) :=
  OpenClaim.holds_of_wide 5 Try.f5 rfl rfl rfl rfl rfl rfl rfl ⟨rfl, rfl, rfl, rfl, rfl⟩ rfl rfl rfl rfl rfl (by kernel_rfl) Try.func5 (by kernel_rfl)
    (of_decide_eq_true (by kernel_rfl)) (by unfold Func.isWrapper; first | (rw [if_pos (by decide +kernel)]; kernel_rfl) | (rw [if_neg (by decide +kernel)]; exact ⟨rfl, rfl⟩))
    (fun os started H enc _ => lifted os started H enc)

/-- The statement. -/
theorem proved : Rows.StampOrdersSaid :=
  over
#print axioms proved
end Go.Proofs.Ytkpnpkikonlmpaa.stampOrders


/-
  PROVED: lanelaw1.GraphEither returns true, for every edges: just one of both there is, an order or a ring; in an order each stands behind those from which an edge leads to it; around a ring edges lead. No condition beyond the form's own reach.
-/
import Derived.Test.YtecfgepomcnenaaEitherQ
import Derived.Test.YtecfgepomcnenaaOpenE
import Derived.StillTailTactics
import Derived.Deep.RegionHeld3
import Derived.BigQuiet
namespace Go.Proofs.Ytecfgepomcnenaa.graphEither
open Go.ChangeShapes Go.WideShapes Go.ChangeAt Go.RowKit Go.Proofs.Ytecfgepomcnenaa

/-! ### The plain law. -/
theorem topF_eq (E : List (Int × Int)) : topF E (namedF E) = topGo E (sortS ltI (ends2 E)).length (sortS ltI (ends2 E)) [] := by
  unfold topF
  rw [sortI_of_up (by rw [named_sort]; exact up_sortS sloI _), named_sort]
theorem fact_dec : checkG [(2, 1)] = 0 ∧ topGo [(2, 1)] (sortS ltI (ends2 [(2, 1)])).length (sortS ltI (ends2 [(2, 1)])) [] = some [2, 1] := by decide +kernel
theorem orderE_some {E : List (Int × Int)} (h : checkG E = 0) {L : List Int} (ht : topF E (namedF E) = some L) : orderE E = 0 ∧ orderL E = L := by
  unfold orderE orderL
  rw [if_neg (fun h1 => h1 h), if_neg (fun h1 => h1 h), ht]
  exact ⟨rfl, rfl⟩
theorem orderE_none {E : List (Int × Int)} (h : checkG E = 0) (ht : topF E (namedF E) = none) : orderE E = 8 ∧ orderL E = [] := by
  unfold orderE orderL
  rw [if_neg (fun h1 => h1 h), if_neg (fun h1 => h1 h), ht]
  exact ⟨rfl, rfl⟩
theorem orderE_bad {E : List (Int × Int)} (h : checkG E ≠ 0) : orderE E = checkG E ∧ orderL E = [] := by
  unfold orderE orderL
  rw [if_pos h, if_pos h]
  exact ⟨rfl, rfl⟩
theorem fact : orderE [(2, 1)] = 0 ∧ orderL [(2, 1)] = [2, 1] := orderE_some fact_dec.1 (by rw [topF_eq]; exact fact_dec.2)
def hasE (x y : Int) (E : List (Int × Int)) : Bool := E.any fun e => decide (e = (x, y))
theorem hasE_snoc {x y : Int} {E : List (Int × Int)} {k : Nat} {e : Int × Int} (h : E[k]? = some e) : hasE x y (E.take (k + 1)) = (hasE x y (E.take k) || decide (e = (x, y))) := by
  unfold hasE
  rw [take_snoc h, List.any_append]
  simp

/-! ### The walk. -/
set_option maxRecDepth 100000 in
set_option maxHeartbeats 8000000 in
theorem walk (A : Option Addr) (n c : Nat) (E : List (Int × Int)) (w : World) (hr : Rd w w.heap.size 2 A n (dcells E)) (hn : n * 16 ≤ 140737488351232) :
    Calls Try.prog 4 #[.slice A n c] w fun e w' => e = .returned (.bool true) ∧ Below w.heap.size w w' := by
  have hm : n ≤ 9000000000000 := by omega
  have HLE := Lib.hid hr.dlen
  have hb0 : Below w.heap.size w (w.alloc (.cells (dcells [(2, 1)]).toArray 43)) := (Below.refl _ _).alloc (Nat.le_refl _) _
  have C1 := hide (gorder_any (some ⟨w.heap.size, 0, none⟩) 1 1 [(2, 1)] _ ((rd_new w 43 (size := 2) (n := 1) (dcells [(2, 1)]) rfl).more (by simp)) (by omega))
  rw [fact.1, fact.2, errV_zero] at C1
  have HRd := hide (fun w1 (hb : Below w.heap.size w w1) => (hr.below hb).more hb.size)
  have CO := hide (fun w1 (hb : Below w.heap.size w w1) => gorder_any A n c E w1 (unhide HRd w1 hb) hm)
  have CG := hide (fun w1 (hb : Below w.heap.size w w1) => gcheck_any A n c E w1 (unhide HRd w1 hb) hm)
  have HB0 := hide hb0
  clear hb0
  go_enter Try.func4, Try.ntmps4
  go_wp2_with fail
  refine (unhide C1).mono ?_
  rintro e w1 ⟨v1, k1, rfl, ho1, hb1⟩
  have hbw1 := (unhide HB0).trans (hb1.mono (unhide HB0).size)
  obtain ⟨A1, c1, rfl⟩ := own_slice ho1
  have hk1 : k1 = 2 := by rw [← own_ilen ho1]; rfl
  subst hk1
  have hd1 := rd_own ho1
  obtain ⟨b, off, x, he, _, hx, q0⟩ := hd1.int (k := 0) (by omega)
  cases he
  cases hx
  obtain ⟨_, _, x, he, _, hx, q1⟩ := hd1.int (k := 1) (by omega)
  cases he
  cases hx
  rw [Nat.add_zero] at q0
  have CO1 := hide (unhide CO w1 hbw1)
  clear C1 HB0 hb1 ho1 hd1 CO
  by_cases hc : checkG E = 0
  · have hok := okE_of hc
    have HC := Lib.hid hc
    have CR := hide (fun w1 (hb : Below w.heap.size w w1) => ring_ok A n c E w1 (unhide HRd w1 hb) hm hc)
    rcases either hok with ⟨o, ho, hnr⟩ | ⟨hno, r, hsr⟩
    · obtain ⟨f1, f2⟩ := orderE_some hc ho
      rw [f1, f2, errV_zero] at CO1
      have HO := Lib.hid (order_some hok ho)
      have HNR := Lib.hid hnr
      clear hc hok f1 f2 ho hnr
      go_wp2_with fail
      refine (unhide CO1).mono ?_
      rintro e w2 ⟨v2, k2, rfl, ho2, hb2⟩
      have hbw2 := hbw1.trans (hb2.mono hbw1.size)
      obtain ⟨A2, c2, rfl⟩ := own_slice ho2
      have hd2 := rd_own ho2
      have hl2 := hd2.ilen
      have HL2 := Lib.hid hl2
      have hk2 : k2 ≤ 6 := by
        have h1 := nodup_sub_len o [(1 : Int), 2, 3, 4, 5, 6] HO.out.1 (fun x hx => by
          have := HO.out.2.1 x hx
          simp
          omega)
        rw [hl2] at h1
        simpa using h1
      have CR2 := hide (unhide CR w2 hbw2)
      clear CO1 q0 q1 hb2 ho2 hl2 hbw1 CR
      go_wp2_with fail
      refine (unhide CR2).mono ?_
      rintro e w3 ⟨hb3, hcs⟩
      rcases hcs with ⟨_, rfl⟩ | ⟨L, _, _, _, hL, _⟩
      case inr => rw [HNR.out] at hL; cases hL
      have hbw3 := hbw2.trans (hb3.mono hbw2.size)
      have hd3 := (hd2.below hb3).more hb3.size
      have CG3 := hide (unhide CG w3 hbw3)
      rw [HC.out, errV_zero] at CG3
      rw [show errV 5 = .iface 56 (.int .i64 5) from rfl]
      clear CR2 hb3 hd2 hbw2 CG
      go_wp2_with fail
      refine (unhide CG3).mono ?_
      rintro e w4 ⟨rfl, hb4⟩
      have hbw4 := hbw3.trans (hb4.mono hbw3.size)
      have hd4 := (hd3.below hb4).more hb4.size
      clear CG3 hb4 hd3 hbw3
      have HD := hide (fun q => (show Rd (w4.drewN q) (w4.drewN q).heap.size 1 A2 k2 (cellsI o) from hd4))
      have HW := hide (fun q => below_drewN hbw4 q)
      clear hd4 hbw4
      go_wp2
      go_quiet (fail)
      have hd5 := unhide HD nq
      have hbw5 := unhide HW nq
      clear HD HW
      generalize w4.drewN nq = w5 at *
      have hB0 := Blk.new w5 45 (cellsI (List.replicate 7 0))
      rw [← atL_nil] at hB0
      have hbw6 := (Below.refl w5.heap.size w5).alloc (Nat.le_refl _) (.cells (cellsI (List.replicate 7 0)).toArray 45)
      go_wp2
      obtain ⟨g, hg⟩ : ∃ g, w5.heap.size = g := ⟨_, rfl⟩
      rw [hg] at hB0 hd5 hbw6
      rw [hg]
      have hgw : w.heap.size ≤ g := by rw [← hg]; exact hbw5.size
      clear hg
      go_loopw [10] (fun s10 wr => ∃ i : Nat, i ≤ k2 ∧ s10 = .int .i64 i ∧ Blk wr g 45 (cellsI (atL (o.take i))) ∧ Below g w5 wr) (fun s10 _ => k2 - (intOf s10).toNat)
      case atStart => exact ⟨0, Nat.zero_le _, rfl, hB0, hbw6⟩
      case round =>
        clear hB0 hbw6
        obtain ⟨i, hi, rfl, hB, hbx⟩ := hrel
        by_cases hlt : i < k2
        · obtain ⟨b2, o2, x, he, hb2, hx, c0⟩ := (hd5.below hbx).int (k := i) hlt
          cases he
          obtain ⟨x1, x6⟩ := HO.out.2.1 x (List.mem_of_getElem? hx)
          obtain ⟨a, rfl⟩ : ∃ a : Nat, x = a := ⟨x.toNat, by omega⟩
          have hna : (a : Int) ∉ o.take i := by
            intro hm'
            obtain ⟨j, hj⟩ := List.mem_iff_getElem?.1 hm'
            have hji : j < i := by have := (List.getElem?_eq_some_iff.1 hj).1; rw [List.length_take] at this; omega
            rw [List.getElem?_take, if_pos hji] at hj
            have := idx_inj HO.out.1 hj hx
            omega
          have HS := Lib.hid (atL_set (p := o.take i) (a := a) (by omega) hna)
          have hli : (o.take i).length = i := by rw [List.length_take, HL2.out]; omega
          rw [hli, ← take_snoc hx] at HS
          have hlB := hB.lt
          have fB := hB.frozen a
          have cB := hB.cellS (i := a) (v := .int .i64 0) (by unfold cellsI; rw [List.getElem?_map, atL_get _ (by omega), posI_not hna]; rfl)
          have ja0 : (0 : Int) ≤ (a : Int) := by omega
          have ja7 : (a : Int) < 7 := by omega
          have hB2 := hB.put a (.int .i64 ((i : Int) + 1))
          have e2 : (cellsI (atL (o.take i))).set a (.int .i64 ((i : Int) + 1)) = cellsI (atL (o.take (i + 1))) := by
            rw [← HS.out]; unfold cellsI; rw [List.map_set]
          rw [e2] at hB2
          have hbx2 := hbx.setCell (p := ⟨g, a, none⟩) (Nat.le_refl g) (.int .i64 ((i : Int) + 1))
          clear hna hli hx e2
          go_wp2
          go_roundw
          case rel => exact ⟨i + 1, by omega, by go_num, hB2, hbx2⟩
          case measure => simp [intOf]; omega
        · have e3 : o.take i = o := List.take_of_length_le (by rw [HL2.out]; omega)
          rw [e3] at hB
          clear e3
          obtain ⟨wo, rfl⟩ : ∃ wo : World, wo = wr := ⟨_, rfl⟩
          go_wp2
          go_loopw [11] (fun s11 wr => ∃ i : Nat, i ≤ n ∧ s11 = .int .i64 i ∧ Blk wr g 45 (cellsI (atL o)) ∧ Below g w5 wr) (fun s11 _ => n - (intOf s11).toNat)
          case atStart => exact ⟨0, Nat.zero_le _, rfl, hB, hbx⟩
          case round =>
            clear hB hbx
            obtain ⟨i, hi, rfl, hB, hbx⟩ := hrel
            have hbwx := hbw5.trans (hbx.mono hgw)
            by_cases hlt : i < n
            · obtain ⟨b2, o2, e, he, hb2, hx, c0, c1⟩ := (unhide HRd wr hbwx).pr (k := i) hlt
              cases he
              obtain ⟨x, y⟩ := e
              simp only at c0 c1
              have hbf := HO.out.2.2 (x, y) (List.mem_of_getElem? hx)
              simp only at hbf
              obtain ⟨p1, p2⟩ := posI_before HO.out.1 hbf
              obtain ⟨ix, iy, hixy, hix, hiy⟩ := hbf
              obtain ⟨x1, x6⟩ := HO.out.2.1 x (List.mem_of_getElem? hix)
              obtain ⟨y1, y6⟩ := HO.out.2.1 y (List.mem_of_getElem? hiy)
              obtain ⟨a, rfl⟩ : ∃ a : Nat, x = a := ⟨x.toNat, by omega⟩
              obtain ⟨d, rfl⟩ : ∃ d : Nat, y = d := ⟨y.toNat, by omega⟩
              have hlB := hB.lt
              have cA := hB.cellS (i := a) (v := .int .i64 (posI o a)) (by unfold cellsI; rw [List.getElem?_map, atL_get _ (by omega)]; rfl)
              have cD := hB.cellS (i := d) (v := .int .i64 (posI o d)) (by unfold cellsI; rw [List.getElem?_map, atL_get _ (by omega)]; rfl)
              generalize posI o a = pa at *
              generalize posI o d = pd at *
              have ja0 : (0 : Int) ≤ (a : Int) := by omega
              have ja7 : (a : Int) < 7 := by omega
              have jd0 : (0 : Int) ≤ (d : Int) := by omega
              have jd7 : (d : Int) < 7 := by omega
              have t0 : (pa == 0) = false := by simpa using p1
              have t1 : decide (pa ≥ pd) = false := by simpa using p2
              have HB2 := hide (fun q => (show Blk (wr.drewN q) g 45 (cellsI (atL o)) from hB))
              have HX2 := hide (fun q => below_drewN hbx q)
              clear p1 hixy hix hiy hx hB hbx hbwx
              go_wp2
              go_quiet (fail)
              have hB2 := unhide HB2 nq
              have hbx2 := unhide HX2 nq
              go_wp2
              go_roundw
              case rel => exact ⟨i + 1, by omega, by go_num, hB2, hbx2⟩
              case measure => simp [intOf]; omega
            · go_wp2
              go_ret
              exact ⟨rfl, hbwx⟩
    · obtain ⟨f1, f2⟩ := orderE_none hc hno
      rw [f1, f2, show errV 8 = .iface 56 (.int .i64 8) from rfl] at CO1
      have hre := ringF_some hsr
      have HRE := Lib.hid hre
      have HSR := Lib.hid hsr
      have HWY := hide (fun i a (hi : i < r.length) (ha : r[i]? = some ((a : Nat) : Int)) => ring_reach hok hre hi ha)
      have CW := hide (fun (a b : Nat) w1 (hb : Below w.heap.size w w1) => reach_ok A n c E a b w1 (unhide HRd w1 hb) hc)
      clear hc hok f1 f2 hno hsr hre
      go_wp2_with fail
      refine (unhide CO1).mono ?_
      rintro e w2 ⟨v2, k2, rfl, ho2, hb2⟩
      have hbw2 := hbw1.trans (hb2.mono hbw1.size)
      have CR2 := hide (unhide CR w2 hbw2)
      clear CO1 q0 q1 hb2 ho2 hbw1 CR
      go_wp2_with fail
      refine (unhide CR2).mono ?_
      rintro e w3 ⟨hb3, hcs⟩
      rw [HSR.out] at hcs
      rcases hcs with ⟨h, _⟩ | ⟨L, a3, k3, c3, hL, rfl, hd3⟩
      · cases h
      obtain rfl : r = L := by injection hL
      have hbw3 := hbw2.trans (hb3.mono hbw2.size)
      have hl3 := hd3.ilen
      have hk3 := ringE_len HRE.out
      rw [hl3] at hk3
      obtain ⟨hk31, hk36⟩ := hk3
      have HL3 := Lib.hid hl3
      have CG3 := hide (unhide CG w3 hbw3)
      rw [HC.out, errV_zero] at CG3
      clear CR2 hb3 hbw2 CG hL hl3
      go_wp2_with fail
      refine (unhide CG3).mono ?_
      rintro e w4 ⟨rfl, hb4⟩
      have hbw4 := hbw3.trans (hb4.mono hbw3.size)
      have hd4 := (hd3.below hb4).more hb4.size
      have HD := hide (fun q => (show Rd (w4.drewN q) (w4.drewN q).heap.size 1 (some a3) k3 (cellsI r) from hd4))
      have HW := hide (fun q => below_drewN hbw4 q)
      clear CG3 hb4 hd3 hbw3 hd4 hbw4
      go_wp2
      go_quiet (fail)
      have hd5 := unhide HD nq
      have hbw5 := unhide HW nq
      clear HD HW
      generalize w4.drewN nq = w5 at *
      go_wp2
      go_loopw [12] (fun s12 wr => ∃ i : Nat, i ≤ k3 ∧ s12 = .int .i64 i ∧ Below w5.heap.size w5 wr) (fun s12 _ => k3 - (intOf s12).toNat)
      case atStart => exact ⟨0, Nat.zero_le _, rfl, Below.refl _ _⟩
      case round =>
        obtain ⟨i, hi, rfl, hbx⟩ := hrel
        have hbwx := hbw5.trans (hbx.mono hbw5.size)
        by_cases hlt : i < k3
        · obtain ⟨a, b', ha, hb', a1, a6, b1, b6, hE⟩ := ring_at HRE.out (i := i) (by rw [HL3.out]; exact hlt)
          rw [HL3.out] at hb'
          have HM := Lib.hid hE
          have HRC := Lib.hid (unhide HWY i a (by rw [HL3.out]; exact hlt) ha)
          obtain ⟨j, hj⟩ : ∃ j, (i + 1) % k3 = j := ⟨_, rfl⟩
          have hjk : j < k3 := by rw [← hj]; exact Nat.mod_lt _ (by omega)
          have hjm : ((i : Int) + 1).tmod (k3 : Int) = (j : Int) := by
            rw [← hj, show ((i : Int) + 1) = ((i + 1 : Nat) : Int) by omega]
            rfl
          rw [hj] at hb'
          obtain ⟨wo, rfl⟩ : ∃ wo : World, wo = wr := ⟨_, rfl⟩
          clear hE hj
          go_wp2
          go_loopw [13, 14] (fun s13 s14 wr => ∃ k : Nat, k ≤ n ∧ s13 = .bool (hasE a b' (E.take k)) ∧ s14 = .int .i64 k ∧ Below w5.heap.size w5 wr) (fun _ s14 _ => n - (intOf s14).toNat)
          case atStart => exact ⟨0, Nat.zero_le _, rfl, rfl, hbx⟩
          case round =>
            clear hbx hbwx
            obtain ⟨k, hk, rfl, rfl, hbx⟩ := hrel
            have hbwx := hbw5.trans (hbx.mono hbw5.size)
            obtain ⟨br, or', x, he, hbr, hx, c0⟩ := (hd5.below hbx).int (k := i) hlt
            cases he
            rw [ha] at hx
            cases hx
            obtain ⟨_, _, x, he, _, hx, c1⟩ := (hd5.below hbx).int (k := j) hjk
            cases he
            rw [hb'] at hx
            cases hx
            by_cases hkn : k < n
            · obtain ⟨be, oe, e, he, hbe, ho, d0, d1⟩ := (unhide HRd wr hbwx).pr (k := k) hkn
              cases he
              have HS := Lib.hid (hasE_snoc (x := a) (y := b') ho)
              obtain ⟨x, y⟩ := e
              simp only at d0 d1
              have HX2 := hide (fun q => below_drewN hbx q)
              have hw1 : IntKind.i64.wrap ((i : Int) + 1) = (i : Int) + 1 := IntWalk.i64_in _ (by omega)
              have hw2 : IntKind.i64.wrap (j : Int) = (j : Int) := IntWalk.i64_in _ (by omega)
              have n0 : (0 : Int) ≤ (i : Int) := by omega
              have n1 : (i : Int) < (k3 : Int) := by omega
              have n2 : (0 : Int) ≤ (j : Int) := by omega
              have n3 : (j : Int) < (k3 : Int) := by omega
              have n4 : (0 : Int) ≤ (k : Int) := by omega
              have n5 : (k : Int) < (n : Int) := by omega
              have n6 : ((k3 : Int) == 0) = false := by simp; omega
              generalize hasE a b' (E.take k) = q at *
              clear ho hbx hbwx
              cases q
              · by_cases hxa : x = a
                · by_cases hyb : y = b'
                  · have HS2 : Hid (hasE a b' (E.take (k + 1)) = true) := Lib.hid (by rw [HS.out, hxa, hyb]; simp)
                    have t1 : (x == (a : Int)) = true := by simpa using hxa
                    have t2 : (y == (b' : Int)) = true := by simpa using hyb
                    clear hxa hyb HS
                    go_wp2
                    go_quiet (fail)
                    have hbx2 := unhide HX2 nq
                    go_wp2
                    go_roundw
                    case rel => exact ⟨k + 1, by omega, by rw [HS2.out], by go_num, hbx2⟩
                    case measure => simp [intOf]; omega
                  · have HS2 : Hid (hasE a b' (E.take (k + 1)) = false) := Lib.hid (by rw [HS.out]; simp [hyb])
                    have t1 : (x == (a : Int)) = true := by simpa using hxa
                    have t2 : (y == (b' : Int)) = false := by simpa using hyb
                    clear hxa hyb HS
                    go_wp2
                    go_quiet (fail)
                    have hbx2 := unhide HX2 nq
                    go_wp2
                    go_roundw
                    case rel => exact ⟨k + 1, by omega, by rw [HS2.out], by go_num, hbx2⟩
                    case measure => simp [intOf]; omega
                · have HS2 : Hid (hasE a b' (E.take (k + 1)) = false) := Lib.hid (by rw [HS.out]; simp [hxa])
                  have t1 : (x == (a : Int)) = false := by simpa using hxa
                  clear hxa HS
                  go_wp2
                  go_quiet (fail)
                  have hbx2 := unhide HX2 nq
                  go_wp2
                  go_roundw
                  case rel => exact ⟨k + 1, by omega, by rw [HS2.out], by go_num, hbx2⟩
                  case measure => simp [intOf]; omega
              · have HS2 : Hid (hasE a b' (E.take (k + 1)) = true) := Lib.hid (by rw [HS.out]; simp)
                clear HS
                go_wp2
                go_quiet (fail)
                have hbx2 := unhide HX2 nq
                go_wp2
                go_roundw
                case rel => exact ⟨k + 1, by omega, by rw [HS2.out], by go_num, hbx2⟩
                case measure => simp [intOf]; omega
            · have HQ : Hid (hasE a b' (E.take k) = true) := Lib.hid (by
                rw [List.take_of_length_le (by rw [HLE.out]; omega)]
                unfold hasE
                rw [List.any_eq_true]
                exact ⟨((a : Int), (b' : Int)), HM.out, by simp⟩)
              have CW2 := hide (unhide CW a a wr.drew hbwx.drew (by omega) (by omega) (by omega) (by omega))
              have hbd : Below w5.heap.size w5 wr.drew := hbx.drew
              have n0 : (0 : Int) ≤ (i : Int) := by omega
              have n1 : (i : Int) < (k3 : Int) := by omega
              rw [HRC.out] at CW2
              rw [HQ.out]
              have hbrw : br < wr.drew.heap.size := Nat.lt_of_lt_of_le hbr hbx.size
              clear hbx hjm CW c1
              go_wp2
              go_region_held3 (fun w' => w'.cell? ⟨br, or' + i, none⟩ = some (.int .i64 (a : Int))) (first | exact hcell6 | exact c0 | go_keep)
                (first | (go_at_call 16; refine (unhide CW2).mono ?_; rintro e w6 ⟨rfl, hb6⟩; have hcell6 := (hb6.cell (p := ⟨br, or' + i, none⟩) hbrw).trans c0))
              have hbx6 := hbd.trans (hb6.mono hbd.size)
              go_wp2
              go_roundw
              case rel => exact ⟨i + 1, by omega, by go_num, hbx6⟩
              case measure => simp [intOf]; omega
        · go_wp2
          go_ret
          exact ⟨rfl, hbwx⟩
  · have HC := Lib.hid hc
    have CR := hide (fun w1 (hb : Below w.heap.size w w1) => ring_no A n c E w1 (unhide HRd w1 hb) hm hc)
    rw [(orderE_bad hc).1, (orderE_bad hc).2, ne_errV hc] at CO1
    rw [ne_errV hc] at CG CR
    generalize checkG E = ev at *
    clear hc
    go_wp2_with fail
    refine (unhide CO1).mono ?_
    rintro e w2 ⟨v2, k2, rfl, ho2, hb2⟩
    have hbw2 := hbw1.trans (hb2.mono hbw1.size)
    have CR2 := hide (unhide CR w2 hbw2)
    clear CO1 q0 q1 hb2 ho2 hbw1 CR
    go_wp2_with fail
    refine (unhide CR2).mono ?_
    rintro e w3 ⟨rfl, hb3⟩
    have hbw3 := hbw2.trans (hb3.mono hbw2.size)
    have CG3 := hide (unhide CG w3 hbw3)
    clear CR2 hb3 hbw2 CG
    go_wp2_with fail
    refine (unhide CG3).mono ?_
    rintro e w4 ⟨rfl, hb4⟩
    have hbw4 := hbw3.trans (hb4.mono hbw3.size)
    go_wp2
    go_ret
    exact ⟨rfl, hbw4⟩
theorem own : ownKnob Try.prog.godebug = none := by kernel_rfl
theorem bytes_edges : Try.prog.bytesOf 43 = 16 := by kernel_rfl

/-! ### The row. -/
set_option maxRecDepth 100000 in
theorem lifted (os : Os) (started : os.Started) (H : Type) (enc : TypeId × Value → H) :
    ReturnsInHanded {} Try.checked os 4 .any (Rows.graphEitherSpec.pre6 enc Try.prog Try.f4 Rows.graphEitherRow.domain false) (Rows.graphEitherSpec.post enc Try.prog Try.f4 false true false false) := by
  refine returnsInHanded_of_change_sized (C := Try.checked) own started (by kernel_rfl) Try.func4
    (ChangeSpec.witness6 (enc := enc) (C := Try.checked) false ⟨#[], #[.slice none 0 0], []⟩ 8 (by kernel_rfl) (by kernel_rfl) (by kernel_rfl) (by kernel_rfl)) ?_
  intro W base args ds gs before hval0 hW hcnd hsz0 _
  have hval : ∀ (j : Nat) t v, Try.f4.params[j]? = some t → args[j]? = some v → Value.okWide Try.prog W .any base t v := hval0
  have hW' := hW
  obtain ⟨p, q, hA0, hV, rfl, hfz, hnd⟩ := hW
  have hA : DataW.TrodAll enc Try.prog W 0 (fun _ => true) true Try.f4.params.toList args.toList ds p := hA0
  have hsz : (DataW.weightsEach Try.prog (Try.f4.params.toList ++ Rows.graphEitherSpec.plain.varTypes Try.prog) (ds ++ gs)).all (· ≤ reachBytes) = true := hsz0
  rw [Try.params4] at hA hval hsz
  obtain ⟨v0, vs0, d0, ds0, p0, q0, hargs, rfl, rfl, h0, r0⟩ := trodAll_cons hA
  obtain ⟨rfl, rfl, rfl⟩ := trodAll_nil r0
  obtain rfl : args = #[v0] := by cases args; simp_all
  obtain ⟨rfl, rfl⟩ := trodVars_none hV
  simp only [List.append_nil] at hW'
  have hk0 := h0
  have hlt0 : ∀ x ∈ p0, x.block < W.heap.size := fun x hx => hW'.lt x (by simp [hx])
  obtain ⟨A0, n0, c0, l0, rfl, rd0, bd0⟩ := open_edges Try.underlying31 Try.underlying43 Try.underlying3 rfl rfl (by kernel_rfl) (by kernel_rfl) (hval 0 31 v0 rfl rfl) h0 (fun e s he => by have := sized_slice hsz (j := 0) (t := 31) (e := 43) rfl (congrArg some he) Try.underlying31; rwa [bytes_edges] at this)
  clear hA0 hval0
  refine (walk A0 n0 c0 l0 W rd0 bd0).mono fun e W' ⟨he, hg⟩ => ?_
  subst he
  exact ⟨_, rfl, post_slices (pa := _) (pv := []) hW' hg (by simp) (fun _ _ _ => (trodAll_cons_mk (shut_bool Try.underlying4 _) trodAll_mk0)) (trodAll_cons_mk (Below.trod laidOut (by kernel_rfl) (of_decide_eq_true (by kernel_rfl)) hk0 hg hlt0) trodAll_mk0) rfl⟩

theorem over : Rows.graphEitherRow.holds Try.pinned (OpenSpec.ofChange Rows.graphEitherSpec) :=
  OpenClaim.holds_of_wide 4 Try.f4 rfl rfl rfl rfl rfl rfl rfl ⟨rfl, rfl, rfl, rfl, rfl⟩ rfl rfl rfl rfl rfl (by kernel_rfl) Try.func4 (by kernel_rfl)
    (of_decide_eq_true (by kernel_rfl)) (by unfold Func.isWrapper; first | (rw [if_pos (by decide +kernel)]; kernel_rfl) | (rw [if_neg (by decide +kernel)]; exact ⟨rfl, rfl⟩))
    (fun os started H enc _ => lifted os started H enc)

/-- The statement. -/
theorem proved : Rows.GraphEitherSaid :=
  over
#print axioms proved
end Go.Proofs.Ytecfgepomcnenaa.graphEither

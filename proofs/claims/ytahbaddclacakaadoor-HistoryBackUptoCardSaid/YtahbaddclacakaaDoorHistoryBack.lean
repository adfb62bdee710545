
/-
  PROVED: the tied card of lanelaw1.HistoryBack's second form (the input of bulk at most 1048576): it returns true: a history is read as it was. Condition: the listed variables begin as the program's text lays them (the card ties them); the bound; the form's own reach.
-/
import Derived.Test.YtahbaddclacakaaDoorDoorT
import Derived.Test.YtahbaddclacakaaDoorBackP
import Derived.Test.YtahbaddclacakaaDoorDealsR
import Derived.Test.YtahbaddclacakaaDoorHistOf
import Derived.Test.YtahbaddclacakaaDoorN1
import Derived.Deep.DeepHandedRow
import Derived.Deep.DeepWitnessRowRef

namespace Go.Proofs.YtahbaddclacakaaDoor.historyBack
open Go.ChangeShapes Go.WideShapes Go.ChangeAt Go.RowKit Go.Deep Go.Lib Go.Proofs.YtahbaddclacakaaDoor

theorem rd_takeB {w : World} {B n : Nat} {A : Option Addr} {l : List HOp} (h : Rd w B 3 A n (cellsH l)) {k : Nat} (hk : k ≤ n) : Rd w B 3 A k (cellsH (l.take k)) := by
  have hl := h.hlen
  refine ⟨by rw [cellsH_length, List.length_take]; omega, fun hk0 => ?_⟩
  obtain ⟨b, off, e, hb, hc⟩ := h.2 (by omega)
  refine ⟨b, off, e, hb, fun j u hj => hc j u ?_⟩
  rw [← cellsH_take, List.getElem?_take] at hj
  split at hj
  · exact hj
  · cases hj
set_option maxRecDepth 100000 in
set_option maxHeartbeats 8000000 in
theorem walk (A : Option Addr) (n c : Nat) (h : List HOp) (t : List UInt8) (cut : Int) (w : World) (hm : Mx w) (hr : Rd w w.heap.size 3 A n (cellsH h)) (bn : n * 24 ≤ 140737488351232) (hcap : n ≤ c) (ht : t.length ≤ 1048576) : Calls Tryd.prog 6 #[.slice A n c, .string ⟨t.toArray⟩, .int .i64 cut] w fun e w' => e = .returned (.bool true) ∧ Below w.heap.size w w' := by
  have hmp := hm.pos
  have HM := hide (fun w' (hb : Below w.heap.size w w') => hm.below hb hmp)
  have C0 := hide (parse_any factT w hm (by decide))
  rw [back_fact.1, back_fact.2, errV_zero] at C0
  have HPP := Lib.hid (fun h0 : parseE t = 0 => print_parse h0)
  have CT := hide (fun w' (hb : Below w.heap.size w w') => parse_any t w' (hm.below hb hmp) (by omega))
  have CPN := hide (fun w' (hb : Below w.heap.size w w') => print_no A n c h w' ((hr.below hb).more hb.size) (by omega))
  have CPY := hide (fun w' (hb : Below w.heap.size w w') => print_any A n c h w' ((hr.below hb).more hb.size))
  clear hm ht
  go_enter Tryd.func6, Tryd.ntmps6
  go_wp2_with fail
  refine (unhide C0).mono ?_
  rintro e w1 ⟨v1, m1, rfl, ho1, hb1⟩
  obtain ⟨A1, c1, rfl⟩ := own_slice ho1
  have hd1 := rd_own ho1
  have hm1 := hd1.hlen
  have hm1' : 3 = m1 := hm1
  subst hm1'
  obtain ⟨a0, o0, x0, hA0, hl0, hx0, y00, y01, y02⟩ := hd1.op (k := 0) (by decide)
  obtain ⟨a1, o1, x1, hA1, hl1, hx1, y10, y11, y12⟩ := hd1.op (k := 1) (by decide)
  obtain ⟨a2, o2, x2, hA2, hl2, hx2, y20, y21, y22⟩ := hd1.op (k := 2) (by decide)
  cases hA0
  cases hA1
  cases hA2
  cases hx0
  cases hx1
  cases hx2
  have CT1 := hide (unhide CT w1 hb1)
  have hz1 := hb1.size
  have HM1 := hide (fun w' (hb : Below w1.heap.size w1 w') => And.intro (hb1.trans (hb.mono hz1)) ((hr.below (hb1.trans (hb.mono hz1))).more (hb1.trans (hb.mono hz1)).size))
  clear ho1 hd1 hm1
  by_cases hE : parseE t = 0
  · obtain ⟨hok, htx⟩ := HPP.out hE
    have CPT := hide (fun A m c w' (hr : Rd w' w'.heap.size 3 A m (cellsH (parseL t))) => print_any A m c (parseL t) w' hr hok)
    rw [htx] at CPT
    rw [hE, errV_zero] at CT1
    go_wp2_with fail
    refine (unhide CT1).mono ?_
    rintro e w2 ⟨v2, m2, rfl, ho2, hb2⟩
    obtain ⟨A2, c2, rfl⟩ := own_slice ho2
    have CPT2 := hide (unhide CPT A2 m2 c2 w2 (rd_own ho2))
    have hbw2 := hb1.trans (hb2.mono hz1)
    clear ho2 CT1
    generalize (⟨t.toArray⟩ : ByteArray) = tb at *
    go_wp2_with fail
    refine (unhide CPT2).mono ?_
    rintro e w3 ⟨rfl, hb3⟩
    have hbw3 := hbw2.trans (hb3.mono hbw2.size)
    -- REST
    clear CPT2 CPT
    have hz3 := hbw3.size
    have hr3 := (hr.below hbw3).more hz3
    have HM3 := hide (fun w' (hb : Below w3.heap.size w3 w') => And.intro (hbw3.trans (hb.mono hz3)) ((hr3.below hb).more hb.size))
    clear HM1 hr3
    by_cases hok : okH h
    · have CP := hide (unhide CPY w3 hbw3 hok)
      have hnn : n ≤ 40 := by rw [← hr.hlen]; exact okH_len hok
      have CS := hide (fun w' (hb : Below w.heap.size w w') => parse_any (printL h) w' (unhide HM w' hb) (by have := printL_len h (okH_right hok); have := okH_len hok; omega))
      rw [(parse_print hok).1, (parse_print hok).2, errV_zero] at CS
      have CD := hide (fun w' hr => (done_any A n c h w' hr (by omega)).1 hok)
      clear CPY CPN
      go_wp2_with fail
      refine (unhide CP).mono ?_
      rintro e w4 ⟨rfl, hb4⟩
      have hbw4 := hbw3.trans (hb4.mono hz3)
      have CS4 := hide (unhide CS w4 hbw4)
      clear CP CS
      go_wp2_with fail
      refine (unhide CS4).mono ?_
      rintro e w5 ⟨v5, m5, rfl, ho5, hb5⟩
      obtain ⟨A5, c5, rfl⟩ := own_slice ho5
      have hbw5 := hbw4.trans (hb5.mono hbw4.size)
      have CD5 := hide (unhide CD w5 ((hr.below hbw5).more hbw5.size))
      have ho5 := own_mono ho5 hbw4.size
      clear CS4 CD
      go_wp2_with fail
      refine (unhide CD5).mono ?_
      rintro e w6 ⟨v6, m6, rfl, ho6, hb6⟩
      obtain ⟨A6, c6, rfl⟩ := own_slice ho6
      have hbw6 := hbw5.trans (hb6.mono hbw5.size)
      have hd6 := rd_own ho6
      have hm6 : m6 ≤ 40 := by rw [← hd6.hlen]; exact okH_len (okH_done hok)
      have CD6 := hide ((done_any A6 m6 c6 (doneL h) w6 hd6 (by omega)).1 (okH_done hok))
      rw [(back_done hok).2] at CD6
      have ho5 := own_below ho5 hb6 (Nat.le_refl _)
      clear CD5 hd6
      go_wp2_with fail
      refine (unhide CD6).mono ?_
      rintro e w7 ⟨v7, m7, rfl, ho7, hb7⟩
      obtain ⟨A7, c7, rfl⟩ := own_slice ho7
      have hbw7 := hbw6.trans (hb7.mono hbw6.size)
      have ho5 := own_below ho5 hb7 (Nat.le_refl _)
      have ho6 := own_below ho6 hb7 (Nat.le_refl _)
      have hm5 : h.length = m5 := (rd_own ho5).hlen
      have hln : h.length = n := hr.hlen
      have CO7 := hide (ops_any A5 A m5 n c5 c h h w7 (rd_own ho5) ((hr.below hbw7).more hbw7.size) (by omega))
      rw [decide_eq_true (show h = h from rfl)] at CO7
      have CO8 := hide (fun w' (hb : Below w7.heap.size w7 w') => ops_any A6 A7 m6 m7 c6 c7 (doneL h) (doneL h) w' (rd_own (own_below ho6 hb (Nat.le_refl _))) (rd_own (own_below ho7 hb (Nat.le_refl _))) (by omega))
      rw [decide_eq_true (show doneL h = doneL h from rfl)] at CO8
      clear ho5 ho6 ho7 CD6
      go_wp2_with fail
      refine (unhide CO7).mono ?_
      rintro e w8 ⟨rfl, hb8⟩
      have hbw8 := hbw7.trans (hb8.mono hbw7.size)
      have CO9 := hide (unhide CO8 w8 hb8)
      clear CO7 CO8
      go_wp2_with fail
      refine (unhide CO9).mono ?_
      rintro e w9 ⟨rfl, hb9⟩
      have hbw9 := hbw8.trans (hb9.mono hbw8.size)
      have CL9 := hide (hdeals_any A n c h w9 ((hr.below hbw9).more hbw9.size) hok)
      clear CO9
      go_wp2_with fail
      refine (unhide CL9).mono ?_
      rintro e w10 ⟨v10, m10, rfl, ho10, hb10⟩
      obtain ⟨A10, c10, rfl⟩ := own_slice ho10
      have hbw10 := hbw9.trans (hb10.mono hbw9.size)
      have hd10 := rd_own ho10
      have hm10 : (dealsL h).length = m10 := hd10.ilen
      have hm40 := back_cnt hok (dealsL h).length (Nat.le_refl _)
      rw [hm10] at hm40
      have HRD := hide hd10
      have HR10 := hide (fun w' (hb : Below w10.heap.size w10 w') => And.intro (hbw10.trans (hb.mono hbw10.size)) ((hr.below (hbw10.trans (hb.mono hbw10.size))).more (hbw10.trans (hb.mono hbw10.size)).size))
      clear CL9 hd10 ho10 hb4 hb5 hb6 hb7 hb8 hb9 hb10
      go_wp2
      go_loopw [20, 21] (fun s20 s21 wr => ∃ i : Nat, i ≤ m10 ∧ s20 = .int .i64 (sumB h i : Int) ∧ s21 = .int .i64 i ∧ Below w10.heap.size w10 wr) (fun _ s21 _ => m10 - (intOf s21).toNat)
      case atStart => exact ⟨0, Nat.zero_le _, rfl, rfl, Below.refl _ _⟩
      case round =>
        obtain ⟨i, hi, rfl, rfl, hbr⟩ := hrel
        have hbwr := (unhide HR10 wr hbr).1
        have hrr := (unhide HR10 wr hbr).2
        by_cases hlt : i < m10
        · obtain ⟨b1, f1, x, hA, hbl, hx, q1⟩ := (((unhide HRD).below hbr).more hbr.size).int (k := i) hlt
          obtain ⟨t1, t2, t3⟩ := back_at hok hx
          have hcl := back_le hok i
          have hcl2 := back_le hok (i + 1)
          have CO := hide (of_ok A n c h x wr hrr hok t1)
          have hmm := hm10
          have hltI : (i : Int) < (m10 : Int) := by omega
          by_cases hi0 : i = 0
          · have g0 : ¬ (0 : Int) < (i : Int) := by omega
            have g00 : ¬ 0 < i := by omega
            have g01 : decide (0 < (i : Int)) = false := decide_eq_false g0
            have g02 : decide ((i : Int) > 0) = false := decide_eq_false g0
            cases hA
            clear hcl hbl hx t1 hi0
            go_wp2_with fail
            refine (unhide CO).mono ?_
            rintro e wx ⟨vx, mx, rfl, hox, hbx⟩
            obtain ⟨Ax, cx, rfl⟩ := own_slice hox
            have hmx : (ownL h x).length = mx := (rd_own hox).hlen
            rw [hmx] at t2 t3
            rw [t3] at hcl2
            have hbrx := hbr.trans (hbx.mono hbr.size)
            have t4 : ¬ (mx : Int) = 0 := by omega
            have t5 : ((mx : Int) == 0) = false := by simp; omega
            clear CO hox hmx
            go_wp2
            go_quiet (fail)
            go_wp2
            go_roundw
            case rel => exact ⟨i + 1, by omega, by rw [t3]; go_num, by go_num, below_drewN hbrx nq⟩
            case measure => simp [intOf]; omega
          · obtain ⟨j, rfl⟩ : ∃ j, i = j + 1 := ⟨i - 1, by omega⟩
            cases hA
            obtain ⟨b2, f2, y, hA2, hbl2, hy, q2⟩ := (((unhide HRD).below hbr).more hbr.size).int (k := j) (by omega)
            cases hA2
            have hup := back_up hy hx
            have g0 : (0 : Int) < ((j + 1 : Nat) : Int) := by omega
            have g1 : ¬ x ≤ y := by omega
            have HRX := hide (fun w' (hb : Below wr.heap.size wr w') => And.intro ((hb.cell (p := ⟨b1, f1 + (j + 1), none⟩) hbl).trans q1) ((hb.cell (p := ⟨b1, f1 + j, none⟩) hbl).trans q2))
            clear hcl hbl hbl2 hx hy t1 hi0 hup q2
            go_wp2_with fail
            refine (unhide CO).mono ?_
            rintro e wx ⟨vx, mx, rfl, hox, hbx⟩
            obtain ⟨Ax, cx, rfl⟩ := own_slice hox
            have hmx : (ownL h x).length = mx := (rd_own hox).hlen
            rw [hmx] at t2 t3
            rw [t3] at hcl2
            have hbrx := hbr.trans (hbx.mono hbr.size)
            obtain ⟨q3, q4⟩ := unhide HRX wx hbx
            have t4 : ¬ (mx : Int) = 0 := by omega
            have t5 : ((mx : Int) == 0) = false := by simp; omega
            have i1 : IntKind.i64.wrap (((j + 1 : Nat) : Int) - 1) = (j : Int) := by
              rw [show ((j + 1 : Nat) : Int) - 1 = (j : Int) by omega]; exact IntWalk.i64_in _ (by omega)
            clear CO hox hmx
            go_wp2
            go_quiet (fail)
            go_wp2
            go_roundw
            case rel => exact ⟨j + 2, by omega, by rw [t3]; go_num, by go_num, below_drewN hbrx nq⟩
            case measure => simp [intOf]; omega
        · have he : i = m10 := by omega
          subst he
          have hs : sumB h i = n := by rw [back_end h (by omega), hln]
          rw [hs]
          by_cases hc0 : cut < 0
          · go_wp2
            go_ret
            exact ⟨rfl, hbwr⟩
          by_cases hc1 : (n : Int) < cut
          · go_wp2
            go_ret
            exact ⟨rfl, hbwr⟩
          obtain ⟨k, rfl⟩ : ∃ k : Nat, cut = (k : Int) := ⟨cut.toNat, by omega⟩
          have hk : k ≤ n := by omega
          have hkI : (k : Int) ≤ (n : Int) := by omega
          have hkc : k ≤ c := by omega
          have hkcI : (k : Int) ≤ (c : Int) := by omega
          have CK := hide (check_any A k c (h.take k) wr (rd_takeB hrr hk) (by omega))
          rw [show (checkF (h.take k)).2 = 0 from okH_pre (a := h.take k) (r := h.drop k) (by rw [List.take_append_drop]; exact hok), errV_zero] at CK
          go_wp2_with fail
          refine (unhide CK).mono ?_
          rintro e wx ⟨rfl, hbx⟩
          go_wp2
          go_ret
          exact ⟨rfl, hbwr.trans (hbx.mono hbwr.size)⟩
    · have CP := hide (unhide CPN w3 hbw3 hok)
      rw [ne_errV (show (checkF h).2 ≠ 0 from hok)] at CP
      go_wp2_with fail
      refine (unhide CP).mono ?_
      rintro e w4 ⟨rfl, hb4⟩
      have hbw4 := hbw3.trans (hb4.mono hz3)
      go_wp2
      go_ret
      exact ⟨rfl, hbw4⟩
  · rw [ne_errV hE] at CT1
    go_wp2_with fail
    refine (unhide CT1).mono ?_
    rintro e w3 ⟨v2, m2, rfl, ho2, hb2⟩
    obtain ⟨A2, c2, rfl⟩ := own_slice ho2
    have hbw3 := hb1.trans (hb2.mono hz1)
    clear ho2 CT1
    generalize (⟨t.toArray⟩ : ByteArray) = tb at *
    have hz3 := hbw3.size
    have hr3 := (hr.below hbw3).more hz3
    have HM3 := hide (fun w' (hb : Below w3.heap.size w3 w') => And.intro (hbw3.trans (hb.mono hz3)) ((hr3.below hb).more hb.size))
    clear HM1 hr3
    by_cases hok : okH h
    · have CP := hide (unhide CPY w3 hbw3 hok)
      have hnn : n ≤ 40 := by rw [← hr.hlen]; exact okH_len hok
      have CS := hide (fun w' (hb : Below w.heap.size w w') => parse_any (printL h) w' (unhide HM w' hb) (by have := printL_len h (okH_right hok); have := okH_len hok; omega))
      rw [(parse_print hok).1, (parse_print hok).2, errV_zero] at CS
      have CD := hide (fun w' hr => (done_any A n c h w' hr (by omega)).1 hok)
      clear CPY CPN
      go_wp2_with fail
      refine (unhide CP).mono ?_
      rintro e w4 ⟨rfl, hb4⟩
      have hbw4 := hbw3.trans (hb4.mono hz3)
      have CS4 := hide (unhide CS w4 hbw4)
      clear CP CS
      go_wp2_with fail
      refine (unhide CS4).mono ?_
      rintro e w5 ⟨v5, m5, rfl, ho5, hb5⟩
      obtain ⟨A5, c5, rfl⟩ := own_slice ho5
      have hbw5 := hbw4.trans (hb5.mono hbw4.size)
      have CD5 := hide (unhide CD w5 ((hr.below hbw5).more hbw5.size))
      have ho5 := own_mono ho5 hbw4.size
      clear CS4 CD
      go_wp2_with fail
      refine (unhide CD5).mono ?_
      rintro e w6 ⟨v6, m6, rfl, ho6, hb6⟩
      obtain ⟨A6, c6, rfl⟩ := own_slice ho6
      have hbw6 := hbw5.trans (hb6.mono hbw5.size)
      have hd6 := rd_own ho6
      have hm6 : m6 ≤ 40 := by rw [← hd6.hlen]; exact okH_len (okH_done hok)
      have CD6 := hide ((done_any A6 m6 c6 (doneL h) w6 hd6 (by omega)).1 (okH_done hok))
      rw [(back_done hok).2] at CD6
      have ho5 := own_below ho5 hb6 (Nat.le_refl _)
      clear CD5 hd6
      go_wp2_with fail
      refine (unhide CD6).mono ?_
      rintro e w7 ⟨v7, m7, rfl, ho7, hb7⟩
      obtain ⟨A7, c7, rfl⟩ := own_slice ho7
      have hbw7 := hbw6.trans (hb7.mono hbw6.size)
      have ho5 := own_below ho5 hb7 (Nat.le_refl _)
      have ho6 := own_below ho6 hb7 (Nat.le_refl _)
      have hm5 : h.length = m5 := (rd_own ho5).hlen
      have hln : h.length = n := hr.hlen
      have CO7 := hide (ops_any A5 A m5 n c5 c h h w7 (rd_own ho5) ((hr.below hbw7).more hbw7.size) (by omega))
      rw [decide_eq_true (show h = h from rfl)] at CO7
      have CO8 := hide (fun w' (hb : Below w7.heap.size w7 w') => ops_any A6 A7 m6 m7 c6 c7 (doneL h) (doneL h) w' (rd_own (own_below ho6 hb (Nat.le_refl _))) (rd_own (own_below ho7 hb (Nat.le_refl _))) (by omega))
      rw [decide_eq_true (show doneL h = doneL h from rfl)] at CO8
      clear ho5 ho6 ho7 CD6
      go_wp2_with fail
      refine (unhide CO7).mono ?_
      rintro e w8 ⟨rfl, hb8⟩
      have hbw8 := hbw7.trans (hb8.mono hbw7.size)
      have CO9 := hide (unhide CO8 w8 hb8)
      clear CO7 CO8
      go_wp2_with fail
      refine (unhide CO9).mono ?_
      rintro e w9 ⟨rfl, hb9⟩
      have hbw9 := hbw8.trans (hb9.mono hbw8.size)
      have CL9 := hide (hdeals_any A n c h w9 ((hr.below hbw9).more hbw9.size) hok)
      clear CO9
      go_wp2_with fail
      refine (unhide CL9).mono ?_
      rintro e w10 ⟨v10, m10, rfl, ho10, hb10⟩
      obtain ⟨A10, c10, rfl⟩ := own_slice ho10
      have hbw10 := hbw9.trans (hb10.mono hbw9.size)
      have hd10 := rd_own ho10
      have hm10 : (dealsL h).length = m10 := hd10.ilen
      have hm40 := back_cnt hok (dealsL h).length (Nat.le_refl _)
      rw [hm10] at hm40
      have HRD := hide hd10
      have HR10 := hide (fun w' (hb : Below w10.heap.size w10 w') => And.intro (hbw10.trans (hb.mono hbw10.size)) ((hr.below (hbw10.trans (hb.mono hbw10.size))).more (hbw10.trans (hb.mono hbw10.size)).size))
      clear CL9 hd10 ho10 hb4 hb5 hb6 hb7 hb8 hb9 hb10
      go_wp2
      go_loopw [20, 21] (fun s20 s21 wr => ∃ i : Nat, i ≤ m10 ∧ s20 = .int .i64 (sumB h i : Int) ∧ s21 = .int .i64 i ∧ Below w10.heap.size w10 wr) (fun _ s21 _ => m10 - (intOf s21).toNat)
      case atStart => exact ⟨0, Nat.zero_le _, rfl, rfl, Below.refl _ _⟩
      case round =>
        obtain ⟨i, hi, rfl, rfl, hbr⟩ := hrel
        have hbwr := (unhide HR10 wr hbr).1
        have hrr := (unhide HR10 wr hbr).2
        by_cases hlt : i < m10
        · obtain ⟨b1, f1, x, hA, hbl, hx, q1⟩ := (((unhide HRD).below hbr).more hbr.size).int (k := i) hlt
          obtain ⟨t1, t2, t3⟩ := back_at hok hx
          have hcl := back_le hok i
          have hcl2 := back_le hok (i + 1)
          have CO := hide (of_ok A n c h x wr hrr hok t1)
          have hmm := hm10
          have hltI : (i : Int) < (m10 : Int) := by omega
          by_cases hi0 : i = 0
          · have g0 : ¬ (0 : Int) < (i : Int) := by omega
            have g00 : ¬ 0 < i := by omega
            have g01 : decide (0 < (i : Int)) = false := decide_eq_false g0
            have g02 : decide ((i : Int) > 0) = false := decide_eq_false g0
            cases hA
            clear hcl hbl hx t1 hi0
            go_wp2_with fail
            refine (unhide CO).mono ?_
            rintro e wx ⟨vx, mx, rfl, hox, hbx⟩
            obtain ⟨Ax, cx, rfl⟩ := own_slice hox
            have hmx : (ownL h x).length = mx := (rd_own hox).hlen
            rw [hmx] at t2 t3
            rw [t3] at hcl2
            have hbrx := hbr.trans (hbx.mono hbr.size)
            have t4 : ¬ (mx : Int) = 0 := by omega
            have t5 : ((mx : Int) == 0) = false := by simp; omega
            clear CO hox hmx
            go_wp2
            go_quiet (fail)
            go_wp2
            go_roundw
            case rel => exact ⟨i + 1, by omega, by rw [t3]; go_num, by go_num, below_drewN hbrx nq⟩
            case measure => simp [intOf]; omega
          · obtain ⟨j, rfl⟩ : ∃ j, i = j + 1 := ⟨i - 1, by omega⟩
            cases hA
            obtain ⟨b2, f2, y, hA2, hbl2, hy, q2⟩ := (((unhide HRD).below hbr).more hbr.size).int (k := j) (by omega)
            cases hA2
            have hup := back_up hy hx
            have g0 : (0 : Int) < ((j + 1 : Nat) : Int) := by omega
            have g1 : ¬ x ≤ y := by omega
            have HRX := hide (fun w' (hb : Below wr.heap.size wr w') => And.intro ((hb.cell (p := ⟨b1, f1 + (j + 1), none⟩) hbl).trans q1) ((hb.cell (p := ⟨b1, f1 + j, none⟩) hbl).trans q2))
            clear hcl hbl hbl2 hx hy t1 hi0 hup q2
            go_wp2_with fail
            refine (unhide CO).mono ?_
            rintro e wx ⟨vx, mx, rfl, hox, hbx⟩
            obtain ⟨Ax, cx, rfl⟩ := own_slice hox
            have hmx : (ownL h x).length = mx := (rd_own hox).hlen
            rw [hmx] at t2 t3
            rw [t3] at hcl2
            have hbrx := hbr.trans (hbx.mono hbr.size)
            obtain ⟨q3, q4⟩ := unhide HRX wx hbx
            have t4 : ¬ (mx : Int) = 0 := by omega
            have t5 : ((mx : Int) == 0) = false := by simp; omega
            have i1 : IntKind.i64.wrap (((j + 1 : Nat) : Int) - 1) = (j : Int) := by
              rw [show ((j + 1 : Nat) : Int) - 1 = (j : Int) by omega]; exact IntWalk.i64_in _ (by omega)
            clear CO hox hmx
            go_wp2
            go_quiet (fail)
            go_wp2
            go_roundw
            case rel => exact ⟨j + 2, by omega, by rw [t3]; go_num, by go_num, below_drewN hbrx nq⟩
            case measure => simp [intOf]; omega
        · have he : i = m10 := by omega
          subst he
          have hs : sumB h i = n := by rw [back_end h (by omega), hln]
          rw [hs]
          by_cases hc0 : cut < 0
          · go_wp2
            go_ret
            exact ⟨rfl, hbwr⟩
          by_cases hc1 : (n : Int) < cut
          · go_wp2
            go_ret
            exact ⟨rfl, hbwr⟩
          obtain ⟨k, rfl⟩ : ∃ k : Nat, cut = (k : Int) := ⟨cut.toNat, by omega⟩
          have hk : k ≤ n := by omega
          have hkI : (k : Int) ≤ (n : Int) := by omega
          have hkc : k ≤ c := by omega
          have hkcI : (k : Int) ≤ (c : Int) := by omega
          have CK := hide (check_any A k c (h.take k) wr (rd_takeB hrr hk) (by omega))
          rw [show (checkF (h.take k)).2 = 0 from okH_pre (a := h.take k) (r := h.drop k) (by rw [List.take_append_drop]; exact hok), errV_zero] at CK
          go_wp2_with fail
          refine (unhide CK).mono ?_
          rintro e wx ⟨rfl, hbx⟩
          go_wp2
          go_ret
          exact ⟨rfl, hbwr.trans (hbx.mono hbwr.size)⟩
    · have CP := hide (unhide CPN w3 hbw3 hok)
      rw [ne_errV (show (checkF h).2 ≠ 0 from hok)] at CP
      go_wp2_with fail
      refine (unhide CP).mono ?_
      rintro e w4 ⟨rfl, hb4⟩
      have hbw4 := hbw3.trans (hb4.mono hz3)
      go_wp2
      go_ret
      exact ⟨rfl, hbw4⟩

theorem bytes_ops : Tryd.prog.bytesOf 28 = 24 := by kernel_rfl
theorem bulk_string {H : Type} {a c : DataW H} {l : List UInt8} (hk : Rows.uptoSmall H [a, .lit (.string l), c] = true) : l.length ≤ 1048576 := by
  have h := of_decide_eq_true hk
  simp only [Rows.uptoBulkAll, Rows.uptoBulk] at h
  omega

/-! ### The row. -/
noncomputable def world2 (os : Os) : World := World.laidAll Tryd.prog os dLaid2
theorem world2_met (os : Os) (args : Array Value) : laidMetH Tryd.prog dLaid2 ((world2 os).forCall (fun _ _ => 0) ⟨#[], args, []⟩).memory :=
  (LaidIn.of_run (l := dLaid2) [3, 2] 8 (by kernel_rfl) (by kernel_rfl) (by kernel_rfl) (by kernel_rfl)).met
theorem reads (os : Os) {H : Type} (enc : TypeId × Value → H) : ∃ places, DataW.whole enc Tryd.prog ((world2 os).forCall (fun _ _ => 0) ⟨#[], #[.slice none 0 0, .string ⟨#[]⟩, .int .i64 0], []⟩).memory Tryd.f6.params.toList Rows.historyBackSpec.vars false #[Value.slice none 0 0, Value.string ⟨#[]⟩, Value.int .i64 0].toList 8 = some ([.nil, .lit (.string []), .lit (.int .i64 0)], [], places) :=
  ⟨[], by kernel_rfl⟩
set_option maxRecDepth 100000 in
theorem lifted (os : Os) (started : os.Started) (H : Type) (enc : TypeId × Value → H) (F : Stop.Interp) :
    ReturnsInHanded {} Tryd.checked os 6 .any ((Rows.OpenSpec.upto Rows.historyBackSpec).preRow enc Tryd.prog Tryd.f6 Rows.historyBackUptoRow.domain false Rows.historyBackUptoRow.laid) (((Rows.OpenSpec.upto Rows.historyBackSpec).at F).post enc Tryd.prog Tryd.f6 false true false false) := by
  obtain ⟨places, hx⟩ := reads os enc
  refine returnsInHanded_of_row (C := Tryd.checked) (s := Rows.OpenSpec.upto Rows.historyBackSpec) dOwn started (by kernel_rfl) Tryd.func6
    (witness_row_atRef (enc := enc) (C := Tryd.checked) false (world2 os) #[.slice none 0 0, .string ⟨#[]⟩, .int .i64 0] rfl (by kernel_rfl) (by kernel_rfl) (by kernel_rfl)
      (OpenSpec.preRow_of_cond 8 hx (by kernel_rfl) (fun k hk => by cases hk; kernel_rfl) (by kernel_rfl) (world2_met os _))) ?_
  intro W base args ds gs before hval0 hW _ hcnd hsz0 hL hsh _
  have hval : ∀ (j : Nat) t v, Tryd.f6.params[j]? = some t → args[j]? = some v → Value.okWide Tryd.prog W .any base t v := hval0
  have hW' := hW
  obtain ⟨p, q, hA0, hV, rfl, hfz, hnd⟩ := hW
  have hA : DataW.TrodAll enc Tryd.prog W 0 (fun _ => true) true Tryd.f6.params.toList args.toList ds p := hA0
  have hsz : (DataW.weightsEach Tryd.prog (Tryd.f6.params.toList ++ Rows.historyBackSpec.plain.varTypes Tryd.prog) (ds ++ gs)).all (· ≤ reachBytes) = true := hsz0
  have hbk := hcnd _ rfl
  rw [Tryd.params6] at hA hval hsz
  obtain ⟨v0, vs0, d0, ds0, p0, q0, hargs, rfl, rfl, h0, r0⟩ := trodAll_cons hA
  obtain ⟨v1, vs1, d1, ds1, p1, q1, rfl, rfl, rfl, h1, r1⟩ := trodAll_cons r0
  obtain ⟨v2, vs2, d2, ds2, p2, q2, rfl, rfl, rfl, h2, r2⟩ := trodAll_cons r1
  obtain ⟨rfl, rfl, rfl⟩ := trodAll_nil r2
  obtain rfl : args = #[v0, v1, v2] := by cases args; simp_all
  obtain ⟨rfl, rfl⟩ := trodVars_none hV
  simp only [List.append_nil] at hW'
  have hk0 := h0
  have hlt0 : ∀ x ∈ p0, x.block < W.heap.size := fun x hx => hW'.lt x (by simp [hx])
  obtain ⟨A0, n0, c0, l0, rfl, rd0, bd0, cp0⟩ := open_opsc Tryd.underlying31 Tryd.underlying28 Tryd.underlying3 rfl rfl rfl (by kernel_rfl) (by kernel_rfl) (hval 0 31 v0 rfl rfl) h0 (fun e s he => by have := sized_slice hsz (j := 0) (t := 31) (e := 28) rfl (congrArg some he) Tryd.underlying31; rwa [bytes_ops] at this)
  obtain ⟨s1, rfl, rfl, rfl, w1⟩ := Go.ChangeMaps.open_string Tryd.underlying9 (hval 1 9 v1 rfl rfl) h1
  obtain ⟨a2, rfl, rfl, rfl, w2⟩ := open_int Tryd.underlying3 (hval 2 3 v2 rfl rfl) h2
  have hb := bulk_string hbk
  obtain ⟨t, rfl⟩ : ∃ t : List UInt8, s1 = ⟨t.toArray⟩ := ⟨s1.data.toList, by cases s1; simp⟩
  clear hA0 hval0
  refine (walk A0 n0 c0 l0 t a2 W (mx_of_shaped hsh) rd0 bd0 cp0 (by simpa using hb)).mono fun e W' ⟨he, hg⟩ => ?_
  subst he
  exact ⟨_, rfl, post_slices (pa := _) (pv := []) hW' hg (by simp) (fun _ _ _ => (trodAll_cons_mk (shut_bool Tryd.underlying4 _) trodAll_mk0)) (trodAll_cons_mk (Below.trod laidOut (by kernel_rfl) (of_decide_eq_true (by kernel_rfl)) hk0 hg hlt0) (trodAll_cons_mk (Go.ChangeMaps.shut_string Tryd.underlying9 w1) (trodAll_cons_mk (shut_int Tryd.underlying3 w2) trodAll_mk0))) rfl⟩

theorem over : Rows.HistoryBackUptoSaid :=
  OpenClaim.holds_of_cond 6 Tryd.f6 rfl rfl rfl rfl rfl rfl rfl ⟨rfl, rfl, rfl, rfl, rfl⟩ rfl rfl rfl rfl rfl (by kernel_rfl) Tryd.func6 (by kernel_rfl)
    (of_decide_eq_true (by kernel_rfl)) (by unfold Func.isWrapper; first | (rw [if_pos (by decide +kernel)]; kernel_rfl) | (rw [if_neg (by decide +kernel)]; exact ⟨rfl, rfl⟩))
    (fun os started H enc _ F => by rw [OpenClaim.pre_eq_preRow]; exact lifted os started H enc F)

/-- The statement: the tied card of the second form. -/
theorem proved : Rows.HistoryBackUptoCardSaid :=
  Claim7.holds_tied_plain_at .later [] _ _ _ _
    over (fun _ h => by cases h) (by kernel_rfl) (fun _ h => by cases h) historyBackUpto_row_tie rfl ⟨rfl, rfl⟩ (by kernel_rfl) rfl
    (fun f fn hf hfn => by
      obtain rfl : f = 6 := Option.some.inj ((show Tryd.prog.funcNamed "locklane/lanelaw1.HistoryBack" = some 6 by kernel_rfl).symm.trans hf) |>.symm
      obtain rfl : fn = Tryd.f6 := (Option.some.inj (Tryd.func6.symm.trans hfn)).symm
      exact ⟨by kernel_rfl, fun j t ht => by
        rw [Tryd.params6] at ht
        have hm : t ∈ [31, 9, 3] := by have := Array.mem_of_getElem? ht; simpa using this
        have hall : ([31, 9, 3].all fun u => !Tryd.prog.wantsStandIn u) = true := by kernel_rfl
        exact (show Tryd.prog.wantsStandIn t = false by simpa using List.all_eq_true.1 hall t hm)⟩)
    (by kernel_rfl)
#print axioms proved
end Go.Proofs.YtahbaddclacakaaDoor.historyBack


/-
  PROVED: lanelaw2.SnapSame returns true, for every list of ops: a deal that reads an item twice, and did not write it meanwhile, sees the same; of two that ran at once no item is written by both; nobody sees what was not done. No condition beyond the form's own reach.
-/
import Derived.Test.YtigmgeaimcglhaaVD3
import Derived.Test.YtigmgeaimcglhaaVD1
import Derived.Test.YtigmgeaimcglhaaValidBy
import Derived.Test.YtigmgeaimcglhaaValidAD
import Derived.Test.YtigmgeaimcglhaaPieces
import Derived.Test.YtigmgeaimcglhaaOpen

namespace Go.Proofs.Ytigmgeaimcglhaa.snapSame
open Go.ChangeShapes Go.WideShapes Go.ChangeAt Go.RowKit Go.Proofs.Ytigmgeaimcglhaa

/-! ### The plain law. -/
def oneS : List HOp := [⟨1, 1, 1⟩, ⟨2, 2, 1⟩, ⟨2, 3, 0⟩, ⟨1, 1, 1⟩, ⟨1, 3, 0⟩]
theorem fact : okH oneS ∧ (playV snapR oneS).dn = [2, 1] ∧ seenOf (playV snapR oneS) = [⟨1, 1, 0⟩, ⟨1, 1, 0⟩] := ⟨by show (checkF _).2 = 0; decide, by decide, by decide⟩
theorem facts_of {l : List HOp} (hk : okH l) : (playV snapR l).dn.Nodup ∧ (∀ t ∈ (playV snapR l).dn, endGo t l = 3) ∧ (playV snapR l).dn.length ≤ 6 ∧ (seenOf (playV snapR l)).length ≤ 240 := by
  have I := snap_inv hk
  have h1 := vdone_right hk I.ok I.dnds I.dnN fun t ht => snap_com I ht
  have h2 := seenOf_len I.ok I.dnds I.nodup
  have h3 := okH_len hk
  have h4 : (playV snapR l).dn.length * l.length ≤ 6 * 40 := Nat.mul_le_mul h1.2 h3
  exact ⟨I.dnN, h1.1, h1.2, by omega⟩
theorem pair_at {l : List HOp} (hk : okH l) {i k : Nat} (hki : k < i) {x y : HOp} (hx : (seenOf (playV snapR l))[i]? = some x) (hy : (seenOf (playV snapR l))[k]? = some y) (ht : y.tx = x.tx) (hw : y.what = x.what) (hne : x.item ≠ x.tx) : y.item = x.item := by
  have hp := List.pairwise_iff_getElem.1 (snap_pairs (snap_inv hk))
  obtain ⟨hx1, hx2⟩ := List.getElem?_eq_some_iff.1 hx
  obtain ⟨hy1, hy2⟩ := List.getElem?_eq_some_iff.1 hy
  have h := hp k i hy1 hx1 hki
  rw [hx2, hy2] at h
  exact h ht hw hne
theorem edge_at {l : List HOp} (hk : okH l) {E : Int × Int} (hE : E ∈ sortS ltE (rawP togD (doneD (playV snapR l)))) {a b : HOp} (ha : a ∈ l) (hb : b ∈ l) (h1 : a.tx = E.1) (h2 : b.tx = E.2) (h3 : a.what = 2) (h4 : b.what = 2) (h5 : a.item = b.item) : False := by
  have I := snap_inv hk
  obtain ⟨x, hx, y, hy, hp, rfl⟩ := mem_rawP.1 (mem_sortS.1 hE)
  unfold togD at hp
  rw [Bool.and_eq_true, decide_eq_true_eq] at hp
  obtain ⟨a1, a2, a3⟩ := a
  obtain ⟨b1, b2, b3⟩ := b
  simp only at h1 h2 h3 h4 h5
  subst h1 h2 h3 h4 h5
  exact snap_apart I hx hy hp.1 hp.2 ha hb

set_option maxRecDepth 100000 in
set_option maxHeartbeats 4000000 in
theorem walk (A : Option Addr) (n c : Nat) (h : List HOp) (w : World) (hr : Rd w w.heap.size 3 A n (cellsH h)) (hn : n * 24 ≤ 140737488351232) :
    Calls Try.prog 5 #[.slice A n c] w fun e w' => e = .returned (.bool true) ∧ Below w.heap.size w w' := by
  have hm : n ≤ 6000000000000 := by omega
  have HRd := hide (fun w1 (hb : Below w.heap.size w w1) => (hr.below hb).more hb.size)
  have HL := Lib.hid hr.hlen
  have HF := Lib.hid fact
  clear hr hn
  go_enter Try.func5, Try.ntmps5
  go_wp2_with fail
  have hr0 := rd_new w 24 (size := 3) (n := 5) [.int .i64 1, .int .i64 1, .int .i64 1, .int .i64 2, .int .i64 2, .int .i64 1, .int .i64 2, .int .i64 3, .int .i64 0, .int .i64 1, .int .i64 1, .int .i64 1, .int .i64 1, .int .i64 3, .int .i64 0] rfl
  have hb0 : Below w.heap.size w (w.alloc (.cells #[.int .i64 1, .int .i64 1, .int .i64 1, .int .i64 2, .int .i64 2, .int .i64 1, .int .i64 2, .int .i64 3, .int .i64 0, .int .i64 1, .int .i64 1, .int .i64 1, .int .i64 1, .int .i64 3, .int .i64 0] 24)) := (Below.refl _ _).alloc (Nat.le_refl _) _
  refine Calls.mono (snap_run (some ⟨w.heap.size, 0, none⟩) 5 5 oneS _ (hr0.more (by simp)) (by omega) HF.out.1) ?_
  rintro e w1 ⟨A1, c1, A2, c2, b, n1, n2, rfl, r1, r2, r3, hb1, _⟩
  rw [HF.out.2.1] at r1
  rw [HF.out.2.2] at r2
  obtain rfl : n1 = 2 := by have := r1.ilen; simpa using this.symm
  obtain rfl : n2 = 2 := by have := r2.hlen; simpa using this.symm
  have hbw1 := hb0.trans (hb1.mono hb0.size)
  have hbw2 := hbw1.alloc hbw1.size (.cells #[.slice A1 2 c1, .slice A2 2 c2, .slice (some ⟨b, 0, none⟩) 6 6] 28)
  obtain ⟨b1, off1, x, he, _, hx, cx, cy, cz⟩ := (r2.alloc (Nat.le_refl _) (.cells #[.slice A1 2 c1, .slice A2 2 c2, .slice (some ⟨b, 0, none⟩) 6 6] 28)).op (k := 1) (by omega)
  cases he
  obtain rfl : x = ⟨1, 1, 0⟩ := by simpa using hx.symm
  have hB1 := Blk.new w1 28 [.slice A1 2 c1, .slice (some ⟨b1, off1, none⟩) 2 c2, .slice (some ⟨b, 0, none⟩) 6 6]
  have z0 := hB1.cellS (i := 0) (v := .slice A1 2 c1) rfl
  have z1 := hB1.cellS (i := 1) (v := .slice (some ⟨b1, off1, none⟩) 2 c2) rfl
  simp only [Nat.one_mul] at cx cy cz
  clear hr0 hb0 hb1 HF r1 r2 r3 hx hB1
  by_cases hok : okH h
  · have HOK := Lib.hid hok
    have HFA := Lib.hid (facts_of hok)
    have HFR := Lib.hid (snap_from (snap_inv hok))
    have HPA := Lib.hid (fun (i k : Nat) (hki : k < i) (x y : HOp) => pair_at hok hki (x := x) (y := y))
    have HED := Lib.hid (fun (E : Int × Int) hE (a b : HOp) => edge_at hok (E := E) hE (a := a) (b := b))
    have hn40 : n ≤ 40 := by rw [← HL.out]; exact okH_len hok
    clear hok
    have CT := hide (fun w' (hb : Below w.heap.size w w') => together_any A n c h w' (unhide HRd w' hb) hm HOK.out)
    have CS := hide (snap_run A n c h _ (unhide HRd _ hbw2) hm HOK.out)
    generalize hE : sortS ltE (rawP togD (doneD (playV snapR h))) = EE at *
    generalize hSE : seenOf (playV snapR h) = SE at *
    generalize (playV snapR h).last = la at *
    generalize (playV snapR h).dn = dn at *
    clear hE hSE
    go_wp2_with fail
    refine (unhide CS).mono ?_
    rintro e w3 ⟨A3, c3, A4, c4, b3, n3, n4, rfl, r1, r2, r3, hb3, hcap⟩
    have hbw3 := hbw2.trans (hb3.mono hbw2.size)
    have hx3 : Below w3.heap.size w3 (w3.alloc (.cells #[.slice A3 n3 c3, .slice A4 n4 c4, .slice (some ⟨b3, 0, none⟩) 6 6] 28)) := (Below.refl _ _).alloc (Nat.le_refl _) _
    have h3 : n3 ≤ 6 := by have h1 := r1.ilen; have h2 := HFA.out.2.2.1; omega
    have h4 : n4 ≤ 240 := by have h1 := r2.hlen; have h2 := HFA.out.2.2.2; omega
    have F1 := hide (fun w' (hb : Below (w3.alloc (.cells #[.slice A3 n3 c3, .slice A4 n4 c4, .slice (some ⟨b3, 0, none⟩) 6 6] 28)).heap.size (w3.alloc (.cells #[.slice A3 n3 c3, .slice A4 n4 c4, .slice (some ⟨b3, 0, none⟩) 6 6] 28)) w') => show Below w.heap.size w w' ∧ Blk w' w3.heap.size 28 [.slice A3 n3 c3, .slice A4 n4 c4, .slice (some ⟨b3, 0, none⟩) 6 6] ∧ Rd w' w'.heap.size 1 A3 n3 (cellsI dn) ∧ Rd w' w'.heap.size 3 A4 n4 (cellsH SE) from ⟨hbw3.trans ((hx3.trans (hb.mono hx3.size)).mono hbw3.size), (Blk.new w3 28 [.slice A3 n3 c3, .slice A4 n4 c4, .slice (some ⟨b3, 0, none⟩) 6 6]).below hb (by simp), (r1.below (hx3.trans (hb.mono hx3.size))).more (hx3.trans (hb.mono hx3.size)).size, (r2.below (hx3.trans (hb.mono hx3.size))).more (hx3.trans (hb.mono hx3.size)).size⟩)
    have hbw4 := hbw3.trans (hx3.mono hbw3.size)
    clear r1 r2 r3 CS hb3 hbw2 hbw1 cx cy cz z0 z1
    go_wp2_with fail
    refine (unhide CT _ hbw4).mono ?_
    rintro e w4 ⟨A5, m5, c5, rfl, hr5, hm5, hb4⟩
    have CR := hide (lright_any A n c h A3 n3 c3 dn (.slice A4 n4 c4) (some ⟨b3, 0, none⟩) 6 w4 (unhide HRd _ (unhide F1 w4 hb4).1) (by omega) (unhide F1 w4 hb4).2.2.1 hcap HFA.out.1 HFA.out.2.1 h3)
    obtain ⟨_, hX, _⟩ := unhide F1 w4 hb4
    have x0 := hX.cellS (i := 0) (v := .slice A3 n3 c3) rfl
    have x1 := hX.cellS (i := 1) (v := .slice A4 n4 c4) rfl
    have x2 := hX.cellS (i := 2) (v := .slice (some ⟨b3, 0, none⟩) 6 6) rfl
    clear hX CT hbw3 hbw4
    go_wp2_with fail
    refine (unhide CR).mono ?_
    rintro e w5 ⟨rfl, hb5⟩
    have hb45 := hb4.trans (hb5.mono hb4.size)
    have F2 := hide (fun w' (hb : Below w5.heap.size w5 w') => show Below w.heap.size w w' ∧ (Blk w' w3.heap.size 28 [.slice A3 n3 c3, .slice A4 n4 c4, .slice (some ⟨b3, 0, none⟩) 6 6] ∧ Rd w' w'.heap.size 1 A3 n3 (cellsI dn) ∧ Rd w' w'.heap.size 3 A4 n4 (cellsH SE)) ∧ Rd w' w'.heap.size 2 A5 m5 (dcells EE) ∧ Rd w' w'.heap.size 3 A n (cellsH h) from by
      have hx := hb45.trans (hb.mono hb45.size)
      have h1 := unhide F1 w' hx
      have hy := hb5.trans (hb.mono hb5.size)
      exact ⟨h1.1, h1.2, (hr5.below hy).more hy.size, unhide HRd w' h1.1⟩)
    clear CR hr5 x0 x1 x2 hb45 hb4 hb5
    go_wp2
    go_loopw [11] (fun s11 wr => ∃ i : Nat, i ≤ n4 ∧ s11 = .int .i64 i ∧ Below w5.heap.size w5 wr) (fun s11 _ => n4 - (intOf s11).toNat)
    case atStart => exact ⟨0, Nat.zero_le _, rfl, Below.refl _ _⟩
    case round =>
      obtain ⟨i, hi, rfl, hbw⟩ := hrel
      obtain ⟨wo, rfl⟩ : ∃ wo : World, wo = wr := ⟨_, rfl⟩
      obtain ⟨hbx, ⟨hB, hrd, hrs⟩, hre, hrh⟩ := unhide F2 wo hbw
      have z0 := hB.cellS (i := 0) (v := .slice A3 n3 c3) rfl
      have z1 := hB.cellS (i := 1) (v := .slice A4 n4 c4) rfl
      by_cases hlt : i < n4
      · obtain ⟨b6, off6, x, he, hb6, hx, d0, d1, d2⟩ := hrs.op (k := i) hlt
        cases he
        have HXI := Lib.hid hx
        have HFX := Lib.hid (HFR.out x (List.mem_of_getElem? hx))
        have hbn := hbw.alloc hbw.size (.cells #[.int .i64 x.tx, .int .i64 x.what, .int .i64 x.item] 40)
        have hNB := Blk.new wo 40 [.int .i64 x.tx, .int .i64 x.what, .int .i64 x.item]
        have hxn : Below wo.heap.size wo (wo.alloc (.cells #[.int .i64 x.tx, .int .i64 x.what, .int .i64 x.item] 40)) := (Below.refl _ _).alloc (Nat.le_refl _) _
        have CI := hide (rin_any A3 n3 c3 dn x.item _ _ ((hrd.below hxn).more hxn.size) (by omega))
        have w0 := (hB.alloc (.cells #[.int .i64 x.tx, .int .i64 x.what, .int .i64 x.item] 40)).cellS (i := 0) (v := .slice A3 n3 c3) rfl
        have e0 := hNB.cellS (i := 0) (v := .int .i64 x.tx) rfl
        have e1 := hNB.cellS (i := 1) (v := .int .i64 x.what) rfl
        have e2 := hNB.cellS (i := 2) (v := .int .i64 x.item) rfl
        have hloop : Hid (∀ w', Below (wo.heap.size + 1) (wo.alloc (.cells #[.int .i64 x.tx, .int .i64 x.what, .int .i64 x.item] 40)) w' → Below w5.heap.size w5 w' ∧ Blk w' wo.heap.size 40 [.int .i64 x.tx, .int .i64 x.what, .int .i64 x.item]) := Lib.hid (fun w' hb => ⟨hbn.trans (hb.mono (by have := hbw.size; omega)), hNB.below hb (Nat.lt_succ_self _)⟩)
        clear hx hB hrd hrs hre hrh hNB hxn hbx
        obtain ⟨x1, x2, x3⟩ := x
        simp only at d0 d1 d2 e0 e1 e2 w0 CI hloop HFX hbn
        by_cases h0 : x3 = 0
        all_goals
          first
            | (have t0 : (x3 != 0) = false := by simpa using h0
               clear h0
               go_wp2)
            | (have t0 : (x3 != 0) = true := by simpa using h0
               have hin : x3 ∈ dn := HFX.out.resolve_left h0
               rw [decide_eq_true hin] at CI
               clear h0 hin
               go_wp2_with fail
               refine (unhide CI).mono ?_
               rintro e w7 ⟨rfl, rfl⟩
               go_wp2)
        all_goals
         (go_loopw [13] (fun s13 wr => ∃ k : Nat, k ≤ i ∧ s13 = .int .i64 k ∧ Below (wo.heap.size + 1) (wo.alloc (.cells #[.int .i64 x1, .int .i64 x2, .int .i64 x3] 40)) wr) (fun s13 _ => i - (intOf s13).toNat)
          case atStart => exact ⟨0, Nat.zero_le _, rfl, Below.refl _ _⟩
          case round =>
           obtain ⟨k, hk, rfl, hbq⟩ := hrel
           obtain ⟨hb5q, hXB⟩ := hloop.out wr hbq
           obtain ⟨_, ⟨hB, _, hrs⟩, _, _⟩ := unhide F2 wr hb5q
           have z1 := hB.cellS (i := 1) (v := .slice (some ⟨b6, off6, none⟩) n4 c4) rfl
           have hq0 := hbq.size
           by_cases hlt2 : k < i
           · obtain ⟨b7, off7, y, he7, hb7, hy, f0, f1, f2⟩ := hrs.op (k := k) (by omega)
             have he8 : b7 = b6 ∧ off7 = off6 := by injection he7 with he7; injection he7 with a1 a2; exact ⟨a1.symm, a2.symm⟩
             obtain ⟨rfl, rfl⟩ := he8
             have HPY := Lib.hid (HPA.out i k hlt2 ⟨x1, x2, x3⟩ y HXI.out hy)
             obtain ⟨y1, y2, y3⟩ := y
             simp only at f0 f1 f2 HPY
             have hNy := Blk.new wr 40 [.int .i64 y1, .int .i64 y2, .int .i64 y3]
             have g0 := hNy.cellS (i := 0) (v := .int .i64 y1) rfl
             have g1 := hNy.cellS (i := 1) (v := .int .i64 y2) rfl
             have g2 := hNy.cellS (i := 2) (v := .int .i64 y3) rfl
             have hXB2 := hXB.alloc (.cells #[.int .i64 y1, .int .i64 y2, .int .i64 y3] 40)
             have e0 := hXB2.cellS (i := 0) (v := .int .i64 x1) rfl
             have e1 := hXB2.cellS (i := 1) (v := .int .i64 x2) rfl
             have e2 := hXB2.cellS (i := 2) (v := .int .i64 x3) rfl
             have hbE := hbq.alloc (by have := hbq.size; simp at this; omega) (.cells #[.int .i64 y1, .int .i64 y2, .int .i64 y3] 40)
             clear hy he7 hNy hXB2 hXB hB hrs
             by_cases q1 : y1 = x1
             · have t1 : (y1 == x1) = true := by simpa using q1
               by_cases q2 : y2 = x2
               · have t2 : (y2 == x2) = true := by simpa using q2
                 by_cases q3 : x3 = x1
                 · have t3 : (x3 != x1) = false := by simpa using q3
                   clear q1 q2 q3
                   go_wp2
                   go_roundw
                   case rel => exact ⟨k + 1, by omega, by go_num, hbE⟩
                   case measure => simp [intOf]; omega
                 · have t3 : (x3 != x1) = true := by simpa using q3
                   have t4 : (y3 != x3) = false := by simpa using HPY.out q1 q2 q3
                   clear q1 q2 q3
                   go_wp2
                   go_roundw
                   case rel => exact ⟨k + 1, by omega, by go_num, hbE⟩
                   case measure => simp [intOf]; omega
               · have t2 : (y2 == x2) = false := by simpa using q2
                 clear q1 q2
                 go_wp2
                 go_roundw
                 case rel => exact ⟨k + 1, by omega, by go_num, hbE⟩
                 case measure => simp [intOf]; omega
             · have t1 : (y1 == x1) = false := by simpa using q1
               clear q1
               go_wp2
               go_roundw
               case rel => exact ⟨k + 1, by omega, by go_num, hbE⟩
               case measure => simp [intOf]; omega
           · clear hB hrs hXB
             go_wp2
             go_roundw
             case rel => exact ⟨i + 1, by omega, by go_num, hb5q⟩
             case measure => simp [intOf]; omega)
      · clear z0 hB hrd hrs hre hrh hbx
        go_wp2
        clear z1
        go_loopw [15] (fun s15 wr => ∃ q : Nat, q ≤ m5 ∧ s15 = .int .i64 q ∧ Below w5.heap.size w5 wr) (fun s15 _ => m5 - (intOf s15).toNat)
        case atStart => exact ⟨0, Nat.zero_le _, rfl, hbw⟩
        case round =>
          obtain ⟨q, hq, rfl, hbq⟩ := hrel
          by_cases hltq : q < m5
          · go_wp2
            go_loopw [16] (fun s16 wr => ∃ p : Nat, p ≤ n ∧ s16 = .int .i64 p ∧ Below w5.heap.size w5 wr) (fun s16 _ => n - (intOf s16).toNat)
            case atStart => exact ⟨0, Nat.zero_le _, rfl, hbq⟩
            case round =>
              obtain ⟨p, hp, rfl, hbp⟩ := hrel
              by_cases hltp : p < n
              · go_wp2
                go_loopw [17] (fun s17 wr => ∃ r : Nat, r ≤ n ∧ s17 = .int .i64 r ∧ Below w5.heap.size w5 wr) (fun s17 _ => n - (intOf s17).toNat)
                case atStart => exact ⟨0, Nat.zero_le _, rfl, hbp⟩
                case round =>
                  obtain ⟨r, hrr, rfl, hbr⟩ := hrel
                  by_cases hltr : r < n
                  · obtain ⟨_, _, hre, hrh⟩ := unhide F2 wr hbr
                    obtain ⟨b6, off6, o, he6, _, ho, a0, a1, a2⟩ := hrh.op (k := p) hltp
                    cases he6
                    obtain ⟨b7, off7, o', he7, _, ho', d0, d1, d2⟩ := hrh.op (k := r) hltr
                    cases he7
                    obtain ⟨b8, off8, E, he8, _, hE, g0, g1⟩ := hre.pr (k := q) hltq
                    cases he8
                    have HX := Lib.hid (HED.out E (List.mem_of_getElem? hE) o o' (List.mem_of_getElem? ho) (List.mem_of_getElem? ho'))
                    obtain ⟨o1, o2, o3⟩ := o
                    obtain ⟨p1, p2, p3⟩ := o'
                    obtain ⟨E1, E2⟩ := E
                    simp only at a0 a1 a2 d0 d1 d2 g0 g1 HX
                    clear ho ho' hE hre hrh
                    by_cases k1 : o1 = E1
                    · have t1 : (o1 == E1) = true := by simpa using k1
                      by_cases k2 : p1 = E2
                      · have t2 : (p1 == E2) = true := by simpa using k2
                        by_cases k3 : o2 = 2
                        · have t3 : (o2 == 2) = true := by simpa using k3
                          by_cases k4 : p2 = 2
                          · have t4 : (p2 == 2) = true := by simpa using k4
                            have k5 : ¬ o3 = p3 := fun e => HX.out k1 k2 k3 k4 e
                            have t5 : (o3 == p3) = false := by simpa using k5
                            clear k1 k2 k3 k4 k5
                            go_upto_region 33 with fail
                            go_quiet (fail)
                            go_wp2
                            go_roundw
                            case rel => exact ⟨r + 1, by omega, by go_num, below_drewN hbr _⟩
                            case measure => simp [intOf]; omega
                          · have t4 : (p2 == 2) = false := by simpa using k4
                            clear k1 k2 k3 k4
                            go_upto_region 33 with fail
                            go_quiet (fail)
                            go_wp2
                            go_roundw
                            case rel => exact ⟨r + 1, by omega, by go_num, below_drewN hbr _⟩
                            case measure => simp [intOf]; omega
                        · have t3 : (o2 == 2) = false := by simpa using k3
                          clear k1 k2 k3
                          go_upto_region 33 with fail
                          go_quiet (fail)
                          go_wp2
                          go_roundw
                          case rel => exact ⟨r + 1, by omega, by go_num, below_drewN hbr _⟩
                          case measure => simp [intOf]; omega
                      · have t2 : (p1 == E2) = false := by simpa using k2
                        clear k1 k2
                        go_upto_region 33 with fail
                        go_quiet (fail)
                        go_wp2
                        go_roundw
                        case rel => exact ⟨r + 1, by omega, by go_num, below_drewN hbr _⟩
                        case measure => simp [intOf]; omega
                    · have t1 : (o1 == E1) = false := by simpa using k1
                      clear k1
                      go_upto_region 33 with fail
                      go_quiet (fail)
                      go_wp2
                      go_roundw
                      case rel => exact ⟨r + 1, by omega, by go_num, below_drewN hbr _⟩
                      case measure => simp [intOf]; omega
                  · go_wp2
                    go_roundw
                    case rel => exact ⟨p + 1, by omega, by go_num, hbr⟩
                    case measure => simp [intOf]; omega
              · go_wp2
                go_roundw
                case rel => exact ⟨q + 1, by omega, by go_num, hbp⟩
                case measure => simp [intOf]; omega
          · have hEND := (unhide F2 wr hbq).1
            go_wp2
            go_ret
            exact ⟨rfl, hEND⟩
  · have HNO := Lib.hid hok
    have hne : Hid ((checkF h).2 ≠ 0) := Lib.hid hok
    have CN2 := hide (snap_no A n c h _ (unhide HRd _ hbw2) hm HNO.out)
    have CN3 := hide (fun w' (hb : Below w.heap.size w w') => together_no A n c h w' (unhide HRd _ hb) hm HNO.out)
    rw [ne_errV hne.out] at CN2 CN3
    generalize (checkF h).2 = ev at *
    clear hok HNO hne
    go_wp2_with fail
    refine (unhide CN2).mono ?_
    rintro e w2 ⟨rfl, hb2⟩
    have hbw3 := (hbw2.trans (hb2.mono hbw2.size))
    have hbw4 := hbw3.alloc hbw3.size (.cells #[.slice none 0 0, .slice none 0 0, .slice none 0 0] 28)
    go_wp2_with fail
    refine (unhide CN3 _ hbw4).mono ?_
    rintro e w5 ⟨rfl, hb5⟩
    go_wp2
    go_ret
    exact ⟨rfl, hbw4.trans (hb5.mono hbw4.size)⟩

theorem own : ownKnob Try.prog.godebug = none := by kernel_rfl
theorem bytes_ops : Try.prog.bytesOf 24 = 24 := by kernel_rfl

/-! ### The row. -/
set_option maxRecDepth 100000 in
theorem lifted (os : Os) (started : os.Started) (H : Type) (enc : TypeId × Value → H) :
    ReturnsInHanded {} Try.checked os 5 .any (Rows.snapSameSpec.pre6 enc Try.prog Try.f5 Rows.snapSameRow.domain false) (Rows.snapSameSpec.post enc Try.prog Try.f5 false true false false) := by
  refine returnsInHanded_of_change_sized (C := Try.checked) own started (by kernel_rfl) Try.func5
    (ChangeSpec.witness6 (enc := enc) (C := Try.checked) false ⟨#[], #[.slice none 0 0], []⟩ 8 (by kernel_rfl) (by kernel_rfl) (by kernel_rfl) (by kernel_rfl)) ?_
  intro W base args ds gs before hval0 hW hcnd hsz0 _
  have hval : ∀ (j : Nat) t v, Try.f5.params[j]? = some t → args[j]? = some v → Value.okWide Try.prog W .any base t v := hval0
  have hW' := hW
  obtain ⟨p, q, hA0, hV, rfl, hfz, hnd⟩ := hW
  have hA : DataW.TrodAll enc Try.prog W 0 (fun _ => true) true Try.f5.params.toList args.toList ds p := hA0
  have hsz : (DataW.weightsEach Try.prog (Try.f5.params.toList ++ Rows.snapSameSpec.plain.varTypes Try.prog) (ds ++ gs)).all (· ≤ reachBytes) = true := hsz0
  rw [Try.params5] at hA hval hsz
  obtain ⟨v0, vs0, d0, ds0, p0, q0, hargs, rfl, rfl, h0, r0⟩ := trodAll_cons hA
  obtain ⟨rfl, rfl, rfl⟩ := trodAll_nil r0
  obtain rfl : args = #[v0] := by cases args; simp_all
  obtain ⟨rfl, rfl⟩ := trodVars_none hV
  simp only [List.append_nil] at hW'
  have hk0 := h0
  have hlt0 : ∀ x ∈ p0, x.block < W.heap.size := fun x hx => hW'.lt x (by simp [hx])
  obtain ⟨A0, n0, c0, l0, rfl, rd0, bd0⟩ := open_ops Try.underlying22 Try.underlying24 Try.underlying3 rfl rfl rfl (by kernel_rfl) (by kernel_rfl) (hval 0 22 v0 rfl rfl) h0 (fun e s he => by have := sized_slice hsz (j := 0) (t := 22) (e := 24) rfl (congrArg some he) Try.underlying22; rwa [bytes_ops] at this)
  clear hA0 hval0
  refine (walk A0 n0 c0 l0 W rd0 bd0).mono fun e W' ⟨he, hg⟩ => ?_
  subst he
  exact ⟨_, rfl, post_slices (pa := _) (pv := []) hW' hg (by simp) (fun _ _ _ => (trodAll_cons_mk (shut_bool Try.underlying4 _) trodAll_mk0)) (trodAll_cons_mk (Below.trod laidOut (by kernel_rfl) (of_decide_eq_true (by kernel_rfl)) hk0 hg hlt0) trodAll_mk0) rfl⟩

theorem over : Rows.snapSameRow.holds Try.pinned (OpenSpec.ofChange Rows.snapSameSpec) :=
  OpenClaim.holds_of_wide 5 Try.f5 rfl rfl rfl rfl rfl rfl rfl ⟨rfl, rfl, rfl, rfl, rfl⟩ rfl rfl rfl rfl rfl (by kernel_rfl) Try.func5 (by kernel_rfl)
    (of_decide_eq_true (by kernel_rfl)) (by unfold Func.isWrapper; first | (rw [if_pos (by decide +kernel)]; kernel_rfl) | (rw [if_neg (by decide +kernel)]; exact ⟨rfl, rfl⟩))
    (fun os started H enc _ => lifted os started H enc)

/-- The statement. -/
theorem proved : Rows.SnapSameSaid :=
  over
#print axioms proved
end Go.Proofs.Ytigmgeaimcglhaa.snapSame

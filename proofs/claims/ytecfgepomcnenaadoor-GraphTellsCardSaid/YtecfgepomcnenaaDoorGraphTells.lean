
/-
  PROVED: lanelaw1.GraphTells returns true, for every edges and every two numbers: an order of any edges, a ring, and whether there is a way, as the document's answer has them. The variable errors.errorType starts as the program's text lays it (the card's tie); no condition beyond the form's own reach.
-/
import Derived.Test.YtecfgepomcnenaaDoorGraphT
import Derived.Test.YtecfgepomcnenaaDoorEitherP
import Derived.Test.YtecfgepomcnenaaDoorRSort
import Derived.Test.YtecfgepomcnenaaDoorRGraph
import Derived.Test.YtecfgepomcnenaaDoorOpenE
import Derived.Test.YtecfgepomcnenaaDoorPieces
import Derived.Test.YtecfgepomcnenaaDoorDoor
import Derived.Deep.DeepCutAuto
namespace Go.Proofs.YtecfgepomcnenaaDoor.graphTells
open Go.ChangeShapes Go.WideShapes Go.ChangeAt Go.RowKit Go.Proofs.YtecfgepomcnenaaDoor

/-! ### The plain law. -/
theorem insS_len (x : Int) : ∀ l : List Int, (insS ltI x l).length ≤ l.length + 1
  | [] => by simp [insS]
  | y :: t => by
    have ih := insS_len x t
    rw [insS]
    split
    · simp; omega
    · split <;> simp
theorem sortS_ends_len (E : List (Int × Int)) : (sortS ltI (ends2 E)).length ≤ E.length * 2 := by
  rw [← named_sort]; exact namedF_len E
theorem topGo_len (E : List (Int × Int)) : ∀ (f : Nat) (left acc o : List Int), topGo E f left acc = some o → o.length = acc.length + f
  | 0, left, acc, o, h => by rw [topGo] at h; cases h; rfl
  | f + 1, left, acc, o, h => by
    rw [topGo] at h
    split at h
    · cases h
    · have := topGo_len E f _ _ _ h
      rw [List.length_append, List.length_singleton] at this; omega
theorem orderL_len {E : List (Int × Int)} (h : checkG E = 0) : (orderL E).length ≤ 120 := by
  have h60 := checkG_len h
  unfold orderL
  rw [if_neg (fun h1 => h1 h)]
  cases ht : topF E (namedF E) with
  | none => simp
  | some o =>
    have := topGo_len E _ _ _ _ ht
    have h2 := namedF_len E
    simp at this ⊢; omega
theorem orderE_some {E : List (Int × Int)} (h : checkG E = 0) {L : List Int} (ht : topF E (namedF E) = some L) : orderE E = 0 ∧ orderL E = L := by
  unfold orderE orderL
  rw [if_neg (fun h1 => h1 h), if_neg (fun h1 => h1 h), ht]
  exact ⟨rfl, rfl⟩
theorem orderE_none {E : List (Int × Int)} (h : checkG E = 0) (ht : topF E (namedF E) = none) : orderE E = 8 ∧ orderL E = [] := by
  unfold orderE orderL
  rw [if_neg (fun h1 => h1 h), if_neg (fun h1 => h1 h), ht]
  exact ⟨rfl, rfl⟩
def ringN (E : List (Int × Int)) : Int := match ringF E with | some _ => 0 | none => 5
def ringL (E : List (Int × Int)) : List Int := (ringF E).getD []
theorem orderE_bad {E : List (Int × Int)} (h : checkG E ≠ 0) : orderE E = checkG E ∧ orderL E = [] := by
  unfold orderE orderL
  rw [if_pos h, if_pos h]
  exact ⟨rfl, rfl⟩

/-! ### The walk: edges that are wrong. -/
set_option maxRecDepth 100000 in
set_option maxHeartbeats 8000000 in
theorem walk_bad (A : Option Addr) (n c : Nat) (E : List (Int × Int)) (a b : Int) (w : World) (hE : Et w) (hr : Rd w w.heap.size 2 A n (dcells E)) (hn : n ≤ 9000000000000) (hc : checkG E ≠ 0) :
    Calls Tryd.prog 4 #[.slice A n c, .int .i64 a, .int .i64 b] w fun e w' => e = .returned (.bool true) ∧ Below w.heap.size w w' := by
  have hz0 := hE.pos
  have HE := hide hE
  have CG := hide (gcheck_any A n c E w hr hn)
  have CO := hide (fun w1 (hb : Below w.heap.size w w1) => gorder_any A n c E w1 ((hr.below hb).more hb.size) hn)
  rw [(orderE_bad hc).1, (orderE_bad hc).2] at CO
  have CR := hide (fun w1 (hb : Below w.heap.size w w1) => ring_no A n c E w1 ((hr.below hb).more hb.size) hn hc)
  have CW := hide (fun w1 (hb : Below w.heap.size w w1) => reach_no A n c E a b w1 ((hr.below hb).more hb.size) hn hc)
  have CQ := hide (rgraph_any A n c E w w.heap.size hr hn)
  have CE := hide (fun w1 (hb : Below w.heap.size w w1) => error_same (checkG E) w1 ((unhide HE).below hb hz0))
  have CI := hide (fun (w1 : World) => ints_any none none 0 0 0 0 [] [] w1 Rd.nil Rd.nil (by omega))
  have TA := hide (fun w1 => rtx_any a w1)
  have TB := hide (fun w1 => rtx_any b w1)
  have q0 : (checkG E == 0) = false := by simpa using hc
  generalize txB a = ta at *
  generalize txB b = tb at *
  generalize checkG E = ev at *
  clear hE hr hc
  go_enter Tryd.func4, Tryd.ntmps4
  go_wp2_with fail
  refine (unhide CQ).mono ?_
  rintro e w1 ⟨rfl, rfl⟩
  go_wp2_with fail
  refine (unhide CG).mono ?_
  rintro e w1 ⟨rfl, hb1⟩
  have CE1 := hide (unhide CE w1 hb1)
  clear CG CQ
  go_wp2_with fail
  refine (unhide CE1).mono ?_
  rintro e w2 ⟨rfl, hb2⟩
  have hbw2 := hb1.trans (hb2.mono hb1.size)
  have CO2 := hide (unhide CO w2 hbw2)
  clear CE1 hb1 hb2 CO
  go_wp2_with fail
  refine (unhide CO2).mono ?_
  rintro e w3 ⟨v3, k3, rfl, ho3, hb3⟩
  have hbw3 := hbw2.trans (hb3.mono hbw2.size)
  obtain ⟨A3, c3, rfl⟩ := own_slice ho3
  have hk3 : k3 = 0 := by rw [← own_ilen ho3]; rfl
  subst hk3
  have hd3 := rd_own ho3
  have CE3 := hide (unhide CE w3 hbw3)
  clear CO2 hb3 hbw2 ho3
  go_wp2_with fail
  refine (unhide CE3).mono ?_
  rintro e w4 ⟨rfl, hb4⟩
  have hbw4 := hbw3.trans (hb4.mono hbw3.size)
  have hd4 := (hd3.below hb4).more hb4.size
  have CI4 := hide (ints_any A3 none 0 0 c3 0 [] [] w4 hd4 Rd.nil (by omega))
  clear CE3 hb4 hbw3 hd3
  go_wp2_with fail
  refine (unhide CI4).mono ?_
  rintro e w5 ⟨rfl, hb5⟩
  have hbw5 := hbw4.trans (hb5.mono hbw4.size)
  have CR5 := hide (unhide CR w5 hbw5)
  clear CI4 hb5 hbw4 hd4 CR
  go_wp2_with fail
  refine (unhide CR5).mono ?_
  rintro e w6 ⟨rfl, hb6⟩
  have hbw6 := hbw5.trans (hb6.mono hbw5.size)
  have CE6 := hide (unhide CE w6 hbw6)
  clear CR5 hb6 hbw5
  go_wp2_with fail
  refine (unhide CE6).mono ?_
  rintro e w7 ⟨rfl, hb7⟩
  have hbw7 := hbw6.trans (hb7.mono hbw6.size)
  have CI7 := hide (unhide CI w7)
  clear CE6 hb7 hbw6 CI
  go_wp2_with fail
  refine (unhide CI7).mono ?_
  rintro e w8 ⟨rfl, hb8⟩
  have hbw8 := hbw7.trans (hb8.mono hbw7.size)
  clear CI7 hb8 hbw7
  go_wp2_with fail
  refine (unhide TA _).mono ?_
  rintro e w9 ⟨rfl, rfl⟩
  go_wp2_with fail
  refine (unhide TB _).mono ?_
  rintro e w9 ⟨rfl, rfl⟩
  clear TA TB
  have CW8 := hide (unhide CW w8 hbw8)
  go_wp2_with fail
  refine (unhide CW8).mono ?_
  rintro e w9 ⟨rfl, hb9⟩
  have hbw9 := hbw8.trans (hb9.mono hbw8.size)
  have CE9 := hide (unhide CE w9 hbw9)
  clear CW8 hb9 hbw8 CW
  go_wp2_with fail
  refine (unhide CE9).mono ?_
  rintro e w10 ⟨rfl, hb10⟩
  have hbw10 := hbw9.trans (hb10.mono hbw9.size)
  clear CE9 hb10 hbw9
  go_wp2
  go_ret
  exact ⟨rfl, hbw10⟩

/-! ### The walk: edges that are right. -/
def GFin (w : World) (e : Ending) (w' : World) : Prop := e = .returned (.bool true) ∧ Below w.heap.size w w'
set_option maxRecDepth 100000 in
set_option maxHeartbeats 16000000 in
theorem walk_ok (A : Option Addr) (n c : Nat) (E : List (Int × Int)) (a b : Int) (w : World) (hE : Et w) (hr : Rd w w.heap.size 2 A n (dcells E)) (hn : n ≤ 9000000000000) (hc : checkG E = 0) :
    Calls Tryd.prog 4 #[.slice A n c, .int .i64 a, .int .i64 b] w (GFin w) := by
  have hz0 := hE.pos
  have HE := hide hE
  have hok := okE_of hc
  have HLE := Lib.hid hr.dlen
  have h60 : n ≤ 60 := by have := checkG_len hc; rw [hr.dlen] at this; exact this
  have HC := Lib.hid hc
  have HOK := Lib.hid hok
  have CG := hide (gcheck_any A n c E w hr hn)
  have CQ := hide (rgraph_any A n c E w w.heap.size hr hn)
  rw [hc] at CG CQ
  rw [show errV 0 = .nilIface from rfl] at CG
  have CE := hide (fun x w1 (hb : Below w.heap.size w w1) => error_same x w1 ((unhide HE).below hb hz0))
  have hrR := hide (fun w1 (hb : Below w.heap.size w w1) => (hr.below hb).more hb.size)
  have CO := hide (fun w1 (hb : Below w.heap.size w w1) => gorder_any A n c E w1 (unhide hrR w1 hb) hn)
  have CR := hide (fun w1 (hb : Below w.heap.size w w1) => ring_ok A n c E w1 (unhide hrR w1 hb) hn hc)
  have CW := hide (fun (x y : Nat) w1 (hb : Below w.heap.size w w1) => reach_ok A n c E x y w1 (unhide hrR w1 hb) hc)
  have CX := hide (fun w1 (hb : Below w.heap.size w w1) => reach_range A n c E a b w1 (unhide hrR w1 hb) hn hc)
  have TA := hide (fun w1 => rtx_any a w1)
  have TB := hide (fun w1 => rtx_any b w1)
  have CE0 := hide (fun w1 (hb : Below w.heap.size w w1) => unhide CE 0 w1 hb)
  rw [show errV 0 = .nilIface from rfl] at CE0
  clear hE hr hc hok
  go_enter Tryd.func4, Tryd.ntmps4
  go_wp2_with fail
  refine (unhide CQ).mono ?_
  rintro e w1 ⟨rfl, rfl⟩
  go_wp2_with fail
  refine (unhide CG).mono ?_
  rintro e w1 ⟨rfl, hb1⟩
  have CE1 := hide (unhide CE0 w1 hb1)
  clear CG CQ
  go_wp2_with fail
  refine (unhide CE1).mono ?_
  rintro e w2 ⟨rfl, hb2⟩
  have hbw2 := hb1.trans (hb2.mono hb1.size)
  clear CE1 hb1 hb2
  go_upto_if 37 with fail
  go_cut [9, 10] (fun s9 s10 wx => s9 = .int .i64 (orderE E) ∧ Below w.heap.size w wx ∧ ∃ A k c, s10 = .slice A k c ∧ Rd wx wx.heap.size 1 A k (cellsI (orderL E)))
  case first =>
    go_wp2
    go_loopw [12, 13] (fun s12 s13 wr => ∃ i : Nat, i ≤ n ∧ s13 = .int .i64 i ∧ wr.ownsRow w.heap.size 3 1 s12 (sortS ltI (ends2 (E.take i))).length (cellsI (sortS ltI (ends2 (E.take i)))) ∧ Below w.heap.size w wr) (fun _ s13 _ => n - (intOf s13).toNat)
    case atStart => exact ⟨0, Nat.zero_le _, rfl, World.ownsRow_nil _ _ _ _, hbw2⟩
    case round =>
      clear hbw2
      obtain ⟨i, hi, rfl, ho, hbw⟩ := hrel
      obtain ⟨As, cs, rfl⟩ := own_slice ho
      by_cases hlt : i < n
      · obtain ⟨be, oe, e, he, hbe, ho1, q0, q1⟩ := (unhide hrR wr hbw).pr (k := i) hlt
        cases he
        obtain ⟨x, y⟩ := e
        simp only at q0 q1
        have HS : Hid (sortS ltI (ends2 (E.take (i + 1))) = insS ltI y (insS ltI x (sortS ltI (ends2 (E.take i))))) := Lib.hid (by
          rw [ends2_snoc ho1, show ends2 (E.take i) ++ [(x, y).1, (x, y).2] = (ends2 (E.take i) ++ [x]) ++ [y] by simp, sortS_snoc, sortS_snoc])
        have hlen : (sortS ltI (ends2 (E.take i))).length ≤ 120 := by have := sortS_ends_len (E.take i); rw [List.length_take] at this; omega
        generalize sortS ltI (ends2 (E.take i)) = D at *
        have hl2 := insS_len x D
        have C1 := hide (rput_any As D.length cs D x wr (rd_own ho) (by omega))
        clear ho1 ho
        go_wp2_with fail
        refine (unhide C1).mono ?_
        rintro e w3 ⟨v3, rfl, ho3, hb3⟩
        have hbw3 := hbw.trans (hb3.mono hbw.size)
        obtain ⟨A3, c3, rfl⟩ := own_slice ho3
        have q1' := (hb3.cell (p := ⟨be, _, none⟩) hbe).trans q1
        have C2 := hide (rput_any A3 _ c3 (insS ltI x D) y w3 (rd_own ho3) (by omega))
        have hz3 := hbw3.size
        clear C1 hb3 ho3 q0 q1 hbw
        go_wp2_with fail
        refine (unhide C2).mono ?_
        rintro e w4 ⟨v4, rfl, ho4, hb4⟩
        have hbw4 := hbw3.trans (hb4.mono hz3)
        rw [← HS.out] at ho4
        have ho5 := own_mono ho4 hz3
        clear C2 hb4 ho4
        go_wp2
        go_roundw
        case rel => exact ⟨i + 1, by omega, by go_num, ho5, hbw4⟩
        case measure => simp [intOf]; omega
      · have hD : sortS ltI (ends2 (E.take i)) = namedF E := by rw [List.take_of_length_le (by rw [HLE.out]; omega), named_sort]
        have HD := Lib.hid hD
        have hnl : (sortS ltI (ends2 (E.take i))).length ≤ n * 2 := by rw [hD, ← HLE.out]; exact namedF_len E
        clear hD
        generalize sortS ltI (ends2 (E.take i)) = D at *
        have C := hide (rsort_any As _ cs D A n c E wr (rd_own ho) (unhide hrR wr hbw) (by omega) hn)
        clear ho
        go_wp2_with fail
        refine (unhide C).mono ?_
        rintro e w3 ⟨v3, k3, r3, L3, rfl, ho3, hcs, hb3⟩
        obtain ⟨A3, c3, rfl⟩ := own_slice ho3
        have hbw3 := hbw.trans (hb3.mono hbw.size)
        have hd3 := rd_own ho3
        rw [HD.out, rsort_top HOK.out] at hcs
        clear C hb3 ho3 hbw
        rcases hcs with ⟨ht, rfl⟩ | ⟨ht, rfl, rfl⟩
        · have HG := Lib.hid (orderE_some HC.out ht)
          clear ht
          go_wp2
          go_meet
          case rel => exact ⟨by rw [HG.out.1], hbw3, _, _, _, rfl, by rw [HG.out.2]; exact hd3⟩
        · have HG := Lib.hid (orderE_none HC.out ht)
          clear ht
          go_wp2
          go_meet
          case rel => exact ⟨by rw [HG.out.1], hbw3, _, _, _, rfl, by rw [HG.out.2]; exact hd3⟩
  case rest =>
    obtain ⟨wo, rfl⟩ : ∃ wo : World, wo = wc := ⟨_, rfl⟩
    obtain ⟨rfl, hbwc, A0, k0, c0, rfl, hd0⟩ := hcut
    clear hbw2
    have hl0 : k0 ≤ 120 := by rw [← hd0.ilen]; exact orderL_len HC.out
    have CO2 := hide (unhide CO wo hbwc)
    generalize orderE E = oe at *
    clear CO
    go_wp2_with fail
    refine (unhide CO2).mono ?_
    rintro e w3 ⟨v3, k3, rfl, ho3, hb3⟩
    have hbw3 := hbwc.trans (hb3.mono hbwc.size)
    obtain ⟨A3, c3, rfl⟩ := own_slice ho3
    have hd3 := rd_own ho3
    have hl3 : k3 ≤ 120 := by rw [← hd3.ilen]; exact orderL_len HC.out
    have hd03 := (hd0.below hb3).more hb3.size
    have CE3 := hide (unhide CE oe w3 hbw3)
    generalize orderL E = ol at *
    clear CO2 hb3 hd0 ho3 hbwc
    go_wp2_with fail
    refine (unhide CE3).mono ?_
    rintro e w4 ⟨rfl, hb4⟩
    have hbw4 := hbw3.trans (hb4.mono hbw3.size)
    have CI4 := hide (ints_any A3 A0 k3 k0 c3 c0 ol ol w4 ((hd3.below hb4).more hb4.size) ((hd03.below hb4).more hb4.size) (by omega))
    rw [decide_eq_true rfl] at CI4
    clear CE3 hb4 hd3 hd03 hbw3
    go_wp2_with fail
    refine (unhide CI4).mono ?_
    rintro e w5 ⟨rfl, hb5⟩
    have hbw5 := hbw4.trans (hb5.mono hbw4.size)
    clear CI4 hb5 hbw4
    go_upto_if 82 with fail
    go_cut [9, 11] (fun s9 s11 wx => s9 = .int .i64 (ringN E) ∧ Below w.heap.size w wx ∧ ∃ A k c, s11 = .slice A k c ∧ Rd wx wx.heap.size 1 A k (cellsI (ringL E)))
    case first =>
      have HR0 : Hid (ringF E = tryGo (ringOf E) 6 1) := Lib.hid rfl
      go_wp2
      go_loopw [9, 11, 19] (fun s9 s11 s19 wr => ∃ m r : Nat, 1 ≤ m ∧ m + r = 7 ∧ s19 = .int .i64 m ∧ Below w.heap.size w wr ∧ ((s9 = .int .i64 5 ∧ s11 = .slice none 0 0 ∧ Hid (ringF E = tryGo (ringOf E) r m)) ∨ (s9 = .int .i64 0 ∧ ∃ L A k c, s11 = .slice A k c ∧ Hid (ringF E = some L) ∧ Rd wr wr.heap.size 1 A k (cellsI L)))) (fun _ _ s19 _ => 7 - (intOf s19).toNat)
      case atStart => exact ⟨1, 6, by omega, by omega, rfl, hbw5, .inl ⟨rfl, rfl, HR0⟩⟩
      case round =>
        clear hbw5 HR0
        obtain ⟨m, r, hm1, hm7, rfl, hbw, hcs⟩ := hrel
        rcases hcs with ⟨rfl, rfl, HX⟩ | ⟨rfl, L, A6, k6, c6, rfl, HX, hd6⟩
        · by_cases hm6 : m ≤ 6
          · obtain ⟨r', rfl⟩ : ∃ r', r = r' + 1 := ⟨r - 1, by omega⟩
            have HX2 := Lib.hid (HX.out.trans (tryGo_step _ r' m))
            have CRR := hide (rring_any A n c E m hm6 hm1 hn HOK.out m [] none 0 0 wr (by omega) (by simp) Rd.nil (unhide hrR wr hbw))
            rw [rring_of E hm1] at CRR
            clear HX
            go_wp2_with fail
            refine (unhide CRR).mono ?_
            rintro e w6 ⟨hb6, hcs⟩
            have hbw6 := hbw.trans (hb6.mono hbw.size)
            clear CRR hb6 hbw
            rcases hcs with ⟨hnone, v6, rfl⟩ | ⟨L, A6, k6, c6, hsome, rfl, hd6⟩
            · have HX3 : Hid (ringF E = tryGo (ringOf E) r' (m + 1 : Nat)) := Lib.hid (by rw [HX2.out, hnone]; rfl)
              clear hnone HX2
              go_wp2
              go_roundw
              case rel => exact ⟨m + 1, r', by omega, by omega, by go_num, hbw6, .inl ⟨rfl, rfl, HX3⟩⟩
              case measure => simp [intOf]; omega
            · have HX3 : Hid (ringF E = some L) := Lib.hid (by rw [HX2.out, hsome])
              clear hsome HX2
              go_wp2
              go_roundw
              case rel => exact ⟨m + 1, r', by omega, by omega, by go_num, hbw6, .inr ⟨rfl, L, _, _, _, rfl, HX3, hd6⟩⟩
              case measure => simp [intOf]; omega
          · obtain rfl : r = 0 := by omega
            have HF : Hid (ringN E = 5 ∧ ringL E = []) := Lib.hid (by
              have h0 : ringF E = none := HX.out
              unfold ringN ringL
              rw [h0]
              exact ⟨rfl, rfl⟩)
            clear HX
            go_wp2
            go_meet
            case rel => exact ⟨by rw [HF.out.1], hbw, none, 0, 0, rfl, by rw [HF.out.2]; exact Rd.nil⟩
        · have HF : Hid (ringN E = 0 ∧ ringL E = L) := Lib.hid (by
            unfold ringN ringL
            rw [HX.out]
            exact ⟨rfl, rfl⟩)
          clear HX
          by_cases hm6 : m ≤ 6
          · go_wp2
            go_meet
            case rel => exact ⟨by rw [HF.out.1], hbw, _, _, _, rfl, by rw [HF.out.2]; exact hd6⟩
          · go_wp2
            go_meet
            case rel => exact ⟨by rw [HF.out.1], hbw, _, _, _, rfl, by rw [HF.out.2]; exact hd6⟩
    case rest =>
      obtain ⟨rfl, hbw6, A6, k6, c6, rfl, hd6⟩ := hcut
      have CR6 := hide (unhide CR wc hbw6)
      clear CR hbw5
      go_wp2_with fail
      refine (unhide CR6).mono ?_
      rintro e w7 ⟨hb7, hcs⟩
      have hbw7 := hbw6.trans (hb7.mono hbw6.size)
      have hd67 := (hd6.below hb7).more hb7.size
      have hu : ∃ A7 k7 c7, e = .returned (.tuple #[.slice A7 k7 c7, errV (ringN E)]) ∧ Rd w7 w7.heap.size 1 A7 k7 (cellsI (ringL E)) ∧ k7 ≤ 6 := by
        rcases hcs with ⟨hnone, rfl⟩ | ⟨L, a7, k7, c7, hsome, rfl, hd7⟩
        · exact ⟨none, 0, 0, by unfold ringN; rw [hnone], by unfold ringL; rw [hnone]; exact Rd.nil, by omega⟩
        · exact ⟨some a7, k7, c7, by unfold ringN; rw [hsome]; rfl, by unfold ringL; rw [hsome]; exact hd7, by rw [← hd7.ilen]; exact (ringE_len (ringF_some hsome)).2⟩
      obtain ⟨A7, k7, c7, rfl, hd7, hk7⟩ := hu
      have CE7 := hide (unhide CE (ringN E) w7 hbw7)
      generalize ringN E = rn at *
      generalize ringL E = rl at *
      clear CR6 hb7 hcs hd6 hbw6
      go_wp2_with fail
      refine (unhide CE7).mono ?_
      rintro e w8 ⟨rfl, hb8⟩
      have hbw8 := hbw7.trans (hb8.mono hbw7.size)
      have CI8 := hide (ints_any A7 A6 k7 k6 c7 c6 rl rl w8 ((hd7.below hb8).more hb8.size) ((hd67.below hb8).more hb8.size) (by omega))
      rw [decide_eq_true rfl] at CI8
      clear CE7 hb8 hd7 hd67 hbw7
      go_wp2_with fail
      refine (unhide CI8).mono ?_
      rintro e w9 ⟨rfl, hb9⟩
      have hbw9 := hbw8.trans (hb9.mono hbw8.size)
      clear CI8 hb9 hbw8
      by_cases hab : txB a = true ∧ txB b = true
      · obtain ⟨hta, htb⟩ := hab
        have hta' : 1 ≤ a ∧ a ≤ 6 := by simpa [txB] using hta
        have htb' : 1 ≤ b ∧ b ≤ 6 := by simpa [txB] using htb
        obtain ⟨p, rfl⟩ : ∃ p : Nat, a = p := ⟨a.toNat, by omega⟩
        obtain ⟨q, rfl⟩ : ∃ q : Nat, b = q := ⟨b.toNat, by omega⟩
        rw [hta] at TA
        rw [htb] at TB
        have HWR := Lib.hid (ways_reach HOK.out (a := p) (b := q) (by omega) (by omega) (by omega) (by omega))
        have hwl : (waysF E).length = 49 := by rw [waysF_eq, rwM_len, mat_len]
        have CWY := hide (rways_any A n c E w9 (unhide hrR w9 hbw9) hn HOK.out)
        have CW' := hide (fun w1 hb => unhide CW p q w1 hb (by omega) (by omega) (by omega) (by omega))
        generalize reachF E p q = rf at *
        generalize waysF E = T at *
        have qq : (rf == rf) = true := by simp
        have ja0 : (0 : Int) ≤ (p : Int) := by omega
        have ja7 : (p : Int) < 7 := by omega
        have jb0 : (0 : Int) ≤ (q : Int) := by omega
        have jb7 : (q : Int) < 7 := by omega
        clear hta htb hta' htb' CW
        go_wp2_with fail
        refine (unhide TA _).mono ?_
        rintro e w10 ⟨rfl, rfl⟩
        go_wp2_with fail
        refine (unhide TB _).mono ?_
        rintro e w10 ⟨rfl, rfl⟩
        clear TA TB
        go_wp2_with fail
        refine (unhide CWY).mono ?_
        rintro e w10 ⟨rfl, hb10⟩
        have hbw10 := hbw9.trans (hb10.mono hbw9.size)
        have hR := Blk.new w10 55 ((List.replicate 49 false).map .bool)
        have hbw11 := hbw10.alloc hbw10.size (.cells ((List.replicate 49 false).map Value.bool).toArray 55)
        have hts : ((T.map Value.bool).toArray).size = 49 := by simp [hwl]
        have hsz : (Tryd.prog.info? 55).map (·.size) = some ((T.map Value.bool).toArray).size := by rw [hts]; kernel_rfl
        have hold : ((List.replicate 49 false).map Value.bool).toArray.size = ((T.map Value.bool).toArray).size := by rw [hts]; rfl
        have hone : ((T.map Value.bool).toArray).all (·.oneCell') = true := by
          rw [Array.all_eq_true_iff_forall_mem]; intro v hv; simp at hv; rcases hv with ⟨_, rfl⟩ | ⟨_, rfl⟩ <;> rfl
        have hR9 := setRow_heap _ w10.heap.size _ (T.map Value.bool).toArray 55 _ hR
        have hbw12 := below_setRow hbw11 hbw10.size (T.map Value.bool).toArray
        have hRB : Blk _ w10.heap.size 55 (T.map .bool) := hR9
        obtain ⟨w11, hw11⟩ : ∃ w11, (w10.alloc (.cells ((List.replicate 49 false).map Value.bool).toArray 55)).setRow w10.heap.size (T.map Value.bool).toArray = w11 := ⟨_, rfl⟩
        rw [hw11] at hRB hbw12
        have HW11 := Lib.hid hw11
        have hlT := hRB.lt
        have sT := hRB.cellS (i := p * 7 + q) (v := .bool rf) (by rw [List.getElem?_map, HWR.out]; rfl)
        have CW12 := hide (unhide CW' _ hbw12)
        clear CWY hb10 hbw9 hbw10 hw11 hR9
        go_wp2_with (refine wpList_store_row rfl _ _ _ rfl w10.heap.size (T.map Value.bool).toArray rfl rfl 55 _ hR hsz hold hone ?_; change wpList _ _ _ _ _ ((w10.alloc (.cells ((List.replicate 49 false).map Value.bool).toArray 55)).setRow w10.heap.size (T.map Value.bool).toArray); rw [HW11.out])
        refine (unhide CW12).mono ?_
        rintro e w13 ⟨rfl, hb13⟩
        have hbw13 := hbw12.trans (hb13.mono hbw12.size)
        have CE13 := hide (unhide CE0 w13 hbw13)
        clear CW12 CW' hb13 hbw12 hbw11 hR hRB sT hlT
        go_wp2_with fail
        refine (unhide CE13).mono ?_
        rintro e w14 ⟨rfl, hb14⟩
        have hbw14 := hbw13.trans (hb14.mono hbw13.size)
        go_wp2
        go_ret
        exact ⟨rfl, hbw14⟩
      · have hab2 : txB a = false ∨ txB b = false := by
          cases h1 : txB a
          · exact .inl rfl
          · exact .inr (by cases h2 : txB b; rfl; exact absurd ⟨h1, h2⟩ hab)
        have CX9 := hide (unhide CX w9 hbw9 hab2)
        have CE9 := hide (fun w1 hb => unhide CE 1 w1 hb)
        have e1 : errV 1 = .iface 72 (.int .i64 1) := rfl
        rw [e1] at CX9 CE9
        clear CX CW hab e1
        generalize txB a = ta at *
        generalize txB b = tb at *
        rcases ta with _ | _ <;> rcases tb with _ | _
        case true.true => simp at hab2
        all_goals
          clear hab2
          go_wp2_with fail
          refine (unhide TA _).mono ?_
          rintro e w10 ⟨rfl, rfl⟩
          go_wp2_with fail
          refine (unhide TB _).mono ?_
          rintro e w10 ⟨rfl, rfl⟩
          clear TA TB
          go_wp2_with fail
          refine (unhide CX9).mono ?_
          rintro e w10 ⟨rfl, hb10⟩
          have hbw10 := hbw9.trans (hb10.mono hbw9.size)
          have CE10 := hide (unhide CE9 w10 hbw10)
          clear CX9 hb10
          go_wp2_with fail
          refine (unhide CE10).mono ?_
          rintro e w11 ⟨rfl, hb11⟩
          have hbw11 := hbw10.trans (hb11.mono hbw10.size)
          go_wp2
          go_ret
          exact ⟨rfl, hbw11⟩
theorem walk (A : Option Addr) (n c : Nat) (E : List (Int × Int)) (a b : Int) (w : World) (hE : Et w) (hr : Rd w w.heap.size 2 A n (dcells E)) (hn : n * 16 ≤ 140737488351232) :
    Calls Tryd.prog 4 #[.slice A n c, .int .i64 a, .int .i64 b] w fun e w' => e = .returned (.bool true) ∧ Below w.heap.size w w' := by
  by_cases hc : checkG E = 0
  · exact walk_ok A n c E a b w hE hr (by omega) hc
  · exact walk_bad A n c E a b w hE hr (by omega) hc
theorem bytes_edges : Tryd.prog.bytesOf 29 = 16 := by kernel_rfl

/-! ### The row. -/
set_option maxRecDepth 100000 in
theorem lifted (os : Os) (started : os.Started) (H : Type) (enc : TypeId × Value → H) :
    ReturnsInHanded {} Tryd.checked os 4 .any (fun w args => (Rows.graphTellsSpec.pre enc Tryd.prog Tryd.f4 [] false w args ∧ laidMetH Tryd.prog dLaid w) ∧ sizedMet enc Tryd.prog Tryd.f4 (OpenSpec.ofChange Rows.graphTellsSpec) false w args) (Rows.graphTellsSpec.post enc Tryd.prog Tryd.f4 false true false false) := by
  refine returnsInHanded_of_change_and (C := Tryd.checked) (X := fun w _ => laidMetH Tryd.prog dLaid w) (fun _ _ _ hh h => h.of_heap hh) dOwn started (by kernel_rfl) Tryd.func4
    (ChangeSpec.witness_at (enc := enc) (C := Tryd.checked) (os := os) (X := fun w _ => laidMetH Tryd.prog dLaid w) false (laidWorld os) #[.slice none 0 0, .int .i64 0, .int .i64 0] 8 rfl (by kernel_rfl) (by kernel_rfl) (by kernel_rfl) (by kernel_rfl) (by kernel_rfl) (laidWorld_met os _)) ?_
  intro W base args ds gs before hval0 hW hcnd hsz0 hL _
  have hval : ∀ (j : Nat) t v, Tryd.f4.params[j]? = some t → args[j]? = some v → Value.okWide Tryd.prog W .any base t v := hval0
  have hW' := hW
  obtain ⟨p, q, hA0, hV, rfl, hfz, hnd⟩ := hW
  have hA : DataW.TrodAll enc Tryd.prog W 0 (fun _ => true) true Tryd.f4.params.toList args.toList ds p := hA0
  have hsz : (DataW.weightsEach Tryd.prog (Tryd.f4.params.toList ++ Rows.graphTellsSpec.plain.varTypes Tryd.prog) (ds ++ gs)).all (· ≤ reachBytes) = true := hsz0
  rw [Tryd.params4] at hA hval hsz
  obtain ⟨v0, vs0, d0, ds0, p0, q0, hargs, rfl, rfl, h0, r0⟩ := trodAll_cons hA
  obtain ⟨v1, vs1, d1, ds1, p1, q1, rfl, rfl, rfl, h1, r1⟩ := trodAll_cons r0
  obtain ⟨v2, vs2, d2, ds2, p2, q2, rfl, rfl, rfl, h2, r2⟩ := trodAll_cons r1
  obtain ⟨rfl, rfl, rfl⟩ := trodAll_nil r2
  obtain rfl : args = #[v0, v1, v2] := by cases args; simp_all
  obtain ⟨rfl, rfl⟩ := trodVars_none hV
  simp only [List.append_nil] at hW'
  have hk0 := h0
  have hlt0 : ∀ x ∈ p0, x.block < W.heap.size := fun x hx => hW'.lt x (by simp [hx])
  obtain ⟨A0, n0, c0, l0, rfl, rd0, bd0⟩ := open_edges Tryd.underlying24 Tryd.underlying29 Tryd.underlying3 rfl rfl (by kernel_rfl) (by kernel_rfl) (hval 0 24 v0 rfl rfl) h0 (fun e s he => by have := sized_slice hsz (j := 0) (t := 24) (e := 29) rfl (congrArg some he) Tryd.underlying24; rwa [bytes_edges] at this)
  obtain ⟨a1, rfl, rfl, rfl, w1⟩ := open_int Tryd.underlying3 (hval 1 3 v1 rfl rfl) h1
  obtain ⟨a2, rfl, rfl, rfl, w2⟩ := open_int Tryd.underlying3 (hval 2 3 v2 rfl rfl) h2
  clear hA0 hval0
  refine (walk A0 n0 c0 l0 a1 a2 W (et_of_laid hL) rd0 bd0).mono fun e W' ⟨he, hg⟩ => ?_
  subst he
  exact ⟨_, rfl, post_slices (pa := _) (pv := []) hW' hg (by simp) (fun _ _ _ => (trodAll_cons_mk (shut_bool Tryd.underlying4 _) trodAll_mk0)) (trodAll_cons_mk (Below.trod laidOut (by kernel_rfl) (of_decide_eq_true (by kernel_rfl)) hk0 hg hlt0) (trodAll_cons_mk (shut_int Tryd.underlying3 w1) (trodAll_cons_mk (shut_int Tryd.underlying3 w2) trodAll_mk0))) rfl⟩

theorem over : Rows.GraphTellsSaid :=
  OpenClaim.holds_of_wide 4 Tryd.f4 rfl rfl rfl rfl rfl rfl rfl ⟨rfl, rfl, rfl, rfl, rfl⟩ rfl rfl rfl rfl rfl (by kernel_rfl) Tryd.func4 (by kernel_rfl)
    (of_decide_eq_true (by kernel_rfl)) (by unfold Func.isWrapper; first | (rw [if_pos (by decide +kernel)]; kernel_rfl) | (rw [if_neg (by decide +kernel)]; exact ⟨rfl, rfl⟩))
    (fun os started H enc _ => lifted os started H enc)

/-- The statement: the tied card. -/
theorem proved : Rows.GraphTellsCardSaid :=
  Claim7.holds_tied_plain_at .later [] [.handle] true _ true
    over (fun _ h => by cases h) (by kernel_rfl) (fun _ h => by cases h) graphTells_row_tie rfl ⟨rfl, rfl⟩ (by kernel_rfl) rfl
    (fun f fn hf hfn => by
      obtain rfl : f = 4 := Option.some.inj ((show Tryd.prog.funcNamed "locklane/lanelaw1.GraphTells" = some 4 by kernel_rfl).symm.trans hf) |>.symm
      obtain rfl : fn = Tryd.f4 := (Option.some.inj (Tryd.func4.symm.trans hfn)).symm
      exact ⟨by kernel_rfl, fun j t ht => by
        rw [Tryd.params4] at ht
        have hm : t ∈ [24, 3] := by have := Array.mem_of_getElem? ht; simpa using this
        have hall : ([24, 3].all fun u => !Tryd.prog.wantsStandIn u) = true := by kernel_rfl
        exact (show Tryd.prog.wantsStandIn t = false by simpa using List.all_eq_true.1 hall t hm)⟩)
    (by kernel_rfl)
#print axioms proved
end Go.Proofs.YtecfgepomcnenaaDoor.graphTells

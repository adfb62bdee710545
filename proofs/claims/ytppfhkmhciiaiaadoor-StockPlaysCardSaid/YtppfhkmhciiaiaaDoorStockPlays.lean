
/-
  PROVED: lanelaw3.StockPlays returns true, for all its arguments: anything that deals ask of a stock, and how they end: what is refused, what may be, what there is, as the law reckons it. The variable errors.errorType starts as the program's text lays it (the card's tie); no condition beyond the form's own reach.
-/
import Derived.Test.YtppfhkmhciiaiaaDoorStockArr
import Derived.Test.YtppfhkmhciiaiaaDoorRows2
import Derived.Test.YtppfhkmhciiaiaaDoorPieces
import Derived.Test.YtppfhkmhciiaiaaDoorPlay
import Derived.Test.YtppfhkmhciiaiaaDoorE1
import Derived.Deep.DeepCutAuto
import Derived.Deep.CutBlock

namespace Go.Proofs.YtppfhkmhciiaiaaDoor.stockPlays
open Go.ChangeShapes Go.WideShapes Go.ChangeAt Go.RowKit Go.Proofs.YtppfhkmhciiaiaaDoor

theorem list3 {α : Type} {l : List α} (h : l.length = 3) : ∃ a b c, l = [a, b, c] := by
  match l, h with
  | [a, b, c], _ => exact ⟨a, b, c, rfl⟩
theorem txB_nat {x : Int} (h : txB x = true) : ∃ k : Nat, x = k ∧ 1 ≤ k ∧ k ≤ 6 := by
  have h' : 1 ≤ x ∧ x ≤ 6 := by simpa [txB] using h
  exact ⟨x.toNat, by omega, by omega, by omega⟩

/-- The world in the midst: the stock, the two arrays. -/
structure Mid (w wx : World) (s b ga gt : Nat) (now : Int) (m : StM) : Prop where
  st : StW wx s b now m
  ba : Blk wx ga 29 (cellsI (arrA m))
  bt : Blk wx gt 29 (cellsI (arrT m))
  bel : Below w.heap.size w wx
theorem Mid.below {w wx wy : World} {s b ga gt : Nat} {now : Int} {m : StM} (h : Mid w wx s b ga gt now m) (hb : Below wx.heap.size wx wy) : Mid w wy s b ga gt now m :=
  ⟨h.st.grown hb, h.ba.below hb h.ba.lt, h.bt.below hb h.bt.lt, h.bel.trans (hb.mono h.bel.size)⟩
theorem Mid.far {w wx : World} {s b ga gt : Nat} {now : Int} {m : StM} (h : Mid w wx s b ga gt now m) {p : Addr} (hp : wx.heap.size ≤ p.block ∨ (ga < p.block ∧ gt < p.block ∧ s < p.block ∧ b < p.block)) (hg : w.heap.size ≤ p.block) (u : Value) : Mid w (wx.setCell p u) s b ga gt now m := by
  have h1 := h.ba.lt
  have h2 := h.bt.lt
  have h3 := h.st.blk.lt
  have h4 := h.st.map.lt
  exact ⟨⟨h.st.blk.far (by omega) u, h.st.map.set (by omega) u⟩, h.ba.far (by omega) u, h.bt.far (by omega) u, h.bel.setCell hg u⟩

theorem Mid.drewN {w wx : World} {s b ga gt : Nat} {now : Int} {m : StM} (h : Mid w wx s b ga gt now m) (q : Nat) : Mid w (wx.drewN q) s b ga gt now m := ⟨⟨h.st.blk, h.st.map⟩, h.ba, h.bt, below_drewN h.bel q⟩
theorem Mid.zero {w wx : World} {s b ga gt : Nat} {now : Int} {m : StM} (h : Mid w wx s b ga gt now m) (o3 : s < ga) (o4 : b < ga) (o5 : ga < gt) (o6 : w.heap.size ≤ ga) (d : Nat) :
    StW ((wx.setCell ⟨ga, d, none⟩ (.int .i64 0)).setCell ⟨gt, d, none⟩ (.int .i64 0)) s b now m ∧ Blk ((wx.setCell ⟨ga, d, none⟩ (.int .i64 0)).setCell ⟨gt, d, none⟩ (.int .i64 0)) ga 29 (cellsI ((arrA m).set d 0)) ∧
    Blk ((wx.setCell ⟨ga, d, none⟩ (.int .i64 0)).setCell ⟨gt, d, none⟩ (.int .i64 0)) gt 29 (cellsI ((arrT m).set d 0)) ∧ Below w.heap.size w ((wx.setCell ⟨ga, d, none⟩ (.int .i64 0)).setCell ⟨gt, d, none⟩ (.int .i64 0)) := by
  refine ⟨⟨(h.st.blk.far (p := ⟨ga, d, none⟩) (Nat.ne_of_lt o3) _).far (p := ⟨gt, d, none⟩) (Nat.ne_of_lt (Nat.lt_trans o3 o5)) _, (h.st.map.set (p := ⟨ga, d, none⟩) (Nat.ne_of_lt o4) _).set (p := ⟨gt, d, none⟩) (Nat.ne_of_lt (Nat.lt_trans o4 o5)) _⟩, ?_, ?_, (h.bel.setCell (p := ⟨ga, d, none⟩) o6 _).setCell (p := ⟨gt, d, none⟩) (Nat.le_trans o6 (Nat.le_of_lt o5)) _⟩
  · rw [cellsI, List.map_set]
    exact (h.ba.put d _).far (p := ⟨gt, d, none⟩) (Nat.ne_of_lt o5) _
  · rw [cellsI, List.map_set]
    exact (h.bt.far (p := ⟨ga, d, none⟩) (Nat.ne_of_gt o5) _).put d _

set_option maxRecDepth 100000 in
set_option maxHeartbeats 16000000 in
theorem walk (n : Int) (A : Option Addr) (k c : Nat) (w : World) (hE : Et w) (hr : RdRows w w.heap.size A k) :
    Calls Tryd.prog 3 #[.int .i64 n, .slice A k c] w fun e w' => e = .returned (.bool true) ∧ Below w.heap.size w w' := by
  have hz0 := hE.pos
  have HE := hide (fun wx ev (hb : Below w.heap.size w wx) => error_same ev wx (hE.below hb hz0))
  clear hE
  by_cases hn : n < 0 ∨ 1000000 < n
  · have CN := hide (new_bad n w hn)
    have ER := hide (unhide HE w 1 (Below.refl _ _))
    rw [show errV 1 = .iface 41 (.int .i64 1) from rfl] at ER
    rcases hn with hn | hn
    · as_aux_lemma =>
      go_enter Tryd.func3, Tryd.ntmps3
      go_wp2_with (first | (go_at_call 4; refine (unhide CN).mono ?_; rintro e w' ⟨rfl, rfl⟩) | (go_at_call 5; refine (unhide ER).mono ?_; rintro e w1 ⟨rfl, hb1⟩))
      go_ret
      exact ⟨rfl, hb1⟩
    · have hn' : ¬ n < 0 := by omega
      as_aux_lemma =>
      go_enter Tryd.func3, Tryd.ntmps3
      go_wp2_with (first | (go_at_call 4; refine (unhide CN).mono ?_; rintro e w' ⟨rfl, rfl⟩) | (go_at_call 5; refine (unhide ER).mono ?_; rintro e w1 ⟨rfl, hb1⟩))
      go_ret
      exact ⟨rfl, hb1⟩
  have HER0 := hide (fun wx (hb : Below w.heap.size w wx) => by
    have := unhide HE wx 0 hb
    rw [errV_zero] at this
    exact this)
  have HER1 := hide (fun wx (hb : Below w.heap.size w wx) => by
    have := unhide HE wx 1 hb
    rw [show errV 1 = .iface 41 (.int .i64 1) from rfl] at this
    exact this)
  have HER5 := hide (fun wx (hb : Below w.heap.size w wx) => by
    have := unhide HE wx 5 hb
    rw [show errV 5 = .iface 41 (.int .i64 5) from rfl] at this
    exact this)
  have hn0 : ¬ n < 0 := by omega
  have hn1 : ¬ 1000000 < n := by omega
  have CN := hide (new_ok n w (by omega) (by omega))
  have hi5 : Hid (SInv2 n []) := Lib.hid (SInv2.new n (by omega) (by omega))
  clear hn
  go_enter Tryd.func3, Tryd.ntmps3
  go_wp2_with fail
  refine (unhide CN).mono ?_
  rintro e w1 ⟨rfl, hst1, hb1⟩
  have ER := hide (unhide HE w1 0 hb1)
  rw [errV_zero] at ER
  go_wp2_with fail
  refine (unhide ER).mono ?_
  rintro e w2 ⟨rfl, hb2⟩
  have hst2 := hst1.grown hb2
  have hbw2 := hb1.trans (hb2.mono hb1.size)
  have hls : w.heap.size ≤ w.heap.size + 1 := Nat.le_succ _
  have hlb : w.heap.size ≤ w.heap.size := Nat.le_refl _
  have hs2 : w.heap.size + 1 < w2.heap.size := hst2.blk.lt
  have hbs2 : w.heap.size < w2.heap.size := hst2.map.lt
  clear CN ER hst1 hb1 hb2 hn0 hn1
  have hM0 : Mid w ((w2.alloc (.cells #[.int .i64 0, .int .i64 0, .int .i64 0, .int .i64 0, .int .i64 0, .int .i64 0, .int .i64 0] 29)).alloc (.cells #[.int .i64 0, .int .i64 0, .int .i64 0, .int .i64 0, .int .i64 0, .int .i64 0, .int .i64 0] 29)) (w.heap.size + 1) w.heap.size w2.heap.size (w2.heap.size + 1) n [] := by
    refine ⟨(hst2.grown ((Below.refl _ _).alloc (Nat.le_refl _) _)).grown ((Below.refl _ _).alloc (Nat.le_refl _) _), (Blk.new w2 29 (cellsI (arrA []))).alloc _, ?_, (hbw2.alloc hbw2.size _).alloc (by simp; omega) _⟩
    have := Blk.new (w2.alloc (.cells #[.int .i64 0, .int .i64 0, .int .i64 0, .int .i64 0, .int .i64 0, .int .i64 0, .int .i64 0] 29)) 29 (cellsI (arrT []))
    rw [show (w2.alloc (.cells #[.int .i64 0, .int .i64 0, .int .i64 0, .int .i64 0, .int .i64 0, .int .i64 0, .int .i64 0] 29)).heap.size = w2.heap.size + 1 by simp] at this
    exact this
  clear hst2 hbw2
  have ho1 : w.heap.size + 1 ≠ w.heap.size ∧ w.heap.size + 1 < w2.heap.size ∧ w.heap.size < w2.heap.size ∧ w2.heap.size < w2.heap.size + 1 ∧ w.heap.size ≤ w2.heap.size ∧ w.heap.size ≤ w2.heap.size + 1 := by omega
  obtain ⟨o1, o3, o4, o5, o6, o7⟩ := ho1
  clear hs2 hbs2
  go_wp2_with fail
  generalize w.heap.size + 1 = s at *
  generalize w2.heap.size + 1 = gt at *
  generalize w2.heap.size = ga at *
  go_loopw [9, 12] (fun s9 s12 wr => ∃ (i : Nat) (now : Int) (m : StM), i ≤ 80 ∧ s12 = .int .i64 i ∧ s9 = .int .i64 now ∧ Mid w wr s w.heap.size ga gt now m ∧ Hid (SInv2 now m)) (fun _ s12 _ => 80 - (intOf s12).toNat)
  case atStart => exact ⟨0, n, [], by omega, rfl, rfl, hM0, hi5⟩
  case round => as_aux_lemma =>
    clear hM0 hi5
    obtain ⟨i, now, m, hi, rfl, rfl, hM, HI⟩ := hrel
    by_cases h1 : i < k
    rotate_left
    · have hbel := hM.bel
      go_wp2
      go_ret
      exact ⟨rfl, hbel⟩
    by_cases h2 : i < 80
    rotate_left
    · have hbel := hM.bel
      go_wp2
      go_ret
      exact ⟨rfl, hbel⟩
    obtain ⟨bo, offo, rfl, hbo, hrows⟩ := hr (by omega)
    obtain ⟨A', L, C, hc, hin⟩ := hrows i h1
    clear hrows
    obtain ⟨wo, rfl⟩ : ∃ wo : World, wo = wr := ⟨_, rfl⟩
    have hwo := hM.bel.size
    go_upto_block 2 with fail
    go_cut [14] (fun s14 wx => ∃ vs : List Int, vs.length = 3 ∧ Blk wx wo.heap.size 30 (cellsI vs) ∧ Mid w wx s w.heap.size ga gt now m)
    case first => as_aux_lemma =>
      go_wp2_with fail
      go_loopw [14] (fun s14 wx => ∃ (j : Nat) (vs : List Int), j ≤ 3 ∧ s14 = .int .i64 j ∧ vs.length = 3 ∧ Blk wx wo.heap.size 30 (cellsI vs) ∧ Mid w wx s w.heap.size ga gt now m) (fun s14 _ => 3 - (intOf s14).toNat)
      case atStart => exact ⟨0, [0, 0, 0], by omega, rfl, rfl, Blk.new wo 30 (cellsI [0, 0, 0]), hM.below ((Below.refl _ _).alloc (Nat.le_refl _) _)⟩
      case round => as_aux_lemma =>
        obtain ⟨j, vs, hj, rfl, hvs, hB, hMx⟩ := hrel
        have c0 := (hMx.bel.cell (p := ⟨bo, offo + i, none⟩) hbo).trans hc
        by_cases g0 : j < L ∧ j < 3
        · obtain ⟨g1, g2⟩ := g0
          obtain ⟨b', off', rfl, hb', hx⟩ := hin (by omega)
          obtain ⟨x, hxj⟩ := hx j g1
          have c1 := (hMx.bel.cell (p := ⟨b', off' + j, none⟩) hb').trans hxj
          obtain ⟨v0, hv0⟩ : ∃ v, vs[j]? = some v := ⟨_, List.getElem?_eq_getElem (by omega)⟩
          have c2 := hB.cellS (i := j) (v := .int .i64 v0) (by rw [cellsI, List.getElem?_map, hv0]; rfl)
          have c3 := hB.frozen j
          have hfar : wr.heap.size ≤ wo.heap.size ∨ (ga < wo.heap.size ∧ gt < wo.heap.size ∧ s < wo.heap.size ∧ w.heap.size < wo.heap.size) := .inr ⟨hM.ba.lt, hM.bt.lt, hM.st.blk.lt, hM.st.map.lt⟩
          have hM2 := hMx.far (p := ⟨wo.heap.size, j, none⟩) hfar hwo (.int .i64 x)
          clear hx hxj hv0 hfar
          go_wp2
          go_roundw
          case rel => exact ⟨j + 1, vs.set j x, by omega, by go_num, by simp [hvs], by rw [cellsI, List.map_set]; exact hB.put _ _, hM2⟩
          case measure => simp [intOf]; omega
        · have hex : (j < L ∧ ¬ j < 3) ∨ ¬ j < L := by omega
          rcases hex with ⟨g1, g2⟩ | g1
          all_goals
            go_wp2_with fail
            go_meet
            case rel => exact ⟨vs, hvs, hB, hMx⟩
    case rest => as_aux_lemma =>
      obtain ⟨vs, hvs, hB, hMx⟩ := hcut
      obtain ⟨v0, v1, v2, rfl⟩ := list3 hvs
      have d0 := hB.cellS (i := 0) (v := .int .i64 v0) rfl
      have d1 := hB.cellS (i := 1) (v := .int .i64 v1) rfl
      have d2 := hB.cellS (i := 2) (v := .int .i64 v2) rfl
      have hBl := hB.lt
      have hvb : ga < wo.heap.size ∧ gt < wo.heap.size ∧ s < wo.heap.size ∧ w.heap.size < wo.heap.size := ⟨hM.ba.lt, hM.bt.lt, hM.st.blk.lt, hM.st.map.lt⟩
      clear hvs hin hc hM h1
      generalize wo.heap.size = gv at *
      clear wo
      go_wp2_with fail
      refine (rtx_any _ _).mono ?_
      obtain ⟨tb, hT⟩ : ∃ tb, txB v1 = tb := ⟨_, rfl⟩
      rw [hT]
      have HTB := Lib.hid hT
      clear hT
      rintro e w' ⟨rfl, rfl⟩
      go_upto_if 86 with fail
      go_cut [5] (fun s5 wx => ∃ e1 : Int, s5 = .int .i64 e1 ∧ Hid ((tb = true → e1 = 0) ∧ (tb = false → e1 = 1)) ∧ wx = wc)
      case first => as_aux_lemma =>
        clear HTB
        cases tb
        · go_wp2
          go_meet
          case rel => exact ⟨1, rfl, Lib.hid ⟨fun h => (by cases h), fun _ => rfl⟩, rfl⟩
        · go_wp2
          go_meet
          case rel => exact ⟨0, rfl, Lib.hid ⟨fun _ => rfl, fun h => (by cases h)⟩, rfl⟩
      case rest => as_aux_lemma =>
      obtain ⟨e1, rfl, HE0, rfl⟩ := hcut
      have HE1 : Hid ((txB v1 = true → e1 = 0) ∧ (txB v1 = false → e1 = 1)) := Lib.hid (by rw [HTB.out]; exact HE0.out)
      clear HE0 HTB
      go_wp2_with fail
      go_loop [16, 17, 18] (fun sa sb sc => ∃ (d : Nat) (lo hi : Int), 1 ≤ d ∧ d ≤ 7 ∧ sc = .int .i64 d ∧ sa = .int .i64 lo ∧ sb = .int .i64 hi ∧ Hid (lo = now - psL (arrT m) d ∧ hi = now + psL (arrA m) d)) (fun _ _ sc => 7 - (intOf sc).toNat)
      case atStart => exact ⟨1, now, now, by omega, by omega, rfl, rfl, rfl, by rw [show psL (arrT m) 1 = 0 from rfl, show psL (arrA m) 1 = 0 from rfl, Int.sub_zero, Int.add_zero]; exact Lib.hid ⟨rfl, rfl⟩⟩
      case round => as_aux_lemma =>
      obtain ⟨d, lo, hi, hd1, hd7, rfl, rfl, rfl, HLH⟩ := hrel
      by_cases hd : d ≤ 6
      · have cA := hMx.ba.cellS (i := d) (v := .int .i64 (tabA m d)) (by rw [cellsI, List.getElem?_map, arrA_get m hd1 hd]; rfl)
        have cT := hMx.bt.cellS (i := d) (v := .int .i64 (tabT m d)) (by rw [cellsI, List.getElem?_map, arrT_get m hd1 hd]; rfl)
        obtain ⟨q1, q2, q3, q4⟩ := HI.out.psB (d := d) (by omega)
        obtain ⟨q5, q6, q7, q8⟩ := HI.out.psB (d := d + 1) (by omega)
        have HQ : Hid (lo - tabT m d = now - psL (arrT m) (d + 1) ∧ hi + tabA m d = now + psL (arrA m) (d + 1)) := Lib.hid (by
          have h1 := HLH.out
          rw [psL_at (arrT_get m hd1 hd), psL_at (arrA_get m hd1 hd)]; omega)
        have hBB : 0 ≤ lo ∧ lo ≤ 1000000 ∧ 0 ≤ hi ∧ hi ≤ 1000000 ∧ 0 ≤ tabT m d ∧ tabT m d ≤ 1000000 ∧ 0 ≤ tabA m d ∧ tabA m d ≤ 1000000 := by
          have h1 := HLH.out
          have h2 := HI.out.tabs d
          have h3 := HI.out.bounds
          omega
        obtain ⟨r1, r2, r3, r4, r5, r6, r7, r8⟩ := hBB
        clear q1 q2 q3 q4 q5 q6 q7 q8 HLH
        generalize tabT m d = tt at *
        generalize tabA m d = ta at *
        go_wp2
        go_round
        case rel => exact ⟨d + 1, lo - tt, hi + ta, by omega, by omega, by go_num, rfl, rfl, HQ⟩
        case measure => simp [intOf]; omega
      obtain rfl : d = 7 := by omega
      obtain ⟨rfl, rfl⟩ : lo = now - sumT m ∧ hi = now + sumA m := by have h1 := HLH.out; have h2 := HI.out.ps; rw [h2.1, h2.2] at h1; exact h1
      clear HLH hd hd1 hd7
      obtain ⟨n1, n2, n3, n4⟩ := HI.out.bounds
      go_upto_if 105 with fail
      go_cut [8, 9] (fun s8 s9 wx => ∃ (now' : Int) (m' : StM), s8 = .bool true ∧ s9 = .int .i64 now' ∧ Mid w wx s w.heap.size ga gt now' m' ∧ Hid (SInv2 now' m'))
      case first => as_aux_lemma =>
        by_cases hv : v0 < 2
        · cases hT : txB v1
          · obtain rfl : e1 = 1 := HE1.out.2 hT
            have HBAD : Hid (txB v1 = false) := Lib.hid hT
            clear HE1 hT
            have hcs : v2 = 0 ∨ ((v2 == 0) = false ∧ v2 < -1000000) ∨ ((v2 == 0) = false ∧ ¬ v2 < -1000000 ∧ 1000000 < v2) ∨ ((v2 == 0) = false ∧ ¬ v2 < -1000000 ∧ ¬ 1000000 < v2) := by
              by_cases h0 : v2 = 0
              · exact .inl h0
              · have h0' : (v2 == 0) = false := by simpa using h0
                simp only [h0, h0', true_and, false_or]; omega
            rcases hcs with rfl | ⟨k1, k2⟩ | ⟨k1, k2, k3⟩ | ⟨k1, k2, k3⟩
            all_goals
              as_aux_lemma =>
                have CA := hide (fun dd => ask_bad s v1 dd wc (.inl HBAD.out))
                go_wp2_with (first | (go_at_call 7; refine (unhide CA _).mono ?_; rintro e w8 ⟨rfl, rfl⟩) | (go_at_call 5; refine (unhide HER1 _ hMx.bel).mono ?_; rintro e w9 ⟨rfl, hb9⟩))
                have hM9 := hMx.below hb9
                go_meet
                case rel => exact ⟨now, m, rfl, rfl, hM9, HI⟩
          obtain ⟨d, rfl, hd1, hd2⟩ := txB_nat hT
          obtain rfl : e1 = 0 := HE1.out.1 hT
          have HTX := Lib.hid hT
          clear HE1 hT
          have hdi : (0 : Int) ≤ (d : Int) := by omega
          have hdi7 : (d : Int) < 7 := by omega
          by_cases hbad : v2 = 0 ∨ v2 < -1000000 ∨ 1000000 < v2
          · have HBAD := Lib.hid hbad
            have hcs : v2 = 0 ∨ ((v2 == 0) = false ∧ v2 < -1000000) ∨ ((v2 == 0) = false ∧ ¬ v2 < -1000000 ∧ 1000000 < v2) := by
              by_cases h0 : v2 = 0
              · exact .inl h0
              · have h0' : (v2 == 0) = false := by simpa using h0
                simp only [h0, h0', true_and, false_or] at hbad ⊢; omega
            clear hbad
            rcases hcs with rfl | ⟨k1, k2⟩ | ⟨k1, k2, k3⟩
            all_goals
              as_aux_lemma =>
                have CA := hide (ask_bad s (d : Int) _ wc (.inr HBAD.out))
                go_wp2_with (first | (go_at_call 7; refine (unhide CA).mono ?_; rintro e w8 ⟨rfl, rfl⟩) | (go_at_call 5; refine (unhide HER1 _ hMx.bel).mono ?_; rintro e w9 ⟨rfl, hb9⟩))
                have hM9 := hMx.below hb9
                go_meet
                case rel => exact ⟨now, m, rfl, rfl, hM9, HI⟩
          have k0 : (v2 == 0) = false := by simp; omega
          have k1 : ¬ v2 < -1000000 := by omega
          have k2 : ¬ 1000000 < v2 := by omega
          clear hbad
          obtain ⟨t1, t2, t3, t4⟩ := HI.out.tabs d
          have cA := hMx.ba.cellS (i := d) (v := .int .i64 (tabA m d)) (by rw [cellsI, List.getElem?_map, arrA_get m hd1 hd2]; rfl)
          have cT := hMx.bt.cellS (i := d) (v := .int .i64 (tabT m d)) (by rw [cellsI, List.getElem?_map, arrT_get m hd1 hd2]; rfl)
          have zA := hMx.ba.frozen d
          have zT := hMx.bt.frozen d
          by_cases hneg : v2 < 0
          · have hnp : ¬ 0 < v2 := by omega
            by_cases hlo : now - sumT m + v2 < 0
            · have hlo' : ¬ 0 ≤ now - sumT m + v2 := by omega
              as_aux_lemma =>
                have CA := hide (ask_no s w.heap.size now m (d : Int) v2 wc hMx.st HI.out.inv.ok HTX.out (by omega) (by omega) (by omega) (.inl (by omega)))
                go_wp2_with (first | (go_at_call 7; refine (unhide CA).mono ?_; rintro e w8 ⟨rfl, hb8⟩; have hM8 := hMx.below hb8) | (go_at_call 5; refine (unhide HER0 _ hM8.bel).mono ?_; rintro e w9 ⟨rfl, hb9⟩))
                have hM9 := hM8.below hb9
                go_meet
                case rel => exact ⟨now, m, rfl, rfl, hM9, HI⟩
            · have hlo' : 0 ≤ now - sumT m + v2 := by omega
              as_aux_lemma =>
                have HY := Lib.hid (HI.out.put hd1 hd2 (d := v2) (by omega) (by omega) (by omega))
                have HARR := Lib.hid (arr_put m hd1 hd2 (tabA m d + max v2 0, tabT m d + max (-v2) 0))
                have HMX : Hid (max v2 0 = 0 ∧ max (-v2) 0 = -v2) := Lib.hid (by omega)
                have CA := hide (fun W (hs : StW W s w.heap.size now m) (hb : w.heap.size ≤ W.heap.size) => ask_yes2 s w.heap.size now m (d : Int) v2 W w.heap.size hs HI.out.inv.ok (Nat.le_refl _) hb HTX.out (by omega) (by omega) (by omega) (by omega) (by omega))
                go_upto_region 35 with fail
                have hst' : StW wc.drew s w.heap.size now m := ⟨hMx.st.blk, hMx.st.map⟩
                have hba' : Blk wc.drew ga 29 (cellsI (arrA m)) := hMx.ba
                have hbt' : Blk wc.drew gt 29 (cellsI (arrT m)) := hMx.bt
                have hbv' : Blk wc.drew gv 30 (cellsI [v0, (d : Int), v2]) := hB
                have hbe' : Below w.heap.size w wc.drew := hMx.bel.drew
                go_still_tail 10, (by kernel_rfl)
                change wpList _ _ _ _ _ wc.drew
                generalize wc.drew = wd at *
                have z' := (show Blk wd gt 29 (cellsI (arrT m)) from hbt').frozen d
                have c' := (show Blk wd gt 29 (cellsI (arrT m)) from hbt').cellS (i := d) (v := .int .i64 (tabT m d)) (by rw [cellsI, List.getElem?_map, arrT_get m hd1 hd2]; rfl)
                have hv2 := (hbv'.far (p := ⟨gt, d, none⟩) (Nat.ne_of_gt hvb.2.1) (.int .i64 (tabT m d - v2)))
                have e0 := hv2.cellS (i := 0) (v := .int .i64 v0) rfl
                have e1 := hv2.cellS (i := 1) (v := .int .i64 (d : Int)) rfl
                have e2 := hv2.cellS (i := 2) (v := .int .i64 v2) rfl
                have hs2 : StW (wd.setCell ⟨gt, d, none⟩ (.int .i64 (tabT m d - v2))) s w.heap.size now m := ⟨hst'.blk.far (p := ⟨gt, d, none⟩) (Nat.ne_of_lt (Nat.lt_trans o3 o5)) _, hst'.map.set (p := ⟨gt, d, none⟩) (Nat.ne_of_lt (Nat.lt_trans o4 o5)) _⟩
                have hbe2 : Below w.heap.size w (wd.setCell ⟨gt, d, none⟩ (.int .i64 (tabT m d - v2))) := hbe'.setCell (p := ⟨gt, d, none⟩) o7 _
                have hba2 : Blk (wd.setCell ⟨gt, d, none⟩ (.int .i64 (tabT m d - v2))) ga 29 (cellsI (arrA m)) := hba'.far (p := ⟨gt, d, none⟩) (Nat.ne_of_lt o5) _
                have hbt2 : Blk (wd.setCell ⟨gt, d, none⟩ (.int .i64 (tabT m d - v2))) gt 29 (cellsI ((arrT m).set d (tabT m d - v2))) := by rw [cellsI, List.map_set]; exact hbt'.put d _
                have CA2 := hide (unhide CA _ hs2 hbe2.size)
                have ltA := hba2.lt
                have ltT := hbt2.lt
                clear hst' hba' hbt' hbv' hbe' hMx hB CA d0 d1 d2 cA cT zA zT
                go_wp2_with (first | (go_at_call 7; refine (unhide CA2).mono ?_; rintro e w8 ⟨rfl, hs8, hb8, hk8⟩; have hbe8 := hbe2.trans hb8) | (go_at_call 5; refine (unhide HER0 _ hbe8).mono ?_; rintro e w9 ⟨rfl, hb9⟩))
                have hMM : Mid w w8 s w.heap.size ga gt now (putL m d (tabA m d + max v2 0, tabT m d + max (-v2) 0)) := by
                  refine ⟨hs8, ?_, ?_, hbe8⟩
                  · rw [HARR.out.1]
                    try simp only
                    rw [HMX.out.1]
                    rw [Int.add_zero, set_same (arrA_get m hd1 hd2)]
                    exact (hk8 ga ltA (Nat.ne_of_gt o4)).trans hba2
                  · rw [HARR.out.2]
                    try simp only
                    rw [HMX.out.2]
                    rw [← Int.sub_eq_add_neg]
                    exact (hk8 gt ltT (Nat.ne_of_gt (Nat.lt_trans o4 o5))).trans hbt2
                have hM9 := hMM.below hb9
                go_meet
                case rel => exact ⟨now, _, rfl, rfl, hM9, HY⟩
          · have hpos : 0 < v2 := by have := beq_eq_false_iff_ne.1 k0; omega
            by_cases hhi : 1000000 < now + sumA m + v2
            · have hhi' : ¬ now + sumA m + v2 ≤ 1000000 := by omega
              as_aux_lemma =>
                have CA := hide (ask_no s w.heap.size now m (d : Int) v2 wc hMx.st HI.out.inv.ok HTX.out (by omega) (by omega) (by omega) (.inr (by omega)))
                go_wp2_with (first | (go_at_call 7; refine (unhide CA).mono ?_; rintro e w8 ⟨rfl, hb8⟩; have hM8 := hMx.below hb8) | (go_at_call 5; refine (unhide HER0 _ hM8.bel).mono ?_; rintro e w9 ⟨rfl, hb9⟩))
                have hM9 := hM8.below hb9
                go_meet
                case rel => exact ⟨now, m, rfl, rfl, hM9, HI⟩
            · have hhi' : now + sumA m + v2 ≤ 1000000 := by omega
              as_aux_lemma =>
                have HY := Lib.hid (HI.out.put hd1 hd2 (d := v2) (by omega) (by omega) (by omega))
                have HARR := Lib.hid (arr_put m hd1 hd2 (tabA m d + max v2 0, tabT m d + max (-v2) 0))
                have HMX : Hid (max v2 0 = v2 ∧ max (-v2) 0 = 0) := Lib.hid (by omega)
                have CA := hide (fun W (hs : StW W s w.heap.size now m) (hb : w.heap.size ≤ W.heap.size) => ask_yes2 s w.heap.size now m (d : Int) v2 W w.heap.size hs HI.out.inv.ok (Nat.le_refl _) hb HTX.out (by omega) (by omega) (by omega) (by omega) (by omega))
                go_upto_region 38 with fail
                have hst' : StW wc.drew s w.heap.size now m := ⟨hMx.st.blk, hMx.st.map⟩
                have hba' : Blk wc.drew ga 29 (cellsI (arrA m)) := hMx.ba
                have hbt' : Blk wc.drew gt 29 (cellsI (arrT m)) := hMx.bt
                have hbv' : Blk wc.drew gv 30 (cellsI [v0, (d : Int), v2]) := hB
                have hbe' : Below w.heap.size w wc.drew := hMx.bel.drew
                go_still_tail 10, (by kernel_rfl)
                change wpList _ _ _ _ _ wc.drew
                generalize wc.drew = wd at *
                have z' := (show Blk wd ga 29 (cellsI (arrA m)) from hba').frozen d
                have c' := (show Blk wd ga 29 (cellsI (arrA m)) from hba').cellS (i := d) (v := .int .i64 (tabA m d)) (by rw [cellsI, List.getElem?_map, arrA_get m hd1 hd2]; rfl)
                have hv2 := (hbv'.far (p := ⟨ga, d, none⟩) (Nat.ne_of_gt hvb.1) (.int .i64 (tabA m d + v2)))
                have e0 := hv2.cellS (i := 0) (v := .int .i64 v0) rfl
                have e1 := hv2.cellS (i := 1) (v := .int .i64 (d : Int)) rfl
                have e2 := hv2.cellS (i := 2) (v := .int .i64 v2) rfl
                have hs2 : StW (wd.setCell ⟨ga, d, none⟩ (.int .i64 (tabA m d + v2))) s w.heap.size now m := ⟨hst'.blk.far (p := ⟨ga, d, none⟩) (Nat.ne_of_lt o3) _, hst'.map.set (p := ⟨ga, d, none⟩) (Nat.ne_of_lt o4) _⟩
                have hbe2 : Below w.heap.size w (wd.setCell ⟨ga, d, none⟩ (.int .i64 (tabA m d + v2))) := hbe'.setCell (p := ⟨ga, d, none⟩) o6 _
                have hba2 : Blk (wd.setCell ⟨ga, d, none⟩ (.int .i64 (tabA m d + v2))) ga 29 (cellsI ((arrA m).set d (tabA m d + v2))) := by rw [cellsI, List.map_set]; exact hba'.put d _
                have hbt2 : Blk (wd.setCell ⟨ga, d, none⟩ (.int .i64 (tabA m d + v2))) gt 29 (cellsI (arrT m)) := hbt'.far (p := ⟨ga, d, none⟩) (Nat.ne_of_gt o5) _
                have CA2 := hide (unhide CA _ hs2 hbe2.size)
                have ltA := hba2.lt
                have ltT := hbt2.lt
                clear hst' hba' hbt' hbv' hbe' hMx hB CA d0 d1 d2 cA cT zA zT
                go_wp2_with (first | (go_at_call 7; refine (unhide CA2).mono ?_; rintro e w8 ⟨rfl, hs8, hb8, hk8⟩; have hbe8 := hbe2.trans hb8) | (go_at_call 5; refine (unhide HER0 _ hbe8).mono ?_; rintro e w9 ⟨rfl, hb9⟩))
                have hMM : Mid w w8 s w.heap.size ga gt now (putL m d (tabA m d + max v2 0, tabT m d + max (-v2) 0)) := by
                  refine ⟨hs8, ?_, ?_, hbe8⟩
                  · rw [HARR.out.1]
                    try simp only
                    rw [HMX.out.1]
                    skip
                    exact (hk8 ga ltA (Nat.ne_of_gt o4)).trans hba2
                  · rw [HARR.out.2]
                    try simp only
                    rw [HMX.out.2]
                    rw [Int.add_zero, set_same (arrT_get m hd1 hd2)]
                    exact (hk8 gt ltT (Nat.ne_of_gt (Nat.lt_trans o4 o5))).trans hbt2
                have hM9 := hMM.below hb9
                go_meet
                case rel => exact ⟨now, _, rfl, rfl, hM9, HY⟩
        · cases hT : txB v1
          · obtain rfl : e1 = 1 := HE1.out.2 hT
            have HBAD : Hid (txB v1 = false) := Lib.hid hT
            clear HE1 hT
            as_aux_lemma =>
              have CA := hide (fun cb => end_bad s v1 cb wc HBAD.out)
              go_wp2_with (first | (go_at_call 8; refine (unhide CA _).mono ?_; rintro e w8 ⟨rfl, rfl⟩) | (go_at_call 5; refine (unhide HER1 _ hMx.bel).mono ?_; rintro e w9 ⟨rfl, hb9⟩))
              have hM9 := hMx.below hb9
              go_meet
              case rel => exact ⟨now, m, rfl, rfl, hM9, HI⟩
          obtain ⟨d, rfl, hd1, hd2⟩ := txB_nat hT
          obtain rfl : e1 = 0 := HE1.out.1 hT
          have HTX := Lib.hid hT
          clear HE1 hT
          have hdi : (0 : Int) ≤ (d : Int) := by omega
          have hdi7 : (d : Int) < 7 := by omega
          obtain ⟨t1, t2, t3, t4⟩ := HI.out.tabs d
          have cA := hMx.ba.cellS (i := d) (v := .int .i64 (tabA m d)) (by rw [cellsI, List.getElem?_map, arrA_get m hd1 hd2]; rfl)
          have cT := hMx.bt.cellS (i := d) (v := .int .i64 (tabT m d)) (by rw [cellsI, List.getElem?_map, arrT_get m hd1 hd2]; rfl)
          have zA := hMx.ba.frozen d
          have zT := hMx.bt.frozen d
          by_cases hnz : tabA m d = 0 ∧ tabT m d = 0
          · have HNO := Lib.hid (HI.out.isNo hnz.1 hnz.2)
            obtain ⟨y1, y2⟩ := hnz
            rw [y1] at cA
            rw [y2] at cT
            clear y1 y2 t1 t2 t3 t4
            as_aux_lemma =>
              have CA := hide (fun cb => end_none s w.heap.size now m (d : Int) cb wc hMx.st HTX.out HNO.out)
              go_wp2_with (first | (go_at_call 8; refine (unhide CA _).mono ?_; rintro e w8 ⟨rfl, hb8⟩; have hM8 := hMx.below hb8) | (go_at_call 5; refine (unhide HER5 _ hM8.bel).mono ?_; rintro e w9 ⟨rfl, hb9⟩))
              have hM9 := hM8.below hb9
              go_meet
              case rel => exact ⟨now, m, rfl, rfl, hM9, HI⟩
          have HSO := Lib.hid (SInv2.isSome (m := m) (d := (d : Int)) (by omega))
          have hcs : (tabA m d == 0) = false ∨ ((tabA m d == 0) = true ∧ (tabT m d == 0) = false) := by
            by_cases h0 : tabA m d = 0
            · right; refine ⟨by simpa using h0, ?_⟩
              have : ¬ tabT m d = 0 := fun e => hnz ⟨h0, e⟩
              simpa using this
            · left; simpa using h0
          clear hnz
          have HARR := Lib.hid (arr_del HI.out.inv.nd hd1 hd2)
          have HDEL := hide (fun c => HI.out.del HSO.out c)
          have CA := hide (fun W cb (hs : StW W s w.heap.size now m) (hb : w.heap.size ≤ W.heap.size) => end_some2 s w.heap.size now m (d : Int) cb (tabA m d) (tabT m d) W w.heap.size hs (Nat.le_of_lt (Nat.lt_of_le_of_ne (by omega) (Ne.symm o1))) (Nat.le_refl _) hb HTX.out HSO.out (by omega) (by omega) (by omega) (by omega) (by omega) (by omega))
          have b1 : 0 ≤ now := by omega
          have b2 : now + tabA m d ≤ 1000000 := by omega
          have b3 : tabT m d ≤ now := by omega
          have HENT : Hid (endNow now true (tabA m d, tabT m d) = now + tabA m d - tabT m d) := Lib.hid (by simp [endNow]; omega)
          have HENF : Hid (endNow now false (tabA m d, tabT m d) = now) := Lib.hid rfl
          by_cases hc2 : v0 = 2
          · subst hc2
            have HY := Lib.hid (HDEL.out true)
            rw [HENT.out] at HY
            have CAT := hide (fun W hs hb => CA.out W true hs hb)
            rw [HENT.out] at CAT
            clear HENT HENF HDEL CA
            rcases hcs with k1 | ⟨k1, k2⟩
            all_goals
              as_aux_lemma =>
                go_upto_region 46 with fail
                go_quiet (fail)
                have hbq : Blk (wc.drewN nq) gv 30 (cellsI [2, (d : Int), v2]) := hB
                have hMq := hMx.drewN nq
                clear cA cT zA zT d0 d1 d2 hMx hB
                generalize wc.drewN nq = wq at *
                obtain ⟨hs2, hba2, hbt2, hbe2⟩ := hMq.zero o3 o4 o5 o6 d
                have ca := hMq.ba.cellS (i := d) (v := .int .i64 (tabA m d)) (by rw [cellsI, List.getElem?_map, arrA_get m hd1 hd2]; rfl)
                have za := hMq.ba.frozen d
                have e1 := hbq.cellS (i := 1) (v := .int .i64 (d : Int)) rfl
                have e0 := hbq.cellS (i := 0) (v := .int .i64 2) rfl
                have hq1 := hbq.far (p := ⟨ga, d, none⟩) (Nat.ne_of_gt hvb.1) (.int .i64 0)
                have ht1 := hMq.bt.far (p := ⟨ga, d, none⟩) (Nat.ne_of_gt o5) (.int .i64 0)
                have f1 := hq1.cellS (i := 1) (v := .int .i64 (d : Int)) rfl
                have ct := ht1.cellS (i := d) (v := .int .i64 (tabT m d)) (by rw [cellsI, List.getElem?_map, arrT_get m hd1 hd2]; rfl)
                have zt := ht1.frozen d
                have hq2 := hq1.far (p := ⟨gt, d, none⟩) (Nat.ne_of_gt hvb.2.1) (.int .i64 0)
                have g0 := hq2.cellS (i := 0) (v := .int .i64 2) rfl
                have g1 := hq2.cellS (i := 1) (v := .int .i64 (d : Int)) rfl
                have CA2 := hide (unhide CAT _ hs2 hbe2.size)
                have ltA := hba2.lt
                have ltT := hbt2.lt
                clear hq1 hq2 ht1 hbq hMq CAT
                go_wp2_with (first | (go_at_call 8; refine (unhide CA2).mono ?_; rintro e w8 ⟨rfl, hs8, hb8, hk8⟩; have hbe8 := hbe2.trans hb8) | (go_at_call 5; refine (unhide HER0 _ hbe8).mono ?_; rintro e w9 ⟨rfl, hb9⟩))
                have hMM : Mid w w8 s w.heap.size ga gt (now + tabA m d - tabT m d) (delL m d) := by
                  refine ⟨hs8, ?_, ?_, hbe8⟩
                  · rw [HARR.out.1]
                    exact (hk8 ga ltA (Nat.ne_of_gt o4) (Nat.ne_of_gt o3)).trans hba2
                  · rw [HARR.out.2]
                    exact (hk8 gt ltT (Nat.ne_of_gt (Nat.lt_trans o4 o5)) (Nat.ne_of_gt (Nat.lt_trans o3 o5))).trans hbt2
                have hM9 := hMM.below hb9
                go_meet
                case rel => exact ⟨now + tabA m d - tabT m d, _, rfl, rfl, hM9, HY⟩
          · have hc2' : (v0 == 2) = false := by simpa using hc2
            have HY := Lib.hid (HDEL.out false)
            rw [HENF.out] at HY
            have CAT := hide (fun W hs hb => CA.out W false hs hb)
            rw [HENF.out] at CAT
            clear HENT HENF HDEL CA hc2
            rcases hcs with k1 | ⟨k1, k2⟩
            all_goals
              as_aux_lemma =>
                have hbq := hB
                have hMq := hMx
                obtain ⟨hs2, hba2, hbt2, hbe2⟩ := hMq.zero o3 o4 o5 o6 d
                have ca := hMq.ba.cellS (i := d) (v := .int .i64 (tabA m d)) (by rw [cellsI, List.getElem?_map, arrA_get m hd1 hd2]; rfl)
                have za := hMq.ba.frozen d
                have e1 := hbq.cellS (i := 1) (v := .int .i64 (d : Int)) rfl
                have e0 := hbq.cellS (i := 0) (v := .int .i64 v0) rfl
                have hq1 := hbq.far (p := ⟨ga, d, none⟩) (Nat.ne_of_gt hvb.1) (.int .i64 0)
                have ht1 := hMq.bt.far (p := ⟨ga, d, none⟩) (Nat.ne_of_gt o5) (.int .i64 0)
                have f1 := hq1.cellS (i := 1) (v := .int .i64 (d : Int)) rfl
                have ct := ht1.cellS (i := d) (v := .int .i64 (tabT m d)) (by rw [cellsI, List.getElem?_map, arrT_get m hd1 hd2]; rfl)
                have zt := ht1.frozen d
                have hq2 := hq1.far (p := ⟨gt, d, none⟩) (Nat.ne_of_gt hvb.2.1) (.int .i64 0)
                have g0 := hq2.cellS (i := 0) (v := .int .i64 v0) rfl
                have g1 := hq2.cellS (i := 1) (v := .int .i64 (d : Int)) rfl
                have CA2 := hide (unhide CAT _ hs2 hbe2.size)
                have ltA := hba2.lt
                have ltT := hbt2.lt
                clear hq1 hq2 ht1 hbq hMq CAT
                go_wp2_with (first | (go_at_call 8; refine (unhide CA2).mono ?_; rintro e w8 ⟨rfl, hs8, hb8, hk8⟩; have hbe8 := hbe2.trans hb8) | (go_at_call 5; refine (unhide HER0 _ hbe8).mono ?_; rintro e w9 ⟨rfl, hb9⟩))
                have hMM : Mid w w8 s w.heap.size ga gt (now) (delL m d) := by
                  refine ⟨hs8, ?_, ?_, hbe8⟩
                  · rw [HARR.out.1]
                    exact (hk8 ga ltA (Nat.ne_of_gt o4) (Nat.ne_of_gt o3)).trans hba2
                  · rw [HARR.out.2]
                    exact (hk8 gt ltT (Nat.ne_of_gt (Nat.lt_trans o4 o5)) (Nat.ne_of_gt (Nat.lt_trans o3 o5))).trans hbt2
                have hM9 := hMM.below hb9
                go_meet
                case rel => exact ⟨now, _, rfl, rfl, hM9, HY⟩
      case rest => as_aux_lemma =>
        obtain ⟨now', m', rfl, rfl, hM', HI'⟩ := hcut
        clear HI hMx hB d0 d1 d2 HE1 n1 n2 n3 n4
        go_wp2_with fail
        go_loop [16, 17, 25] (fun sa sb sc => ∃ (d : Nat) (lo hi : Int), 1 ≤ d ∧ d ≤ 7 ∧ sc = .int .i64 d ∧ sa = .int .i64 lo ∧ sb = .int .i64 hi ∧ Hid (lo = now' - psL (arrT m') d ∧ hi = now' + psL (arrA m') d)) (fun _ _ sc => 7 - (intOf sc).toNat)
        case atStart => exact ⟨1, now', now', by omega, by omega, rfl, rfl, rfl, by rw [show psL (arrT m') 1 = 0 from rfl, show psL (arrA m') 1 = 0 from rfl, Int.sub_zero, Int.add_zero]; exact Lib.hid ⟨rfl, rfl⟩⟩
        case round => as_aux_lemma =>
        obtain ⟨d, lo, hi, hd1, hd7, rfl, rfl, rfl, HLH⟩ := hrel
        by_cases hd : d ≤ 6
        · have cA := hM'.ba.cellS (i := d) (v := .int .i64 (tabA m' d)) (by rw [cellsI, List.getElem?_map, arrA_get m' hd1 hd]; rfl)
          have cT := hM'.bt.cellS (i := d) (v := .int .i64 (tabT m' d)) (by rw [cellsI, List.getElem?_map, arrT_get m' hd1 hd]; rfl)
          obtain ⟨q1, q2, q3, q4⟩ := HI'.out.psB (d := d) (by omega)
          obtain ⟨q5, q6, q7, q8⟩ := HI'.out.psB (d := d + 1) (by omega)
          have HQ : Hid (lo - tabT m' d = now' - psL (arrT m') (d + 1) ∧ hi + tabA m' d = now' + psL (arrA m') (d + 1)) := Lib.hid (by
            have h1 := HLH.out
            rw [psL_at (arrT_get m' hd1 hd), psL_at (arrA_get m' hd1 hd)]; omega)
          have hBB : 0 ≤ lo ∧ lo ≤ 1000000 ∧ 0 ≤ hi ∧ hi ≤ 1000000 ∧ 0 ≤ tabT m' d ∧ tabT m' d ≤ 1000000 ∧ 0 ≤ tabA m' d ∧ tabA m' d ≤ 1000000 := by
            have h1 := HLH.out
            have h2 := HI'.out.tabs d
            have h3 := HI'.out.bounds
            omega
          obtain ⟨r1, r2, r3, r4, r5, r6, r7, r8⟩ := hBB
          clear q1 q2 q3 q4 q5 q6 q7 q8 HLH
          generalize tabT m' d = tt at *
          generalize tabA m' d = ta at *
          go_wp2
          go_round
          case rel => exact ⟨d + 1, lo - tt, hi + ta, by omega, by omega, by go_num, rfl, rfl, HQ⟩
          case measure => simp [intOf]; omega
        obtain rfl : d = 7 := by omega
        obtain ⟨rfl, rfl⟩ : lo = now' - sumT m' ∧ hi = now' + sumA m' := by have h1 := HLH.out; have h2 := HI'.out.ps; rw [h2.1, h2.2] at h1; exact h1
        clear HLH hd hd1 hd7
        have HR := hide (range_any s w.heap.size now' m' wc hM'.st HI'.out.inv.ok)
        go_wp2_with fail
        refine (unhide HR).mono ?_
        rintro e w10 ⟨rfl, hb10⟩
        have hM10 := hM'.below hb10
        clear hb10 HR hM'
        go_wp2_with (go_at_call 10; refine (now_any s w.heap.size now' m' _ hM10.st).mono ?_; rintro e w' ⟨rfl, rfl⟩)
        go_roundw
        case rel => exact ⟨i + 1, now', m', by omega, by go_num, rfl, hM10, HI'⟩
        case measure => simp [intOf]; omega


/-! ### The row. -/
set_option maxRecDepth 100000 in
theorem lifted (os : Os) (started : os.Started) (H : Type) (enc : TypeId × Value → H) :
    ReturnsInHanded {} Tryd.checked os 3 .any (fun w args => (Rows.stockPlaysSpec.pre enc Tryd.prog Tryd.f3 [] false w args ∧ laidMetH Tryd.prog dLaid w) ∧ sizedMet enc Tryd.prog Tryd.f3 (OpenSpec.ofChange Rows.stockPlaysSpec) false w args) (Rows.stockPlaysSpec.post enc Tryd.prog Tryd.f3 false true false false) := by
  refine returnsInHanded_of_change_and (C := Tryd.checked) (X := fun w _ => laidMetH Tryd.prog dLaid w) (fun _ _ _ hh h => h.of_heap hh) dOwn started (by kernel_rfl) Tryd.func3
    (ChangeSpec.witness_at (enc := enc) (C := Tryd.checked) (os := os) (X := fun w _ => laidMetH Tryd.prog dLaid w) false (laidWorld os) #[.int .i64 0, .slice none 0 0] 8 rfl (by kernel_rfl) (by kernel_rfl) (by kernel_rfl) (by kernel_rfl) (by kernel_rfl) (laidWorld_met os _)) ?_
  intro W base args ds gs before hval0 hW hcnd hsz0 hL _
  have hval : ∀ (j : Nat) t v, Tryd.f3.params[j]? = some t → args[j]? = some v → Value.okWide Tryd.prog W .any base t v := hval0
  have hW' := hW
  obtain ⟨p, q, hA0, hV, rfl, hfz, hnd⟩ := hW
  have hA : DataW.TrodAll enc Tryd.prog W 0 (fun _ => true) true Tryd.f3.params.toList args.toList ds p := hA0
  rw [Tryd.params3] at hA hval
  obtain ⟨v0, vs0, d0, ds0, p0, q0, hargs, rfl, rfl, h0, r0⟩ := trodAll_cons hA
  obtain ⟨v1, vs1, d1, ds1, p1, q1, rfl, rfl, rfl, h1, r1⟩ := trodAll_cons r0
  obtain ⟨rfl, rfl, rfl⟩ := trodAll_nil r1
  obtain rfl : args = #[v0, v1] := by cases args; simp_all
  obtain ⟨rfl, rfl⟩ := trodVars_none hV
  simp only [List.append_nil] at hW'
  obtain ⟨a0, rfl, rfl, rfl, w0⟩ := open_int Tryd.underlying3 (hval 0 3 v0 rfl rfl) h0
  have hk1 := h1
  have hlt1 : ∀ x ∈ p1, x.block < W.heap.size := fun x hx => hW'.lt x (by simp [hx])
  obtain ⟨A1, n1, c1, rfl, rd1⟩ := open_rows Tryd.underlying22 Tryd.underlying31 Tryd.underlying3 (by kernel_rfl) (by kernel_rfl) (hval 1 22 v1 rfl rfl) h1
  clear hA0 hval0
  refine (walk a0 A1 n1 c1 W (et_of_laid hL) rd1).mono fun e W' ⟨he, hg⟩ => ?_
  subst he
  exact ⟨_, rfl, post_slices (pa := _) (pv := []) hW' hg (by simp) (fun _ _ _ => (trodAll_cons_mk (shut_bool Tryd.underlying4 _) trodAll_mk0)) (trodAll_cons_mk (shut_int Tryd.underlying3 w0) (trodAll_cons_mk (Below.trod laidOut (by kernel_rfl) (of_decide_eq_true (by kernel_rfl)) hk1 hg hlt1) trodAll_mk0)) rfl⟩

theorem over : Rows.StockPlaysSaid :=
  OpenClaim.holds_of_wide 3 Tryd.f3 rfl rfl rfl rfl rfl rfl rfl ⟨rfl, rfl, rfl, rfl, rfl⟩ rfl rfl rfl rfl rfl (by kernel_rfl) Tryd.func3 (by kernel_rfl)
    (of_decide_eq_true (by kernel_rfl)) (by unfold Func.isWrapper; first | (rw [if_pos (by decide +kernel)]; kernel_rfl) | (rw [if_neg (by decide +kernel)]; exact ⟨rfl, rfl⟩))
    (fun os started H enc _ => lifted os started H enc)

/-- The statement: the tied card. -/
theorem proved : Rows.StockPlaysCardSaid :=
  Claim7.holds_tied_plain_at .later [] [.handle] true _ true
    over (fun _ h => by cases h) (by kernel_rfl) (fun _ h => by cases h) stockPlays_row_tie rfl ⟨rfl, rfl⟩ (by kernel_rfl) rfl
    (fun f fn hf hfn => by
      obtain rfl : f = 3 := Option.some.inj ((show Tryd.prog.funcNamed "locklane/lanelaw3.StockPlays" = some 3 by kernel_rfl).symm.trans hf) |>.symm
      obtain rfl : fn = Tryd.f3 := (Option.some.inj (Tryd.func3.symm.trans hfn)).symm
      exact ⟨by kernel_rfl, fun j t ht => by
        rw [Tryd.params3] at ht
        have hm : t ∈ [3, 22] := by have := Array.mem_of_getElem? ht; simpa using this
        have hall : ([3, 22].all fun u => !Tryd.prog.wantsStandIn u) = true := by kernel_rfl
        exact (show Tryd.prog.wantsStandIn t = false by simpa using List.all_eq_true.1 hall t hm)⟩)
    (by kernel_rfl)
#print axioms proved
end Go.Proofs.YtppfhkmhciiaiaaDoor.stockPlays

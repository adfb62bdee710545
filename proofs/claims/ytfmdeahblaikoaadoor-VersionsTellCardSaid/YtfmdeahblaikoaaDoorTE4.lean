
/-
  CONTRACT of lanelaw2.tells at a history that is not right (printed by wip/mktells.py).
  CONTRACT of laneref2.Outcome by numbers (printed by wip/mkrout2.py).
  CONTRACT of lanelaw2.tells at kind 4, at a history that is right (printed by wip/mktells.py).
-/
import Derived.Test.YtfmdeahblaikoaaDoorOutSame
import Derived.Test.YtfmdeahblaikoaaDoorN1
import Derived.Test.YtfmdeahblaikoaaDoorE1
import Derived.Test.YtfmdeahblaikoaaDoorROut
import Derived.Test.YtfmdeahblaikoaaDoorRRun4

namespace Go.Proofs.YtfmdeahblaikoaaDoor
open Go.RowKit

set_option maxRecDepth 100000 in
set_option maxHeartbeats 4000000 in
theorem tells_no (K : Int) (A : Option Addr) (n c : Nat) (h : List HOp) (w : World) (hE : Et w) (hr : Rd w w.heap.size 3 A n (cellsH h)) (hm : n ≤ 6000000000000) (hno : ¬ okH h) :
    Calls Tryd.prog 7 #[.slice A n c, .int .i64 K, .agg #[.slice none 0 0, .slice none 0 0, .slice none 0 0], errV (checkF h).2] w fun e w' => e = .returned (.bool true) ∧ Below w.heap.size w w' := by
  have hz0 := hE.pos
  have HE := hide hE
  have CR := hide (fun w1 (hb : Below w.heap.size w w1) => rright_any A n c h w1 ((hr.below hb).more hb.size) hm)
  have hne : (checkF h).2 ≠ 0 := hno
  generalize (checkF h).2 = ev at *
  have hne2 : (ev == 0) = false := by simpa using hne
  have hBx := Blk.new w 26 [.slice none 0 0, .slice none 0 0, .slice none 0 0]
  have hb0 : Below w.heap.size w (w.alloc (.cells #[.slice none 0 0, .slice none 0 0, .slice none 0 0] 26)) := (Below.refl _ _).alloc (Nat.le_refl _) _
  clear hr hno hne hE
  go_enter Tryd.func7, Tryd.ntmps7
  go_wp2_with fail
  refine (unhide CR _ hb0).mono ?_
  rintro e w1 ⟨rfl, hb1⟩
  have hbw1 := hb0.trans (hb1.mono (by simp))
  have hBx1 := hBx.below hb1 (by simp)
  have hBg := Blk.new w1 26 [.slice none 0 0, .slice none 0 0, .slice none 0 0]
  have hbg : Below w1.heap.size w1 (w1.alloc (.cells #[.slice none 0 0, .slice none 0 0, .slice none 0 0] 26)) := (Below.refl _ _).alloc (Nat.le_refl _) _
  have hbw2 := hbw1.trans (hbg.mono hbw1.size)
  have hBx2 := hBx1.alloc (.cells #[.slice none 0 0, .slice none 0 0, .slice none 0 0] 26)
  have ER := error_any ev ev _ ((unhide HE).below hbw2 hz0)
  rw [decide_eq_true rfl] at ER
  have HER := hide ER
  have HX := hide hBx2
  have HG := hide hBg
  clear hBx hb0 hb1 hbg hBx1 ER hBx2 hBg
  go_wp2_with fail
  refine (unhide HER).mono ?_
  rintro e w6 ⟨rfl, hb6⟩
  have hbw6 := hbw2.trans (hb6.mono hbw2.size)
  have hX6 := (unhide HX).below hb6 (unhide HX).lt
  have hG6 := (unhide HG).below hb6 (unhide HG).lt
  have y0 := hX6.cellS (i := 0) (v := .slice none 0 0) rfl
  have y1 := hX6.cellS (i := 1) (v := .slice none 0 0) rfl
  have y2 := hX6.cellS (i := 2) (v := .slice none 0 0) rfl
  have z0 := hG6.cellS (i := 0) (v := .slice none 0 0) rfl
  have z1 := hG6.cellS (i := 1) (v := .slice none 0 0) rfl
  have z2 := hG6.cellS (i := 2) (v := .slice none 0 0) rfl
  have CF := hide (outcome_true none none none none none none 0 0 0 0 0 0 0 0 0 0 0 0 [] [] [] w6 Rd.nil Rd.nil Rd.nil Rd.nil Rd.nil Rd.nil (by omega) (by omega) (by omega))
  clear hb6 hX6 hG6 HER hbw2
  go_wp2_with fail
  refine (unhide CF).mono ?_
  rintro e w7 ⟨rfl, hb7⟩
  have hbw7 := hbw6.trans (hb7.mono hbw6.size)
  go_wp2
  go_ret
  exact ⟨rfl, hbw7⟩
end Go.Proofs.YtfmdeahblaikoaaDoor


namespace Go.Proofs.YtfmdeahblaikoaaDoor
open Go.RowKit

/-- Cells of deals, one behind the other; what they saw and wrote reads so below B. -/
def DY (w : World) (B : Nat) (ys : List Value) (acc : List Dl) : Prop :=
  ys.length = acc.length * 5 ∧ ∀ k d, acc[k]? = some d → ∃ As ns cs Aw nw cw, ys[k * 5]? = some (.int .i64 d.tx) ∧ ys[k * 5 + 1]? = some (.int .i64 d.began) ∧ ys[k * 5 + 2]? = some (.int .i64 d.ended) ∧ ys[k * 5 + 3]? = some (.slice As ns cs) ∧ ys[k * 5 + 4]? = some (.slice Aw nw cw) ∧ Rd w B 3 As ns (cellsH d.seen) ∧ Rd w B 1 Aw nw (cellsI d.wrote)
theorem DY.below {w w' : World} {B : Nat} {ys : List Value} {acc : List Dl} (h : DY w B ys acc) (hb : Below B w w') : DY w' B ys acc :=
  ⟨h.1, fun k d hk => by
    obtain ⟨As, ns, cs, Aw, nw, cw, h0, h1, h2, h3, h4, h5, h6⟩ := h.2 k d hk
    exact ⟨As, ns, cs, Aw, nw, cw, h0, h1, h2, h3, h4, h5.below hb, h6.below hb⟩⟩
theorem DY.snoc {w : World} {B : Nat} {ys : List Value} {acc : List Dl} (h : DY w B ys acc) {d : Dl} {As Aw : Option Addr} {ns cs nw cw : Nat} (h5 : Rd w B 3 As ns (cellsH d.seen)) (h6 : Rd w B 1 Aw nw (cellsI d.wrote)) :
    DY w B (ys ++ [.int .i64 d.tx, .int .i64 d.began, .int .i64 d.ended, .slice As ns cs, .slice Aw nw cw]) (acc ++ [d]) := by
  refine ⟨by rw [List.length_append, List.length_append, h.1]; simp; omega, fun k e hk => ?_⟩
  rcases Nat.lt_or_ge k acc.length with hlt | hge
  · rw [List.getElem?_append_left hlt] at hk
    obtain ⟨As', ns', cs', Aw', nw', cw', a0, a1, a2, a3, a4, a5, a6⟩ := h.2 k e hk
    have hl := h.1
    refine ⟨As', ns', cs', Aw', nw', cw', ?_, ?_, ?_, ?_, ?_, a5, a6⟩
    · rw [List.getElem?_append_left (by omega)]; exact a0
    · rw [List.getElem?_append_left (by omega)]; exact a1
    · rw [List.getElem?_append_left (by omega)]; exact a2
    · rw [List.getElem?_append_left (by omega)]; exact a3
    · rw [List.getElem?_append_left (by omega)]; exact a4
  · rw [List.getElem?_append_right hge] at hk
    have hk0 : k - acc.length = 0 := by
      have := (List.getElem?_eq_some_iff.1 hk).1
      simp at this; omega
    rw [hk0] at hk
    obtain rfl : d = e := by simpa using hk
    have hl := h.1
    have hk5 : k * 5 = ys.length := by omega
    refine ⟨As, ns, cs, Aw, nw, cw, ?_, ?_, ?_, ?_, ?_, h5, h6⟩
    · rw [List.getElem?_append_right (by omega), show k * 5 - ys.length = 0 by omega]; rfl
    · rw [List.getElem?_append_right (by omega), show k * 5 + 1 - ys.length = 1 by omega]; rfl
    · rw [List.getElem?_append_right (by omega), show k * 5 + 2 - ys.length = 2 by omega]; rfl
    · rw [List.getElem?_append_right (by omega), show k * 5 + 3 - ys.length = 3 by omega]; rfl
    · rw [List.getElem?_append_right (by omega), show k * 5 + 4 - ys.length = 4 by omega]; rfl
theorem DY.drow {w : World} {B base : Nat} {A : Option Addr} {n c : Nat} {ys : List Value} {acc : List Dl} (h : DY w B ys acc) (ho : w.ownsRow base 143 5 (.slice A n c) n ys) (hB : B ≤ w.heap.size) : DRow w w.heap.size A n acc := by
  have hl := h.1
  have hr := rd_own ho
  have hrl := hr.1
  have hn : acc.length = n := by omega
  refine ⟨hn, fun k hk => ?_⟩
  have hg : acc[k]? = some (acc[k]'(by omega)) := List.getElem?_eq_getElem _
  generalize acc[k]'(by omega) = d at hg
  obtain ⟨As, ns, cs, Aw, nw, cw, a0, a1, a2, a3, a4, a5, a6⟩ := h.2 k d hg
  obtain ⟨b, off, e, hb, hc⟩ := hr.2 (by omega)
  exact ⟨b, off, d, As, ns, cs, Aw, nw, cw, e, hb, hg, hc _ _ a0, hc _ _ a1, hc _ _ a2, hc _ _ a3, hc _ _ a4, a5.more hB, a6.more hB⟩
/-- Those of numbers up to t, in order. -/
def byT (ds : List Dl) (t : Nat) : List Dl := (List.range t).flatMap fun i : Nat => ds.filter fun d => decide (d.tx = (i : Int) + 1)
theorem byT_succ (ds : List Dl) (t : Nat) : byT ds (t + 1) = byT ds t ++ ds.filter fun d => decide (d.tx = (t : Int) + 1) := by
  unfold byT
  rw [List.range_succ, List.flatMap_append, List.flatMap_singleton]
theorem byT_six (ds : List Dl) : byT ds 6 = byNumD ds := rfl
theorem filt_one {ds : List Dl} {p : Dl → Bool} {k : Nat} {d : Dl} (h : ds[k]? = some d) : (ds.take (k + 1)).filter p = (ds.take k).filter p ++ (if p d = true then [d] else []) := by
  rw [List.take_add_one, h, List.filter_append]
  congr 1
  cases hp : p d <;> simp [hp]
theorem byT_len (ds : List Dl) : ∀ t, (byT ds t).length ≤ t * ds.length
  | 0 => by simp [byT]
  | t + 1 => by
    have h1 := byT_len ds t
    have h2 := List.length_filter_le (fun d : Dl => decide (d.tx = (t : Int) + 1)) ds
    rw [byT_succ, List.length_append, Nat.succ_mul]; omega

set_option maxRecDepth 100000 in
set_option maxHeartbeats 8000000 in
theorem routN_any (A : Option Addr) (n c : Nat) (dL : List Dl) (w0 : World) (hr : DRow w0 w0.heap.size A n dL) (hn : n ≤ 6) (hd : ∀ d ∈ dL, d.seen.length ≤ 41 ∧ d.wrote.length ≤ 41 ∧ ∀ i ∈ d.wrote, 1 ≤ i ∧ i ≤ 6) :
    Calls Tryd.prog 38 #[.slice A n c, .bool true] w0 fun e w' => ∃ v1 v2 v3, e = .returned (.agg #[v1, v2, v3]) ∧ w'.ownsRow w0.heap.size 3 1 v1 (byNumD dL).length (cellsI ((byNumD dL).map (·.tx))) ∧ w'.ownsRow w0.heap.size 133 3 v2 ((byNumD dL).flatMap (·.seen)).length (cellsH ((byNumD dL).flatMap (·.seen))) ∧ w'.ownsRow w0.heap.size 3 1 v3 6 (cellsI (lastOf (byNumD dL))) ∧ Below w0.heap.size w0 w' := by
  have HR := hide (fun w1 (hb : Below w0.heap.size w0 w1) => hr.below hb)
  have HL0 := Lib.hid hr.1
  have hmk := make6
  have HDB : Hid (∀ d ∈ byNumD dL, d.seen.length ≤ 41 ∧ d.wrote.length ≤ 41 ∧ ∀ i ∈ d.wrote, 1 ≤ i ∧ i ≤ 6) := Lib.hid (fun d hm => by
    unfold byNumD at hm
    obtain ⟨t, _, h2⟩ := List.mem_flatMap.1 hm
    exact hd d (List.mem_filter.1 h2).1)
  have hb0 : Below w0.heap.size w0 (w0.alloc (.cells #[.slice none 0 0, .slice none 0 0, .slice none 0 0] 26)) := (Below.refl _ _).alloc (Nat.le_refl _) _
  have hq := Blk.new w0 26 [.slice none 0 0, .slice none 0 0, .slice none 0 0]
  clear hr hd
  go_enter Tryd.func38, Tryd.ntmps38
  go_upto_if 11 with fail
  go_cut [0] (fun s0 wx => ∃ (A' : Option Addr) (n' c' : Nat), s0 = .slice A' n' c' ∧ n' ≤ 41 ∧ DRow wx wx.heap.size A' n' (byNumD dL) ∧ Blk wx w0.heap.size 26 [.slice none 0 0, .slice none 0 0, .slice none 0 0] ∧ Below w0.heap.size w0 wx)
  case first =>
    go_wp2
    go_loopw [5, 6, 7] (fun s5 s6 _ wr => ∃ (t m : Nat) (ys : List Value), t ≤ 6 ∧ s6 = .int .i64 ((t : Int) + 1) ∧ wr.ownsRow (w0.heap.size + 1) 143 5 s5 m ys ∧ DY wr w0.heap.size ys (byT dL t) ∧ m ≤ t * 6 ∧ Blk wr w0.heap.size 26 [.slice none 0 0, .slice none 0 0, .slice none 0 0] ∧ Below w0.heap.size w0 wr) (fun _ s6 _ _ => 7 - (intOf s6).toNat)
    case atStart => exact ⟨0, 0, [], by omega, rfl, World.ownsRow_nil _ _ _ _, ⟨rfl, fun k d h => by cases h⟩, by omega, hq, hb0⟩
    case round =>
      clear hq hb0
      obtain ⟨t, m, ys, ht, rfl, ho, hY, hm, hQ, hbw⟩ := hrel
      obtain ⟨A5, c5, rfl⟩ := own_slice ho
      by_cases ht6 : t < 6
      · have q1 : (t : Int) + 1 ≤ 6 := by omega
        obtain ⟨T, hT⟩ : ∃ T : Int, (t : Int) + 1 = T := ⟨_, rfl⟩
        rw [hT] at q1 ⊢
        have HT := Lib.hid hT
        have hY0 : DY wr w0.heap.size ys (byT dL t ++ (dL.take 0).filter fun d => decide (d.tx = T)) := by rw [List.take_zero, List.filter_nil, List.append_nil]; exact hY
        clear hT hY
        go_wp2
        go_loopw [5, 7] (fun s5 s7 wx => ∃ (k m2 : Nat) (ys2 : List Value), k ≤ n ∧ s7 = .int .i64 k ∧ wx.ownsRow (w0.heap.size + 1) 143 5 s5 m2 ys2 ∧ DY wx w0.heap.size ys2 (byT dL t ++ (dL.take k).filter fun d => decide (d.tx = T)) ∧ m2 ≤ m + k ∧ Blk wx w0.heap.size 26 [.slice none 0 0, .slice none 0 0, .slice none 0 0] ∧ Below w0.heap.size w0 wx) (fun _ s7 _ => n - (intOf s7).toNat)
        case atStart => exact ⟨0, m, ys, Nat.zero_le _, rfl, ho, hY0, by omega, hQ, hbw⟩
        case round =>
          clear ho hY0 hQ hbw
          obtain ⟨k, m2, ys2, hk, rfl, ho, hY, hm2, hQ, hbw⟩ := hrel
          obtain ⟨A6, c6, rfl⟩ := own_slice ho
          by_cases hlt : k < n
          · obtain ⟨b, off, d, As, ns, cs, Aw, nw, cw, he, hb, hdk, c0, c1, c2x, c3, c4, h3, h4⟩ := (unhide HR wr hbw).2 k hlt
            cases he
            have HFI := Lib.hid (filt_one (p := fun d : Dl => decide (d.tx = T)) hdk)
            have hz := hbw.size
            have hql := hQ.lt
            by_cases hdt : d.tx = T
            · have tt : (d.tx == T) = true := by simp [hdt]
              have hb1 : Below w0.heap.size w0 (wr.alloc (.cells #[.int .i64 d.tx, .int .i64 d.began, .int .i64 d.ended, .slice As ns cs, .slice Aw nw cw] 143)) := hbw.alloc hz _
              have hol := ho.lt
              have HDTT := Lib.hid hdt
              clear hdk hdt
              go_wp2_with (at_builtin; (refine wpList_app rfl (.tmp 29) (.tmp 34) _ rfl (w0.heap.size + 1) slt_rdeal (n := m2) (xs := ys2) (m := 1) (news := [.int .i64 d.tx, .int .i64 d.began, .int .i64 d.ended, .slice As ns cs, .slice Aw nw cw]) rfl (own_alloc ho _) rfl (rd_new' _ _ [.int .i64 d.tx, .int .i64 d.began, .int .i64 d.ended, .slice As ns cs, .slice Aw nw cw] (by simp) rfl) (by intro u hu; simp at hu; rcases hu with rfl | rfl | rfl | rfl | rfl <;> rfl) (by omega) (by simp; omega) ?_); intro v7 w7 hown7 hg7 hb7 hat7 hne7; obtain ⟨A7, c7, rfl⟩ := own_slice hown7)
              have hb8 : Below w0.heap.size w0 w7 := hb1.trans (hb7.mono (by omega))
              have hY8 : DY w7 w0.heap.size (ys2 ++ [.int .i64 d.tx, .int .i64 d.began, .int .i64 d.ended, .slice As ns cs, .slice Aw nw cw]) (byT dL t ++ (dL.take (k + 1)).filter fun d => decide (d.tx = T)) := by
                rw [HFI.out, if_pos (decide_eq_true HDTT.out), ← List.append_assoc]
                have hbk : Below w0.heap.size wr w7 := (((Below.refl wr.heap.size wr).alloc (Nat.le_refl _) (.cells #[.int .i64 d.tx, .int .i64 d.began, .int .i64 d.ended, .slice As ns cs, .slice Aw nw cw] 143)).mono hz).trans (hb7.mono (by omega))
                exact (hY.below hbk).snoc (h3.below hbk) (h4.below hbk)
              have hQ8 := (hQ.alloc (.cells #[.int .i64 d.tx, .int .i64 d.began, .int .i64 d.ended, .slice As ns cs, .slice Aw nw cw] 143)).grown hg7 (fun j hj e => by have := (hol j hj).1; omega)
              clear hY hQ hg7 hb7 hat7 hne7 h3 h4 HFI
              go_roundw
              case rel => exact ⟨k + 1, m2 + 1, _, by omega, by go_num, hown7, hY8, by omega, hQ8, hb8⟩
              case measure => simp [intOf]; omega
            · have tt : (d.tx == T) = false := by simp [hdt]
              have hY8 : DY wr w0.heap.size ys2 (byT dL t ++ (dL.take (k + 1)).filter fun d => decide (d.tx = T)) := by
                rw [HFI.out, if_neg (by simp [hdt]), List.append_nil]; exact hY
              clear hY hdk hdt h3 h4 HFI
              go_wp2
              go_roundw
              case rel => exact ⟨k + 1, m2, ys2, by omega, by go_num, ho, hY8, by omega, hQ, hbw⟩
              case measure => simp [intOf]; omega
          · have hY8 : DY wr w0.heap.size ys2 (byT dL (t + 1)) := by
              rw [byT_succ, HT.out]
              rw [List.take_of_length_le (l := dL) (by rw [HL0.out]; omega)] at hY
              exact hY
            have hTT := HT.out
            clear hY
            go_wp2
            go_roundw
            case rel => exact ⟨t + 1, m2, ys2, by omega, by rw [← hTT]; go_num, ho, hY8, by omega, hQ, hbw⟩
            case measure => rw [← hTT]; simp [intOf]; omega
      · obtain rfl : t = 6 := by omega
        have hD6 := hY.drow ho hbw.size
        rw [byT_six] at hD6
        clear hY ho
        go_wp2
        go_meet
        case rel => exact ⟨A5, m, c5, rfl, by omega, hD6, hQ, hbw⟩
  case rest =>
    obtain ⟨A', n', c', rfl, hn41, hdr, hQ, hW0⟩ := hcut
    clear HR HL0 hb0 hq hn
    obtain ⟨w, rfl⟩ : ∃ w : World, w = wc := ⟨_, rfl⟩
    obtain ⟨gR, hg0⟩ : ∃ gR, w0.heap.size = gR := ⟨_, rfl⟩
    have hw00 : w0.heap.size ≤ w.heap.size := hW0.size
    have hg00 : w0.heap.size ≤ gR := by omega
    have HW0 := hide hW0
    have hg0l := hQ.lt
    rw [hg0] at hQ hg0l
    have hQ0 : Blk w gR 26 [.slice none 0 0, .slice none 0 0, .slice none 0 0] := hQ
    have HR := hide (fun w1 (hb : Below w.heap.size w w1) => hdr.below hb)
    have HL := Lib.hid hdr.1
    have HD := HDB
    obtain ⟨ds, hds⟩ : ∃ ds, byNumD dL = ds := ⟨_, rfl⟩
    rw [hds] at HR HL HD
    have HDN := Lib.hid hds
    clear hds
    obtain ⟨n, rfl⟩ : ∃ n, n = n' := ⟨_, rfl⟩
    obtain ⟨c, rfl⟩ : ∃ c, c = c' := ⟨_, rfl⟩
    have hn := hn41
    have hq0 := (hQ0.alloc (.cells (cellsI (List.replicate 6 0)).toArray 3)).alloc (.cells #[.slice none 0 0, .slice none 0 0, .slice (some ⟨w.heap.size, 0, none⟩) 6 6] 26)
    have hq1 := (Blk.new w 3 (cellsI (List.replicate 6 0))).alloc (.cells #[.slice none 0 0, .slice none 0 0, .slice (some ⟨w.heap.size, 0, none⟩) 6 6] 26)
    have hq2 := Blk.new (w.alloc (.cells (cellsI (List.replicate 6 0)).toArray 3)) 26 [.slice none 0 0, .slice none 0 0, .slice (some ⟨w.heap.size, 0, none⟩) 6 6]
    have hb1 : Below w.heap.size w ((w.alloc (.cells (cellsI (List.replicate 6 0)).toArray 3)).alloc (.cells #[.slice none 0 0, .slice none 0 0, .slice (some ⟨w.heap.size, 0, none⟩) 6 6] 26)) := ((Below.refl _ _).alloc (Nat.le_refl _) _).alloc (by simp) _
    rw [show (w.alloc (.cells (cellsI (List.replicate 6 0)).toArray 3)).heap.size = w.heap.size + 1 by simp] at hq2
    have HQ0 := hide hq0
    have HQ1 := hide hq1
    have HQ2 := hide hq2
    have HB0 := hide hb1
    rw [hg0]
    clear hq0 hq1 hq2 hb1 hdr hQ hW0 hQ0 HDB
    go_wp2
    clear hmk
    go_loopw [9] (fun s9 wr => ∃ (k : Nat) (v1 v2 : Value) (m : Nat), k ≤ n ∧ s9 = .int .i64 k ∧ m ≤ k * 41 ∧ Blk wr gR 26 [.slice none 0 0, .slice none 0 0, .slice none 0 0] ∧ Blk wr w.heap.size 3 (cellsI (lastOf (ds.take k))) ∧ Blk wr (w.heap.size + 1) 26 [v1, v2, .slice (some ⟨w.heap.size, 0, none⟩) 6 6] ∧ wr.ownsRow (w.heap.size + 2) 3 1 v1 k (cellsI ((ds.take k).map (·.tx))) ∧ wr.ownsRow (w.heap.size + 2) 133 3 v2 m (cellsH ((ds.take k).flatMap (·.seen))) ∧ Hid (∀ j, v1.ownBlock = some j → v2.ownBlock ≠ some j) ∧ Below w.heap.size w wr) (fun s9 _ => n - (intOf s9).toNat)
    case atStart => exact ⟨0, .slice none 0 0, .slice none 0 0, 0, Nat.zero_le _, rfl, Nat.zero_le _, unhide HQ0, unhide HQ1, unhide HQ2, World.ownsRow_nil _ _ _ _, World.ownsRow_nil _ _ _ _, Lib.hid (fun _ h => by cases h), unhide HB0⟩
    case round =>
      clear HQ0 HQ1 HQ2 HB0
      obtain ⟨k, v1, v2, m, hkn, rfl, hm, hB0, hB1, hB2, ho1, ho2, HNE, hbw⟩ := hrel
      by_cases hlt : k < n
      · obtain ⟨b, off, d, As, ns, cs, Aw, nw, cw, he, hb, hdk, c0, c1, c2x, c3, c4, h3, h4⟩ := (unhide HR wr hbw).2 k hlt
        cases he
        have HC := hide (fun w1 (hb1 : Below w.heap.size w w1) => (show w1.cell? ⟨b, off + k * 5, none⟩ = some (.int .i64 d.tx) ∧ w1.cell? ⟨b, off + k * 5 + 1, none⟩ = some (.int .i64 d.began) ∧ w1.cell? ⟨b, off + k * 5 + 2, none⟩ = some (.int .i64 d.ended) ∧ w1.cell? ⟨b, off + k * 5 + 3, none⟩ = some (.slice As ns cs) ∧ w1.cell? ⟨b, off + k * 5 + 4, none⟩ = some (.slice Aw nw cw) from by
          have e : ∀ p : Addr, p.block < w.heap.size → w1.cell? p = wr.cell? p := fun p hp => (hb1.cell hp).trans (hbw.cell hp).symm
          exact ⟨(e _ hb).trans c0, (e _ hb).trans c1, (e _ hb).trans c2x, (e _ hb).trans c3, (e _ hb).trans c4⟩))
        have HRS := hide (fun w1 (hb1 : Below w.heap.size w w1) => (show Rd w1 w1.heap.size 3 As ns (cellsH d.seen) from (h3.keep (fun p hp => (hb1.cell hp).trans (hbw.cell hp).symm)).more hb1.size))
        have HRW := hide (fun w1 (hb1 : Below w.heap.size w w1) => (show Rd w1 w.heap.size 1 Aw nw (cellsI d.wrote) from h4.keep (fun p hp => (hb1.cell hp).trans (hbw.cell hp).symm)))
        have hdm := HD.out d (List.mem_of_getElem? hdk)
        have hns : ns ≤ 41 := by rw [← h3.hlen]; exact hdm.1
        have HWI := Lib.hid hdm.2.2
        have HNW := Lib.hid h4.ilen
        have hnw : nw ≤ 41 := by rw [← h4.ilen]; exact hdm.2.1
        have HT1 : Hid (cellsI ((ds.take (k + 1)).map (·.tx)) = cellsI ((ds.take k).map (·.tx)) ++ cellsI [d.tx]) := Lib.hid (by rw [List.take_add_one, hdk]; simp [cellsI])
        have HT2 : Hid (cellsH ((ds.take (k + 1)).flatMap (·.seen)) = cellsH ((ds.take k).flatMap (·.seen)) ++ cellsH d.seen) := Lib.hid (by rw [List.take_add_one, hdk]; simp [cellsH])
        have HT3 : Hid (lastOf (ds.take (k + 1)) = setsL d.tx d.wrote (lastOf (ds.take k))) := Lib.hid (by rw [List.take_add_one, hdk]; exact lastOf_snoc _ _)
        clear c0 c1 c2x c3 c4
        obtain ⟨A1, c1, rfl⟩ := own_slice ho1
        obtain ⟨A2, c2, rfl⟩ := own_slice ho2
        have hz := hbw.size
        have hl1 := ho1.lt
        have hl2 := ho2.lt
        have hlt2 := hB2.lt
        have n2 : (0 : Int) ≤ (k : Int) := by omega
        have n3 : (k : Int) < (n : Int) := by omega
        clear hdk hdm h3 h4
        go_upto_region 16 with fail
        have hBo := hB2.drew
        have hbd := hbw.drew
        refine wp_region_noPanic ?_
        refine wp_region_till (fun w' => Blk w' (w.heap.size + 1) 26 [.slice A1 k c1, .slice A2 m c2, .slice (some ⟨w.heap.size, 0, none⟩) 6 6] ∧ Below w.heap.size w w') 10 (by kernel_rfl) ⟨hBo, hbd⟩ (fun hS0 => ?_)
        refine wpTill_take 0 [8, 1, 0] (v := .pointer (some ⟨w.heap.size + 1, 0, none⟩)) rfl (by kernel_rfl) (by kernel_rfl) (by kernel_rfl) (by kernel_rfl) (by kernel_rfl) (by kernel_rfl) (fun _ _ _ h => h) hS0 (by rfl) (fun w1 hS1 => by obtain ⟨s1, s2⟩ := hS1; have z0 := s1.cellS (i := 0) (v := .slice A1 k c1) rfl; have z1 := s1.cellS (i := 1) (v := .slice A2 m c2) rfl; obtain ⟨y0, y1, y2, y3, y4⟩ := unhide HC w1 s2; clear s1 s2; go_simp) ?_
        simp only [Act.put]
        refine wpTill_take 1 [8, 1] (v := .slice A1 k c1) rfl (by kernel_rfl) (by kernel_rfl) (by kernel_rfl) (by kernel_rfl) (by kernel_rfl) (by kernel_rfl) (fun _ _ _ h => h) hS0 (by rfl) (fun w1 hS1 => by obtain ⟨s1, s2⟩ := hS1; have z0 := s1.cellS (i := 0) (v := .slice A1 k c1) rfl; have z1 := s1.cellS (i := 1) (v := .slice A2 m c2) rfl; obtain ⟨y0, y1, y2, y3, y4⟩ := unhide HC w1 s2; clear s1 s2; go_simp) ?_
        simp only [Act.put]
        refine wpTill_take 2 [8, 7, 6, 5, 4, 2] (v := .slice (some ⟨b, off, none⟩) n c) rfl (by kernel_rfl) (by kernel_rfl) (by kernel_rfl) (by kernel_rfl) (by kernel_rfl) (by kernel_rfl) (fun _ _ _ h => h) hS0 (by rfl) (fun w1 hS1 => by obtain ⟨s1, s2⟩ := hS1; have z0 := s1.cellS (i := 0) (v := .slice A1 k c1) rfl; have z1 := s1.cellS (i := 1) (v := .slice A2 m c2) rfl; obtain ⟨y0, y1, y2, y3, y4⟩ := unhide HC w1 s2; clear s1 s2; go_simp) ?_
        simp only [Act.put]
        refine wpTill_take 3 [8, 7, 6, 5, 4, 3] (v := .int .i64 k) rfl (by kernel_rfl) (by kernel_rfl) (by kernel_rfl) (by kernel_rfl) (by kernel_rfl) (by kernel_rfl) (fun _ _ _ h => h) hS0 (by rfl) (fun w1 hS1 => by obtain ⟨s1, s2⟩ := hS1; have z0 := s1.cellS (i := 0) (v := .slice A1 k c1) rfl; have z1 := s1.cellS (i := 1) (v := .slice A2 m c2) rfl; obtain ⟨y0, y1, y2, y3, y4⟩ := unhide HC w1 s2; clear s1 s2; go_simp) ?_
        simp only [Act.put]
        refine wpTill_take 4 [8, 7, 6, 5, 4] (v := .pointer (some ⟨b, off + k * 5, none⟩)) rfl (by kernel_rfl) (by kernel_rfl) (by kernel_rfl) (by kernel_rfl) (by kernel_rfl) (by kernel_rfl) (fun _ _ _ h => h) hS0 (by rfl) (fun w1 hS1 => by obtain ⟨s1, s2⟩ := hS1; have z0 := s1.cellS (i := 0) (v := .slice A1 k c1) rfl; have z1 := s1.cellS (i := 1) (v := .slice A2 m c2) rfl; obtain ⟨y0, y1, y2, y3, y4⟩ := unhide HC w1 s2; clear s1 s2; go_simp) ?_
        simp only [Act.put]
        refine wpTill_take 5 [8, 7, 6, 5] (v := .pointer (some ⟨b, off + k * 5, none⟩)) rfl (by kernel_rfl) (by kernel_rfl) (by kernel_rfl) (by kernel_rfl) (by kernel_rfl) (by kernel_rfl) (fun _ _ _ h => h) hS0 (by rfl) (fun w1 hS1 => by obtain ⟨s1, s2⟩ := hS1; have z0 := s1.cellS (i := 0) (v := .slice A1 k c1) rfl; have z1 := s1.cellS (i := 1) (v := .slice A2 m c2) rfl; obtain ⟨y0, y1, y2, y3, y4⟩ := unhide HC w1 s2; clear s1 s2; go_simp) ?_
        simp only [Act.put]
        refine wpTill_take 6 [8, 7, 6] (v := .int .i64 d.tx) rfl (by kernel_rfl) (by kernel_rfl) (by kernel_rfl) (by kernel_rfl) (by kernel_rfl) (by kernel_rfl) (fun _ _ _ h => h) hS0 (by rfl) (fun w1 hS1 => by obtain ⟨s1, s2⟩ := hS1; have z0 := s1.cellS (i := 0) (v := .slice A1 k c1) rfl; have z1 := s1.cellS (i := 1) (v := .slice A2 m c2) rfl; obtain ⟨y0, y1, y2, y3, y4⟩ := unhide HC w1 s2; clear s1 s2; go_simp) ?_
        simp only [Act.put]
        have hOd : (wr.alloc (.cells #[.int .i64 d.tx] 3)).drew.ownsRow (w.heap.size + 2) 3 1 (.slice A1 k c1) k (cellsI ((ds.take k).map fun d : Dl => d.tx)) := own_alloc ho1 (.cells #[.int .i64 d.tx] 3)
        have hNd : Rd (wr.alloc (.cells #[.int .i64 d.tx] 3)).drew (wr.alloc (.cells #[.int .i64 d.tx] 3)).drew.heap.size 1 (some ⟨wr.heap.size, 0, none⟩) 1 (cellsI [d.tx]) := (show Rd (wr.alloc (.cells #[.int .i64 d.tx] 3)).drew (wr.heap.size + 1) 1 (some ⟨wr.heap.size, 0, none⟩) 1 (cellsI [d.tx]) from rd_new (size := 1) (n := 1) wr 3 (cellsI [d.tx]) rfl).more (by simp)
        have hbd1 := (hbw.alloc hz (.cells #[.int .i64 d.tx] 3)).drew
        have hBa := (hB2.alloc (.cells #[.int .i64 d.tx] 3)).drew
        refine wpTill_one 7 rfl (by kernel_rfl) (fun K hK => ?_)
        have HK := Lib.hid hK
        clear hK
        go_simp
        refine HK.out _ _ (fun _ => ⟨hBa, hbd1⟩) ?_
        clear HK K
        refine wpTill_one 8 rfl (by kernel_rfl) (fun K hK => ?_)
        have HK2 := Lib.hid hK
        clear hK
        refine step_app4 rfl (.tmp 46) (.tmp 52) _ rfl (w.heap.size + 2) slt_ints (n := k) (xs := cellsI ((ds.take k).map fun d : Dl => d.tx)) (m := 1) (news := cellsI [d.tx]) rfl hOd rfl hNd (oneI _) (by omega) (by simp; omega) ?_
        intro v3 w3 hown3 hg3 hb3 hat3
        obtain ⟨A3, c3, rfl⟩ := own_slice hown3
        have hbd3 : Below w.heap.size w w3 := hbd1.trans (hb3.mono (by omega))
        have q0 := hBa.grown hg3 (fun j hj e => by have := hl1 j hj; omega)
        have k0 := q0.cellS (i := 0) (v := .slice A1 k c1) rfl
        have k1 := q0.frozen 0
        refine HK2.out _ _ (fun _ => ⟨q0, hbd3⟩) ?_
        clear HK2 K
        simp only [Act.put]
        refine wpTill_one 9 rfl (by kernel_rfl) (fun K hK => ?_)
        have HK2 := Lib.hid hK
        clear hK
        go_simp
        refine HK2.out _ _ (fun _ => ⟨q0, hbd3⟩) ?_
        clear HK2 K
        refine wpTill_one 10 rfl (by kernel_rfl) (fun K hK => ?_)
        have HK2 := Lib.hid hK
        clear hK
        go_simp
        refine HK2.out _ _ (fun h => absurd rfl h) ?_
        clear HK2 K
        refine wpTill_done (by kernel_rfl) (NoPanic.normal ?_) _
        have hd0 : Below wr.heap.size wr (wr.alloc (.cells #[.int .i64 d.tx] 3)).drew := ((Below.refl _ _).alloc (Nat.le_refl _) _).drew
        have hbw3 : Below w.heap.size w (w3.setCell ⟨w.heap.size + 1, 0, none⟩ (.slice A3 (k + 1) c3)) := hbd3.setCell (p := ⟨w.heap.size + 1, 0, none⟩) (by simp) _
        have hB2' : Blk (w3.setCell ⟨w.heap.size + 1, 0, none⟩ (.slice A3 (k + 1) c3)) (w.heap.size + 1) 26 [.slice A3 (k + 1) c3, .slice A2 m c2, .slice (some ⟨w.heap.size, 0, none⟩) 6 6] := q0.put 0 (.slice A3 (k + 1) c3)
        have ho1' : (w3.setCell ⟨w.heap.size + 1, 0, none⟩ (.slice A3 (k + 1) c3)).ownsRow (w.heap.size + 2) 3 1 (.slice A3 (k + 1) c3) (k + 1) (cellsI ((ds.take (k + 1)).map (·.tx))) := own_far (by rw [HT1.out]; exact hown3) (by simp) _
        have ho2' : w3.ownsRow (w.heap.size + 2) 133 3 (.slice A2 m c2) m (cellsH ((ds.take k).flatMap (·.seen))) := (own_below ho2 hd0 (Nat.le_refl _)).kept hg3 (by
          cases hv : (Value.slice A2 m c2).ownBlock with
          | none => exact .inl rfl
          | some j => exact .inr fun e => HNE.out j e.symm hv)
        have ho2' := own_far ho2' (p := ⟨w.heap.size + 1, 0, none⟩) (by simp) (.slice A3 (k + 1) c3)
        have hB0' : Blk (w3.setCell ⟨w.heap.size + 1, 0, none⟩ (.slice A3 (k + 1) c3)) gR 26 [.slice none 0 0, .slice none 0 0, .slice none 0 0] := (((hB0.alloc (.cells #[.int .i64 d.tx] 3)).drew.grown hg3 (fun j hj e => by have := hl1 j hj; omega))).far (by show gR ≠ w.heap.size + 1; omega) _
        have hB1' : Blk (w3.setCell ⟨w.heap.size + 1, 0, none⟩ (.slice A3 (k + 1) c3)) w.heap.size 3 (cellsI (lastOf (ds.take k))) := (((hB1.alloc (.cells #[.int .i64 d.tx] 3)).drew.grown hg3 (fun j hj e => by have := hl1 j hj; omega))).far (by show w.heap.size ≠ w.heap.size + 1; omega) _
        have HNE3 : Hid (∀ j, (Value.slice A3 (k + 1) c3).ownBlock = some j → (Value.slice A2 m c2).ownBlock ≠ some j) := Lib.hid (fun j hj e => by
          rcases hat3 with h | h
          · exact HNE.out j (h.symm.trans hj) e
          · rw [h] at hj
            have := hl2 j e
            injection hj with hj
            simp at hj
            omega)
        generalize hW4 : w3.setCell ⟨w.heap.size + 1, 0, none⟩ (.slice A3 (k + 1) c3) = w4 at hbw3 hB2' ho1' ho2' hB0' hB1' ⊢
        clear hW4 q0 k0 k1 hown3 hg3 hb3 hat3 hNd hBa hOd hBo hd0 hbd hbd1 hbd3 ho1 ho2 hB0 hB1 hB2 hbw HNE hl1 hl2 hz hlt2
        have hl1 := ho1'.lt
        have hl2 := ho2'.lt
        have hz4 := hbw3.size
        have hlt2 := hB2'.lt
        go_upto_region 17 with fail
        have hBo := hB2'.drew
        have hbd := hbw3.drew
        refine wp_region_noPanic ?_
        refine wp_region_till (fun w' => Blk w' (w.heap.size + 1) 26 [.slice A3 (k + 1) c3, .slice A2 m c2, .slice (some ⟨w.heap.size, 0, none⟩) 6 6] ∧ Below w.heap.size w w') 9 (by kernel_rfl) ⟨hBo, hbd⟩ (fun hS0 => ?_)
        refine wpTill_take 0 [7, 1, 0] (v := .pointer (some ⟨w.heap.size + 1, 1, none⟩)) rfl (by kernel_rfl) (by kernel_rfl) (by kernel_rfl) (by kernel_rfl) (by kernel_rfl) (by kernel_rfl) (fun _ _ _ h => h) hS0 (by rfl) (fun w1 hS1 => by obtain ⟨s1, s2⟩ := hS1; have z0 := s1.cellS (i := 0) (v := .slice A3 (k + 1) c3) rfl; have z1 := s1.cellS (i := 1) (v := .slice A2 m c2) rfl; obtain ⟨y0, y1, y2, y3, y4⟩ := unhide HC w1 s2; clear s1 s2; go_simp) ?_
        simp only [Act.put]
        refine wpTill_take 1 [7, 1] (v := .slice A2 m c2) rfl (by kernel_rfl) (by kernel_rfl) (by kernel_rfl) (by kernel_rfl) (by kernel_rfl) (by kernel_rfl) (fun _ _ _ h => h) hS0 (by rfl) (fun w1 hS1 => by obtain ⟨s1, s2⟩ := hS1; have z0 := s1.cellS (i := 0) (v := .slice A3 (k + 1) c3) rfl; have z1 := s1.cellS (i := 1) (v := .slice A2 m c2) rfl; obtain ⟨y0, y1, y2, y3, y4⟩ := unhide HC w1 s2; clear s1 s2; go_simp) ?_
        simp only [Act.put]
        refine wpTill_take 2 [7, 6, 5, 4, 2] (v := .slice (some ⟨b, off, none⟩) n c) rfl (by kernel_rfl) (by kernel_rfl) (by kernel_rfl) (by kernel_rfl) (by kernel_rfl) (by kernel_rfl) (fun _ _ _ h => h) hS0 (by rfl) (fun w1 hS1 => by obtain ⟨s1, s2⟩ := hS1; have z0 := s1.cellS (i := 0) (v := .slice A3 (k + 1) c3) rfl; have z1 := s1.cellS (i := 1) (v := .slice A2 m c2) rfl; obtain ⟨y0, y1, y2, y3, y4⟩ := unhide HC w1 s2; clear s1 s2; go_simp) ?_
        simp only [Act.put]
        refine wpTill_take 3 [7, 6, 5, 4, 3] (v := .int .i64 k) rfl (by kernel_rfl) (by kernel_rfl) (by kernel_rfl) (by kernel_rfl) (by kernel_rfl) (by kernel_rfl) (fun _ _ _ h => h) hS0 (by rfl) (fun w1 hS1 => by obtain ⟨s1, s2⟩ := hS1; have z0 := s1.cellS (i := 0) (v := .slice A3 (k + 1) c3) rfl; have z1 := s1.cellS (i := 1) (v := .slice A2 m c2) rfl; obtain ⟨y0, y1, y2, y3, y4⟩ := unhide HC w1 s2; clear s1 s2; go_simp) ?_
        simp only [Act.put]
        refine wpTill_take 4 [7, 6, 5, 4] (v := .pointer (some ⟨b, off + k * 5, none⟩)) rfl (by kernel_rfl) (by kernel_rfl) (by kernel_rfl) (by kernel_rfl) (by kernel_rfl) (by kernel_rfl) (fun _ _ _ h => h) hS0 (by rfl) (fun w1 hS1 => by obtain ⟨s1, s2⟩ := hS1; have z0 := s1.cellS (i := 0) (v := .slice A3 (k + 1) c3) rfl; have z1 := s1.cellS (i := 1) (v := .slice A2 m c2) rfl; obtain ⟨y0, y1, y2, y3, y4⟩ := unhide HC w1 s2; clear s1 s2; go_simp) ?_
        simp only [Act.put]
        refine wpTill_take 5 [7, 6, 5] (v := .pointer (some ⟨b, off + k * 5 + 3, none⟩)) rfl (by kernel_rfl) (by kernel_rfl) (by kernel_rfl) (by kernel_rfl) (by kernel_rfl) (by kernel_rfl) (fun _ _ _ h => h) hS0 (by rfl) (fun w1 hS1 => by obtain ⟨s1, s2⟩ := hS1; have z0 := s1.cellS (i := 0) (v := .slice A3 (k + 1) c3) rfl; have z1 := s1.cellS (i := 1) (v := .slice A2 m c2) rfl; obtain ⟨y0, y1, y2, y3, y4⟩ := unhide HC w1 s2; clear s1 s2; go_simp) ?_
        simp only [Act.put]
        refine wpTill_take 6 [7, 6] (v := .slice As ns cs) rfl (by kernel_rfl) (by kernel_rfl) (by kernel_rfl) (by kernel_rfl) (by kernel_rfl) (by kernel_rfl) (fun _ _ _ h => h) hS0 (by rfl) (fun w1 hS1 => by obtain ⟨s1, s2⟩ := hS1; have z0 := s1.cellS (i := 0) (v := .slice A3 (k + 1) c3) rfl; have z1 := s1.cellS (i := 1) (v := .slice A2 m c2) rfl; obtain ⟨y0, y1, y2, y3, y4⟩ := unhide HC w1 s2; clear s1 s2; go_simp) ?_
        simp only [Act.put]
        have hOd : w4.drew.ownsRow (w.heap.size + 2) 133 3 (.slice A2 m c2) m (cellsH ((ds.take k).flatMap (·.seen))) := ho2'
        have hRd : Rd w4.drew w4.drew.heap.size 3 As ns (cellsH d.seen) := unhide HRS w4.drew hbd
        refine wpTill_one 7 rfl (by kernel_rfl) (fun K hK => ?_)
        have HK2 := Lib.hid hK
        clear hK
        refine step_app4 (v := .slice A2 m c2) (A := As) (c := cs) rfl (.tmp 56) (.tmp 61) _ rfl (w.heap.size + 2) slt_seen (n := m) (xs := cellsH ((ds.take k).flatMap fun d : Dl => d.seen)) (m := ns) (news := cellsH d.seen) (by go_simp) hOd (by go_simp) hRd (oneH _) (by omega) (by simp; omega) ?_
        intro v5 w5 hown5 hg5 hb5 hat5
        obtain ⟨A5, c5, rfl⟩ := own_slice hown5
        have hbd5 : Below w.heap.size w w5 := hbd.trans (hb5.mono (by omega))
        have q0 := hBo.grown hg5 (fun j hj e => by have := hl2 j hj; omega)
        have k0 := q0.cellS (i := 1) (v := .slice A2 m c2) rfl
        have k1 := q0.frozen 1
        refine HK2.out _ _ (fun _ => ⟨q0, hbd5⟩) ?_
        clear HK2 K
        simp only [Act.put]
        refine wpTill_one 8 rfl (by kernel_rfl) (fun K hK => ?_)
        have HK2 := Lib.hid hK
        clear hK
        go_simp
        refine HK2.out _ _ (fun _ => ⟨q0, hbd5⟩) ?_
        clear HK2 K
        refine wpTill_one 9 rfl (by kernel_rfl) (fun K hK => ?_)
        have HK2 := Lib.hid hK
        clear hK
        go_simp
        refine HK2.out _ _ (fun h => absurd rfl h) ?_
        clear HK2 K
        refine wpTill_done (by kernel_rfl) (NoPanic.normal ?_) _
        have hd4 : Below w4.heap.size w4 w4.drew := (Below.refl _ _).drew
        have hbw5 : Below w.heap.size w (w5.setCell ⟨w.heap.size + 1, 1, none⟩ (.slice A5 (m + ns) c5)) := hbd5.setCell (p := ⟨w.heap.size + 1, 1, none⟩) (by simp) _
        have hB2x : Blk (w5.setCell ⟨w.heap.size + 1, 1, none⟩ (.slice A5 (m + ns) c5)) (w.heap.size + 1) 26 [.slice A3 (k + 1) c3, .slice A5 (m + ns) c5, .slice (some ⟨w.heap.size, 0, none⟩) 6 6] := q0.put 1 (.slice A5 (m + ns) c5)
        have ho2x : (w5.setCell ⟨w.heap.size + 1, 1, none⟩ (.slice A5 (m + ns) c5)).ownsRow (w.heap.size + 2) 133 3 (.slice A5 (m + ns) c5) (m + ns) (cellsH ((ds.take (k + 1)).flatMap (·.seen))) := own_far (by rw [HT2.out]; exact hown5) (by simp) _
        have ho1x : w5.ownsRow (w.heap.size + 2) 3 1 (.slice A3 (k + 1) c3) (k + 1) (cellsI ((ds.take (k + 1)).map (·.tx))) := (own_below ho1' hd4 (Nat.le_refl _)).kept hg5 (by
          cases hv : (Value.slice A3 (k + 1) c3).ownBlock with
          | none => exact .inl rfl
          | some j => exact .inr fun e => HNE3.out j hv e.symm)
        have ho1x := own_far ho1x (p := ⟨w.heap.size + 1, 1, none⟩) (by simp) (.slice A5 (m + ns) c5)
        have hB0x : Blk (w5.setCell ⟨w.heap.size + 1, 1, none⟩ (.slice A5 (m + ns) c5)) gR 26 [.slice none 0 0, .slice none 0 0, .slice none 0 0] := (hB0'.drew.grown hg5 (fun j hj e => by have := hl2 j hj; omega)).far (by show gR ≠ w.heap.size + 1; omega) _
        have hB1x : Blk (w5.setCell ⟨w.heap.size + 1, 1, none⟩ (.slice A5 (m + ns) c5)) w.heap.size 3 (cellsI (setsL d.tx (d.wrote.take 0) (lastOf (ds.take k)))) := (hB1'.drew.grown hg5 (fun j hj e => by have := hl2 j hj; omega)).far (by show w.heap.size ≠ w.heap.size + 1; omega) _
        have HNE5 : Hid (∀ j, (Value.slice A3 (k + 1) c3).ownBlock = some j → (Value.slice A5 (m + ns) c5).ownBlock ≠ some j) := Lib.hid (fun j hj e => by
          rcases hat5 with h | h
          · exact HNE3.out j hj (h.symm.trans e)
          · rw [h] at e
            have := hl1 j hj
            injection e with e
            simp at e
            omega)
        generalize hW6 : w5.setCell ⟨w.heap.size + 1, 1, none⟩ (.slice A5 (m + ns) c5) = w6 at hbw5 hB2x ho1x ho2x hB0x hB1x ⊢
        clear hW6 q0 k0 k1 hown5 hg5 hb5 hat5 hOd hRd hBo hd4 hbd hbd5 hl1 hl2 ho1' ho2' hB0' hB1' hB2' hbw3 hz4 hlt2 HNE3
        have hm' : m + ns ≤ (k + 1) * 41 := by omega
        have HL6 : Hid (∀ j, (setsL d.tx (d.wrote.take j) (lastOf (ds.take k))).length = 6) := Lib.hid (fun j => by rw [setsL_len]; exact lastOf_len _)
        go_wp2
        go_loopw [10] (fun s10 wr => ∃ (j : Nat), j ≤ nw ∧ s10 = .int .i64 j ∧ Blk wr gR 26 [.slice none 0 0, .slice none 0 0, .slice none 0 0] ∧ Blk wr w.heap.size 3 (cellsI (setsL d.tx (d.wrote.take j) (lastOf (ds.take k)))) ∧ Blk wr (w.heap.size + 1) 26 [.slice A3 (k + 1) c3, .slice A5 (m + ns) c5, .slice (some ⟨w.heap.size, 0, none⟩) 6 6] ∧ wr.ownsRow (w.heap.size + 2) 3 1 (.slice A3 (k + 1) c3) (k + 1) (cellsI ((ds.take (k + 1)).map (·.tx))) ∧ wr.ownsRow (w.heap.size + 2) 133 3 (.slice A5 (m + ns) c5) (m + ns) (cellsH ((ds.take (k + 1)).flatMap (·.seen))) ∧ Below w.heap.size w wr) (fun s10 _ => nw - (intOf s10).toNat)
        case atStart => exact ⟨0, Nat.zero_le _, rfl, hB0x, hB1x, hB2x, ho1x, ho2x, hbw5⟩
        case round =>
          clear hB0x hB1x hB2x ho1x ho2x hbw5
          obtain ⟨j, hj, rfl, hB0, hB1, hB2, ho1, ho2, hbw⟩ := hrel
          obtain ⟨y0, y1, y2, y3, y4⟩ := unhide HC wr hbw
          by_cases hlt4 : j < nw
          · obtain ⟨b8, off8, x, he8, hb8, hx8, x0⟩ := (unhide HRW wr hbw).int (k := j) hlt4
            cases he8
            have hit := HWI.out x (List.mem_of_getElem? hx8)
            obtain ⟨jj, hjj⟩ : ∃ jj : Nat, x.toNat - 1 = jj := ⟨_, rfl⟩
            have HS2 : Hid (setsL d.tx (d.wrote.take (j + 1)) (lastOf (ds.take k)) = (setsL d.tx (d.wrote.take j) (lastOf (ds.take k))).set jj d.tx) := Lib.hid (by rw [List.take_add_one, hx8, ← hjj]; exact setsL_snoc _ _ _ _)
            obtain ⟨v, hv⟩ : ∃ v, (setsL d.tx (d.wrote.take j) (lastOf (ds.take k)))[jj]? = some v := ⟨_, List.getElem?_eq_getElem (by rw [HL6.out j]; omega)⟩
            have ev : wr.cell? ⟨w.heap.size, jj, none⟩ = some (.int .i64 v) := hB1.cellS (by rw [cellsI, List.getElem?_map, hv]; rfl)
            have fv : wr.frozen? ⟨w.heap.size, jj, none⟩ = false := hB1.frozen _
            have z2 := hB2.cellS (i := 2) (v := .slice (some ⟨w.heap.size, 0, none⟩) 6 6) rfl
            have i1 : IntKind.i64.wrap (x - 1) = (jj : Int) := by
              rw [show x - 1 = (jj : Int) by omega]; exact IntWalk.i64_in _ (by omega)
            have i2 : (0 : Int) ≤ (jj : Int) := by omega
            have i3 : (jj : Int) < 6 := by omega
            have m2 : (0 : Int) ≤ (j : Int) := by omega
            have m3 : (j : Int) < (nw : Int) := by omega
            have hne : b ≠ w.heap.size := by omega
            have hne8 : b8 ≠ w.heap.size := by omega
            have ev' : wr.drew.cell? ⟨w.heap.size, jj, none⟩ = some (.int .i64 v) := ev
            have fv' : wr.drew.frozen? ⟨w.heap.size, jj, none⟩ = false := fv
            have hs0 : (wr.drew.setCell ⟨w.heap.size, jj, none⟩ (.int .i64 d.tx)).cell? ⟨b, off + k * 5, none⟩ = some (.int .i64 d.tx) := (World.cell?_setCell_far _ _ _ _ (show w.heap.size ≠ b from fun e => hne e.symm)).trans y0
            have hs4 : (wr.drew.setCell ⟨w.heap.size, jj, none⟩ (.int .i64 d.tx)).cell? ⟨b, off + k * 5 + 4, none⟩ = some (.slice (some ⟨b8, off8, none⟩) nw cw) := (World.cell?_setCell_far _ _ _ _ (show w.heap.size ≠ b from fun e => hne e.symm)).trans y4
            have hsx : (wr.drew.setCell ⟨w.heap.size, jj, none⟩ (.int .i64 d.tx)).cell? ⟨b8, off8 + j, none⟩ = some (.int .i64 x) := (World.cell?_setCell_far _ _ _ _ (show w.heap.size ≠ b8 from fun e => hne8 e.symm)).trans x0
            have hsz : (wr.drew.setCell ⟨w.heap.size, jj, none⟩ (.int .i64 d.tx)).cell? ⟨w.heap.size + 1, 2, none⟩ = some (.slice (some ⟨w.heap.size, 0, none⟩) 6 6) := (World.cell?_setCell_far _ _ _ _ (show w.heap.size ≠ w.heap.size + 1 by omega)).trans z2
            have g1 : Blk (wr.drew.setCell ⟨w.heap.size, jj, none⟩ (.int .i64 d.tx)) w.heap.size 3 (cellsI (setsL d.tx (d.wrote.take (j + 1)) (lastOf (ds.take k)))) := by
              have := hB1.drew.put jj (.int .i64 d.tx)
              rw [HS2.out]
              unfold cellsI at this ⊢
              rw [List.map_set]; exact this
            have g0 := hB0.drew.far (p := ⟨w.heap.size, jj, none⟩) (by show gR ≠ w.heap.size; omega) (.int .i64 d.tx)
            have g2 := hB2.drew.far (p := ⟨w.heap.size, jj, none⟩) (by simp) (.int .i64 d.tx)
            have p1 : (wr.drew.setCell ⟨w.heap.size, jj, none⟩ (.int .i64 d.tx)).ownsRow (w.heap.size + 2) 3 1 (.slice A3 (k + 1) c3) (k + 1) (cellsI ((ds.take (k + 1)).map (·.tx))) := own_far (w := wr.drew) ho1 (by simp) _
            have p2 : (wr.drew.setCell ⟨w.heap.size, jj, none⟩ (.int .i64 d.tx)).ownsRow (w.heap.size + 2) 133 3 (.slice A5 (m + ns) c5) (m + ns) (cellsH ((ds.take (k + 1)).flatMap (·.seen))) := own_far (w := wr.drew) ho2 (by simp) _
            have hbx : Below w.heap.size w (wr.drew.setCell ⟨w.heap.size, jj, none⟩ (.int .i64 d.tx)) := hbw.drew.setCell (p := ⟨w.heap.size, jj, none⟩) (by simp) _
            have HG := hide (And.intro g0 (And.intro g1 (And.intro g2 (And.intro p1 (And.intro p2 hbx)))))
            clear hx8 hit hjj hv g0 g1 g2 p1 p2 hbx hB0 hB1 hB2 ho1 ho2 hne hne8
            go_wp2
            go_region_held3 (fun w' => w'.cell? ⟨b, off + k * 5, none⟩ = some (.int .i64 d.tx) ∧ w'.cell? ⟨b, off + k * 5 + 4, none⟩ = some (.slice (some ⟨b8, off8, none⟩) nw cw) ∧ w'.cell? ⟨b8, off8 + j, none⟩ = some (.int .i64 x) ∧ w'.cell? ⟨w.heap.size + 1, 2, none⟩ = some (.slice (some ⟨w.heap.size, 0, none⟩) 6 6)) (first | exact ⟨y0, y4, x0, z2⟩ | exact ⟨hs0, hs4, hsx, hsz⟩ | go_keep) (fail)
            go_wp2
            go_roundw
            case rel => exact ⟨j + 1, by omega, by go_num, (unhide HG).1, (unhide HG).2.1, (unhide HG).2.2.1, (unhide HG).2.2.2.1, (unhide HG).2.2.2.2.1, (unhide HG).2.2.2.2.2⟩
            case measure => simp [intOf]; omega
          · have hB1 : Blk wr w.heap.size 3 (cellsI (lastOf (ds.take (k + 1)))) := by
              rw [List.take_of_length_le (l := d.wrote) (by rw [HNW.out]; omega)] at hB1
              rw [HT3.out]; exact hB1
            have HG := hide (And.intro hB0 (And.intro hB1 (And.intro hB2 (And.intro ho1 (And.intro ho2 hbw)))))
            clear hB0 hB1 hB2 ho1 ho2
            go_wp2
            go_roundw
            case rel => exact ⟨k + 1, _, _, _, by omega, by go_num, hm', (unhide HG).1, (unhide HG).2.1, (unhide HG).2.2.1, (unhide HG).2.2.2.1, (unhide HG).2.2.2.2.1, HNE5, (unhide HG).2.2.2.2.2⟩
            case measure => simp [intOf]; omega
      · obtain rfl : k = n := by omega
        have HT : Hid (ds.take k = ds) := Lib.hid (List.take_of_length_le (by rw [HL.out]; omega))
        rw [HT.out] at hB1 ho1 ho2
        obtain ⟨A1, c1, rfl⟩ := own_slice ho1
        obtain ⟨A2, c2, rfl⟩ := own_slice ho2
        have HM := Lib.hid (own_len1 ho2)
        have hz := hbw.size
        have z0 := hB2.cellS (i := 0) (v := .slice A1 k c1) rfl
        have z1 := hB2.cellS (i := 1) (v := .slice A2 m c2) rfl
        have z2 := hB2.cellS (i := 2) (v := .slice (some ⟨w.heap.size, 0, none⟩) 6 6) rfl
        have x0 := hB0.cellS (i := 0) (v := .slice none 0 0) rfl
        have x1 := hB0.cellS (i := 1) (v := .slice none 0 0) rfl
        have x2 := hB0.cellS (i := 2) (v := .slice none 0 0) rfl
        have f0 := hB0.frozen 0
        have f1 := hB0.frozen 1
        have f2 := hB0.frozen 2
        have hR := ((hB0.put 0 (.slice A1 k c1)).put 1 (.slice A2 m c2)).put 2 (.slice (some ⟨w.heap.size, 0, none⟩) 6 6)
        have r0 := hR.cellS (i := 0) (v := .slice A1 k c1) rfl
        have r1 := hR.cellS (i := 1) (v := .slice A2 m c2) rfl
        have r2 := hR.cellS (i := 2) (v := .slice (some ⟨w.heap.size, 0, none⟩) 6 6) rfl
        have hbx := ((((unhide HW0).trans (hbw.mono hw00)).setCell (p := ⟨gR, 0, none⟩) hg00 (.slice A1 k c1)).setCell (p := ⟨gR, 1, none⟩) hg00 (.slice A2 m c2)).setCell (p := ⟨gR, 2, none⟩) hg00 (.slice (some ⟨w.heap.size, 0, none⟩) 6 6)
        have o1 := own_far (own_far (own_far ho1 (p := ⟨gR, 0, none⟩) (by show gR < _; omega) (.slice A1 k c1)) (p := ⟨gR, 1, none⟩) (by show gR < _; omega) (.slice A2 m c2)) (p := ⟨gR, 2, none⟩) (by show gR < _; omega) (.slice (some ⟨w.heap.size, 0, none⟩) 6 6)
        have o2 := own_far (own_far (own_far ho2 (p := ⟨gR, 0, none⟩) (by show gR < _; omega) (.slice A1 k c1)) (p := ⟨gR, 1, none⟩) (by show gR < _; omega) (.slice A2 m c2)) (p := ⟨gR, 2, none⟩) (by show gR < _; omega) (.slice (some ⟨w.heap.size, 0, none⟩) 6 6)
        have o3 := own_blk (((hB1.far (p := ⟨gR, 0, none⟩) (by show w.heap.size ≠ gR; omega) (.slice A1 k c1)).far (p := ⟨gR, 1, none⟩) (by show w.heap.size ≠ gR; omega) (.slice A2 m c2)).far (p := ⟨gR, 2, none⟩) (by show w.heap.size ≠ gR; omega) (.slice (some ⟨w.heap.size, 0, none⟩) 6 6)) (base := w0.heap.size) (size := 1) (n := 6) hw00 (by decide) (by rw [cellsI, List.length_map]; exact lastOf_len _)
        have o1 := own_base o1 (show w0.heap.size ≤ w.heap.size + 2 by omega)
        have o2 := own_base o2 (show w0.heap.size ≤ w.heap.size + 2 by omega)
        have HO := hide (And.intro o1 (And.intro o2 o3))
        clear o1 o2 o3 ho1 ho2 hR hB1
        go_wp2
        refine bodyPost_ret (v := .agg #[.slice A1 k c1, .slice A2 m c2, .slice (some ⟨w.heap.size, 0, none⟩) 6 6]) (by simp [results, Tryd.results38, go_sem, r0, r1, r2]) rfl ?_
        exact ⟨_, _, _, rfl, by rw [HDN.out, HL.out]; exact (unhide HO).1, by rw [HDN.out, HM.out]; exact (unhide HO).2.1, by rw [HDN.out]; exact (unhide HO).2.2, hbx⟩
end Go.Proofs.YtfmdeahblaikoaaDoor


namespace Go.Proofs.YtfmdeahblaikoaaDoor
open Go.RowKit

theorem flat_len4 {l : List Dl} (h : ∀ d ∈ l, d.seen.length ≤ 41) : (l.flatMap (·.seen)).length ≤ l.length * 41 := by
  induction l with
  | nil => simp
  | cons a t ih =>
    have h1 := h a List.mem_cons_self
    have h2 := ih fun d hd => h d (List.mem_cons_of_mem _ hd)
    rw [List.flatMap_cons, List.length_append, List.length_cons]; omega
set_option maxRecDepth 100000 in
set_option maxHeartbeats 4000000 in
theorem tells4_ok (A : Option Addr) (n c : Nat) (h : List HOp) (w : World) (hE : Et w) (hr : Rd w w.heap.size 3 A n (cellsH h)) (hm : n ≤ 6000000000000) (hok : okH h) (L : List Dl) (hL : byNumD (doneD (playV (refR 4) h)) = L) (hL6 : L.length ≤ 6) (hd6 : (playV (refR 4) h).dn.length ≤ 6)
    (A1 A2 A3 : Option Addr) (n1 n2 n3 c1 c2 c3 : Nat) (h1 : Rd w w.heap.size 1 A1 n1 (cellsI (L.map (·.tx)))) (h2 : Rd w w.heap.size 3 A2 n2 (cellsH (L.flatMap (·.seen)))) (h3 : Rd w w.heap.size 1 A3 n3 (cellsI (lastOf L))) :
    Calls Tryd.prog 7 #[.slice A n c, .int .i64 4, .agg #[.slice A1 n1 c1, .slice A2 n2 c2, .slice A3 n3 c3], .nilIface] w fun e w' => e = .returned (.bool true) ∧ Below w.heap.size w w' := by
  have hz0 := hE.pos
  have HE := hide hE
  have H0 : Hid ((checkF h).2 = 0) := Lib.hid hok
  have CR := hide (fun w1 (hb : Below w.heap.size w w1) => rright_any A n c h w1 ((hr.below hb).more hb.size) hm)
  have CQ := hide (fun w1 (hb : Below w.heap.size w w1) => rrun4_any A n c h w1 ((hr.below hb).more hb.size) hok)
  have HLN := Lib.hid (okH_len hok)
  have H1 := hide (fun w1 (hb : Below w.heap.size w w1) => (h1.below hb).more hb.size)
  have H2 := hide (fun w1 (hb : Below w.heap.size w w1) => (h2.below hb).more hb.size)
  have H3 := hide (fun w1 (hb : Below w.heap.size w w1) => (h3.below hb).more hb.size)
  have HN1 := Lib.hid h1.ilen
  have HN2 := Lib.hid h2.hlen
  have HN3 := Lib.hid h3.ilen
  have hBx := Blk.new w 26 [.slice A1 n1 c1, .slice A2 n2 c2, .slice A3 n3 c3]
  have hb0 : Below w.heap.size w (w.alloc (.cells #[.slice A1 n1 c1, .slice A2 n2 c2, .slice A3 n3 c3] 26)) := (Below.refl _ _).alloc (Nat.le_refl _) _
  have HL6 := Lib.hid hL6
  have HD6 := Lib.hid hd6
  have HLL := Lib.hid hL
  clear hr hok hE h1 h2 h3 hL hL6 hd6
  generalize playV (refR 4) h = s at *
  go_enter Tryd.func7, Tryd.ntmps7
  go_wp2_with fail
  refine (unhide CR _ hb0).mono ?_
  rw [H0.out]
  rintro e w1 ⟨rfl, hb1⟩
  have hbw1 := hb0.trans (hb1.mono (by simp))
  have hBx1 := hBx.below hb1 (by simp)
  have hs1 : w.heap.size < w1.heap.size := hBx1.lt
  have hBg := Blk.new w1 26 [.slice none 0 0, .slice none 0 0, .slice none 0 0]
  have hbg : Below w1.heap.size w1 (w1.alloc (.cells #[.slice none 0 0, .slice none 0 0, .slice none 0 0] 26)) := (Below.refl _ _).alloc (Nat.le_refl _) _
  have hbw2 := hbw1.trans (hbg.mono hbw1.size)
  have hBx2 := hBx1.alloc (.cells #[.slice none 0 0, .slice none 0 0, .slice none 0 0] 26)
  clear hBx hb0 hb1 hbg hBx1
  go_wp2_with fail
  refine (unhide CQ _ hbw2).mono ?_
  rintro e w3 ⟨LR, tag, rfl, H, I, hb3⟩
  obtain ⟨Ad, cd, hvd⟩ := own_slice H.done
  have hdr := (H.drow hvd).2
  rw [hvd]
  have hbw3 := hbw2.trans (hb3.mono hbw2.size)
  have hBx3 := hBx2.below hb3 hBx2.lt
  have hBg3 := hBg.below hb3 hBg.lt
  have hdl : ∀ d ∈ doneD s, d.seen.length ≤ 41 ∧ d.wrote.length ≤ 41 ∧ ∀ i ∈ d.wrote, 1 ≤ i ∧ i ≤ 6 := fun d hd => by
    have h1 := I.ok.deals d (doneD_mem I.nodup I.dnds hd).1
    have := HLN.out
    exact ⟨by have := h1.seen; omega, by have := h1.wrote; omega, h1.items⟩
  have CO := hide (routN_any Ad s.dn.length cd (doneD s) w3 hdr HD6.out hdl)
  rw [HLL.out] at CO
  have hm1 : n1 ≤ 100000 := by have := HN1.out; rw [List.length_map] at this; have := HL6.out; omega
  have hm2 : n2 ≤ 100000 := by
    have e1 : (L.flatMap (·.seen)).length ≤ L.length * 41 := flat_len4 fun d hd => by
      rw [← HLL.out] at hd
      unfold byNumD at hd
      obtain ⟨t, _, h2⟩ := List.mem_flatMap.1 hd
      exact (hdl d (List.mem_filter.1 h2).1).1
    have := HN2.out
    have := HL6.out
    omega
  have hm3 : n3 ≤ 100000 := by have := HN3.out; rw [lastOf_len] at this; omega
  clear H I hvd hdr hdl hb3 hBx2 hBg hbw2
  go_wp2_with fail
  refine (unhide CO).mono ?_
  rintro e w4 ⟨v1, v2, v3, rfl, o1, o2, o3, hb4⟩
  obtain ⟨k1, hk1⟩ : ∃ k1, L.length = k1 := ⟨_, rfl⟩
  obtain ⟨k2, hk2⟩ : ∃ k2, (L.flatMap (·.seen)).length = k2 := ⟨_, rfl⟩
  rw [hk1] at o1
  rw [hk2] at o2
  clear hk1 hk2
  obtain ⟨B1, d1, rfl⟩ := own_slice o1
  obtain ⟨B2, d2, rfl⟩ := own_slice o2
  obtain ⟨B3, d3, rfl⟩ := own_slice o3
  have hbw4 := hbw3.trans (hb4.mono hbw3.size)
  have hBx4 := hBx3.below hb4 hBx3.lt
  have hBg4 := hBg3.below hb4 hBg3.lt
  have hs3 := hBg3.lt
  have x0 := hBg4.cellS (i := 0) (v := .slice none 0 0) rfl
  have x1 := hBg4.cellS (i := 1) (v := .slice none 0 0) rfl
  have x2 := hBg4.cellS (i := 2) (v := .slice none 0 0) rfl
  have f0 := hBg4.frozen 0
  have f1 := hBg4.frozen 1
  have f2 := hBg4.frozen 2
  have hR := ((hBg4.put 0 (.slice B1 k1 d1)).put 1 (.slice B2 k2 d2)).put 2 (.slice B3 6 d3)
  have hBx5 := ((hBx4.far (p := ⟨w1.heap.size, 0, none⟩) (by show w.heap.size ≠ w1.heap.size; omega) (.slice B1 k1 d1)).far (p := ⟨w1.heap.size, 1, none⟩) (by show w.heap.size ≠ w1.heap.size; omega) (.slice B2 k2 d2)).far (p := ⟨w1.heap.size, 2, none⟩) (by show w.heap.size ≠ w1.heap.size; omega) (.slice B3 6 d3)
  have p1 := own_far (own_far (own_far o1 (p := ⟨w1.heap.size, 0, none⟩) hs3 (.slice B1 k1 d1)) (p := ⟨w1.heap.size, 1, none⟩) hs3 (.slice B2 k2 d2)) (p := ⟨w1.heap.size, 2, none⟩) hs3 (.slice B3 6 d3)
  have p2 := own_far (own_far (own_far o2 (p := ⟨w1.heap.size, 0, none⟩) hs3 (.slice B1 k1 d1)) (p := ⟨w1.heap.size, 1, none⟩) hs3 (.slice B2 k2 d2)) (p := ⟨w1.heap.size, 2, none⟩) hs3 (.slice B3 6 d3)
  have p3 := own_far (own_far (own_far o3 (p := ⟨w1.heap.size, 0, none⟩) hs3 (.slice B1 k1 d1)) (p := ⟨w1.heap.size, 1, none⟩) hs3 (.slice B2 k2 d2)) (p := ⟨w1.heap.size, 2, none⟩) hs3 (.slice B3 6 d3)
  have hbw5 := ((hbw4.setCell (p := ⟨w1.heap.size, 0, none⟩) (by show w.heap.size ≤ w1.heap.size; omega) (.slice B1 k1 d1)).setCell (p := ⟨w1.heap.size, 1, none⟩) (by show w.heap.size ≤ w1.heap.size; omega) (.slice B2 k2 d2)).setCell (p := ⟨w1.heap.size, 2, none⟩) (by show w.heap.size ≤ w1.heap.size; omega) (.slice B3 6 d3)
  have ER := error_any 0 0 _ ((unhide HE).below hbw5 hz0)
  rw [errV_zero, decide_eq_true rfl] at ER
  have HER := hide ER
  have q1 := rd_own p1
  have q2 := rd_own p2
  have q3 := rd_own p3
  have HQ1 := hide q1
  have HQ2 := hide q2
  have HQ3 := hide q3
  have HR5 := hide hR
  have HX5 := hide hBx5
  clear ER p1 p2 p3 q1 q2 q3 hR hBx5 o1 o2 o3 hb4 hBx3 hBx4 hBg3 hBg4 hbw3 hbw4
  go_wp2_with fail
  refine (unhide HER).mono ?_
  rintro e w6 ⟨rfl, hb6⟩
  have hbw6 := hbw5.trans (hb6.mono hbw5.size)
  have hX6 := (unhide HX5).below hb6 (unhide HX5).lt
  have hG6 := (unhide HR5).below hb6 (unhide HR5).lt
  have y0 := hX6.cellS (i := 0) (v := .slice A1 n1 c1) rfl
  have y1 := hX6.cellS (i := 1) (v := .slice A2 n2 c2) rfl
  have y2 := hX6.cellS (i := 2) (v := .slice A3 n3 c3) rfl
  have z0 := hG6.cellS (i := 0) (v := .slice B1 k1 d1) rfl
  have z1 := hG6.cellS (i := 1) (v := .slice B2 k2 d2) rfl
  have z2 := hG6.cellS (i := 2) (v := .slice B3 6 d3) rfl
  have r1 := ((unhide HQ1).below hb6).more hb6.size
  have r2 := ((unhide HQ2).below hb6).more hb6.size
  have r3 := ((unhide HQ3).below hb6).more hb6.size
  have CF := hide (outcome_true A1 A2 A3 B1 B2 B3 n1 n2 n3 c1 c2 c3 k1 k2 6 d1 d2 d3 (L.map (·.tx)) (L.flatMap (·.seen)) (lastOf L) w6 (unhide H1 w6 hbw6) (unhide H2 w6 hbw6) (unhide H3 w6 hbw6) r1 r2 r3 hm1 hm2 hm3)
  clear hb6 hX6 hG6 r1 r2 r3 HER hbw5 x0 x1 x2 f0 f1 f2
  go_wp2_with fail
  refine (unhide CF).mono ?_
  rintro e w7 ⟨rfl, hb7⟩
  have hbw7 := hbw6.trans (hb7.mono hbw6.size)
  go_wp2
  go_ret
  exact ⟨rfl, hbw7⟩
end Go.Proofs.YtfmdeahblaikoaaDoor

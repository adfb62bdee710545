/-
  PROVED: lanelaw3.StockBetween returns true, for all its arguments: whatever is asked and however deals end, there is never less than none, nor more than may be, and what there is lies between what was told. No condition beyond the form's own reach.
-/
import Derived.Test.YtaeckfhmmckopaaStockInv
import Derived.Test.YtaeckfhmmckopaaRows2
import Derived.Deep.DeepCutAuto
import Derived.Deep.CutBlock
namespace Go.Proofs.Ytaeckfhmmckopaa.stockBetween
open Go.ChangeShapes Go.WideShapes Go.ChangeAt Go.RowKit Go.Proofs.Ytaeckfhmmckopaa

theorem list3 {α : Type} {l : List α} (h : l.length = 3) : ∃ a b c, l = [a, b, c] := by
  match l, h with
  | [a, b, c], _ => exact ⟨a, b, c, rfl⟩

set_option maxRecDepth 100000 in
set_option maxHeartbeats 8000000 in
theorem walk (n : Int) (A : Option Addr) (k c : Nat) (w : World) (hr : RdRows w w.heap.size A k) :
    Calls Try.prog 5 #[.int .i64 n, .slice A k c] w fun e w' => e = .returned (.bool true) ∧ Below w.heap.size w w' := by
  have CN := hide (new_ok 10 w (by omega) (by omega))
  go_enter Try.func5, Try.ntmps5
  go_wp2_with fail
  refine (unhide CN).mono ?_
  rintro e w1 ⟨rfl, hst, hb1⟩
  have CA := hide (ask_yes (w.heap.size + 1) w.heap.size 10 [] 1 (-7) w1 w.heap.size hst (SInv.new 10 (by omega) (by omega)).ok (Nat.le_refl _) hb1.size rfl (by omega) (by omega) (by omega) (by decide) (by decide))
  go_wp2_with fail
  refine (unhide CA).mono ?_
  rintro e w2 ⟨rfl, hst2, hb2⟩
  have hst2' : StW w2 (w.heap.size + 1) w.heap.size 10 [(1, (0, 7))] := hst2
  have hi2 : SInv 10 [(1, (0, 7))] := ⟨⟨by simp, by decide, by decide⟩, by simp, by simp⟩
  have hbw2 := hb1.trans hb2
  have CB := hide (ask_no (w.heap.size + 1) w.heap.size 10 [(1, (0, 7))] 2 (-4) w2 hst2' hi2.ok rfl (by omega) (by omega) (by omega) (.inl (by decide)))
  go_wp2_with fail
  refine (unhide CB).mono ?_
  rintro e w3 ⟨rfl, hb3⟩
  have hbw3 := hbw2.trans (hb3.mono hbw2.size)
  have CE := hide (end_some (w.heap.size + 1) w.heap.size 10 [(1, (0, 7))] 1 true 0 7 w3 w.heap.size (hst2'.grown hb3) (Nat.le_succ _) (Nat.le_refl _) hbw3.size rfl rfl (by omega) (by omega) (by omega) (by omega) (by omega) (by omega))
  go_wp2_with fail
  refine (unhide CE).mono ?_
  rintro e w4 ⟨rfl, _, hb4⟩
  have hbw4 := hbw3.trans hb4
  have HN : Hid (endNow 10 true (0, 7) = 3) := Lib.hid rfl
  rw [HN.out]
  clear hst hb1 hst2 hst2' hi2 hb2 hb3 hb4 hbw2 hbw3 CN CA CB CE
  by_cases hn0 : n < 0
  · go_wp2_with (go_at_call 17; refine (new_bad _ _ (.inl hn0)).mono ?_; rintro e w' ⟨rfl, rfl⟩)
    go_ret
    exact ⟨rfl, hbw4⟩
  by_cases hn1 : 1000000 < n
  · go_wp2_with (go_at_call 17; refine (new_bad _ _ (.inr hn1)).mono ?_; rintro e w' ⟨rfl, rfl⟩)
    go_ret
    exact ⟨rfl, hbw4⟩
  have CN := hide (new_ok n w4 (by omega) (by omega))
  go_wp2_with fail
  refine (unhide CN).mono ?_
  rintro e w5 ⟨rfl, hst5, hb5⟩
  have hbw5 := hbw4.trans (hb5.mono hbw4.size)
  have hls : w.heap.size ≤ w4.heap.size + 1 := Nat.le_succ_of_le hbw4.size
  have hlb : w.heap.size ≤ w4.heap.size := hbw4.size
  have hi5 := SInv.new n (by omega) (by omega)
  clear CN hb5 hbw4 HN
  generalize w4.heap.size + 1 = s at *
  generalize w4.heap.size = b at *
  clear hn0 hn1
  go_upto_block 0 with fail
  go_cut [15] (fun s15 wx => ∃ (now : Int) (m : StM), StW wx s b now m ∧ Hid (SInv now m) ∧ Below w.heap.size w wx)
  case first =>
    go_wp2_with fail
    go_loopw [15] (fun s15 wr => ∃ (i : Nat) (now : Int) (m : StM), i ≤ 80 ∧ s15 = .int .i64 i ∧ StW wr s b now m ∧ Hid (SInv now m) ∧ Below w.heap.size w wr) (fun s15 _ => 80 - (intOf s15).toNat)
    case atStart => exact ⟨0, n, [], by omega, rfl, hst5, hi5, hbw5⟩
    case round =>
      obtain ⟨i, now, m, hi, rfl, hst, HI, hbw⟩ := hrel
      clear hst5 hi5 hbw5
      by_cases h1 : i < k
      · by_cases h2 : i < 80
        · obtain ⟨bo, offo, rfl, hbo, hrows⟩ := hr (by omega)
          obtain ⟨A', L, C, hc, hin⟩ := hrows i h1
          clear hrows hr
          obtain ⟨wo, rfl⟩ : ∃ wo : World, wo = wr := ⟨_, rfl⟩
          go_upto_block 2 with fail
          go_cut [17] (fun s17 wx => ∃ vs : List Int, vs.length = 3 ∧ Blk wx wo.heap.size 40 (cellsI vs) ∧ StW wx s b now m ∧ Below w.heap.size w wx)
          case first =>
            go_wp2_with fail
            go_loopw [17] (fun s17 wx => ∃ (j : Nat) (vs : List Int), j ≤ 3 ∧ s17 = .int .i64 j ∧ vs.length = 3 ∧ Blk wx wo.heap.size 40 (cellsI vs) ∧ StW wx s b now m ∧ Below w.heap.size w wx) (fun s17 _ => 3 - (intOf s17).toNat)
            case atStart => exact ⟨0, [0, 0, 0], by omega, rfl, rfl, Blk.new wo 40 (cellsI [0, 0, 0]), hst.grown ((Below.refl _ _).alloc (Nat.le_refl _) _), hbw.alloc hbw.size _⟩
            case round =>
              obtain ⟨j, vs, hj, rfl, hvs, hB, hstx, hbx⟩ := hrel
              have c0 := (hbx.cell (p := ⟨bo, offo + i, none⟩) hbo).trans hc
              by_cases g0 : j < L ∧ j < 3
              · obtain ⟨g1, g2⟩ := g0
                · obtain ⟨b', off', rfl, hb', hx⟩ := hin (by omega)
                  obtain ⟨x, hxj⟩ := hx j g1
                  have c1 := (hbx.cell (p := ⟨b', off' + j, none⟩) hb').trans hxj
                  obtain ⟨v0, hv0⟩ : ∃ v, vs[j]? = some v := ⟨_, List.getElem?_eq_getElem (by omega)⟩
                  have c2 := hB.cellS (i := j) (v := .int .i64 v0) (by rw [cellsI, List.getElem?_map, hv0]; rfl)
                  have c3 := hB.frozen j
                  have hsw : s ≠ wo.heap.size := Nat.ne_of_lt hst.blk.lt
                  have hbb : b ≠ wo.heap.size := Nat.ne_of_lt hst.map.lt
                  clear hx hxj hv0
                  go_wp2
                  go_roundw
                  case rel => exact ⟨j + 1, vs.set j x, by omega, by go_num, by simp [hvs], by rw [cellsI, List.map_set]; exact hB.put _ _, ⟨hstx.blk.far (p := ⟨wo.heap.size, j, none⟩) hsw _, hstx.map.set (p := ⟨wo.heap.size, j, none⟩) hbb _⟩, hbx.setCell (p := ⟨wo.heap.size, j, none⟩) hbw.size _⟩
                  case measure => simp [intOf]; omega
              · have hex : (j < L ∧ ¬ j < 3) ∨ ¬ j < L := by omega
                rcases hex with ⟨g1, g2⟩ | g1
                all_goals
                  go_wp2_with fail
                  go_meet
                  case rel => exact ⟨vs, hvs, hB, hstx, hbx⟩
          case rest =>
            obtain ⟨vs, hvs, hB, hstx, hbx⟩ := hcut
            obtain ⟨v0, v1, v2, rfl⟩ := list3 hvs
            have d0 := hB.cellS (i := 0) (v := .int .i64 v0) rfl
            have d1 := hB.cellS (i := 1) (v := .int .i64 v1) rfl
            have d2 := hB.cellS (i := 2) (v := .int .i64 v2) rfl
            obtain ⟨n1, n2, n3, n4⟩ : 0 ≤ now - sumT m ∧ now + sumA m ≤ 1000000 ∧ 0 ≤ sumT m ∧ 0 ≤ sumA m := ⟨HI.out.ok.low, HI.out.ok.high, (sums_pos HI.out.ok.pos).2, (sums_pos HI.out.ok.pos).1⟩
            have HR := hide (range_any s b now m wc hstx HI.out.ok)
            have hblt := hB.lt
            clear hvs hin hc
            go_wp2_with fail
            refine (unhide HR).mono ?_
            rintro e w6 ⟨rfl, hb6⟩
            have hst6 := hstx.grown hb6
            have hbx6 := hbx.trans (hb6.mono hbx.size)
            have hB6 := hB.below hb6 hblt
            replace d0 := hB6.cellS (i := 0) (v := .int .i64 v0) rfl
            replace d1 := hB6.cellS (i := 1) (v := .int .i64 v1) rfl
            replace d2 := hB6.cellS (i := 2) (v := .int .i64 v2) rfl
            clear hb6 HR
            by_cases hv : v0 < 2
            · have HA := hide (ask_all s b now m v1 v2 w6 w.heap.size hst6 HI.out hlb hbx6.size)
              go_wp2_with fail
              refine (unhide HA).mono ?_
              rintro e w7 ⟨r, er, m7, rfl, hst7, hi7, hb7⟩
              have hbx7 := hbx6.trans hb7
              obtain ⟨o1, o2, o3, o4⟩ : 0 ≤ now - sumT m7 ∧ now + sumA m7 ≤ 1000000 ∧ 0 ≤ sumT m7 ∧ 0 ≤ sumA m7 := ⟨hi7.ok.low, hi7.ok.high, (sums_pos hi7.ok.pos).2, (sums_pos hi7.ok.pos).1⟩
              have HI7 := Lib.hid hi7
              have HR7 := hide (range_any s b now m7 w7 hst7 hi7.ok)
              clear HA hi7 hb7 d0 d1 d2 hB6
              go_wp2_with (first
                | (go_at_call 18; refine (now_any s b now m7 _ (by first | exact hst7 | exact hst8)).mono ?_; rintro e w' ⟨rfl, rfl⟩)
                | (go_at_call 20; refine (unhide HR7).mono ?_; rintro e w8 ⟨rfl, hb8⟩; have hst8 := hst7.grown hb8; have hbx8 := hbx7.trans (hb8.mono hbx7.size)))
              go_roundw
              case rel => exact ⟨i + 1, now, m7, by omega, by go_num, hst8, HI7, hbx8⟩
              case measure => simp [intOf]; omega
            · have HA := hide (end_all s b now m v1 (v0 == 2) w6 w.heap.size hst6 HI.out hls hlb hbx6.size)
              go_wp2_with fail
              refine (unhide HA).mono ?_
              rintro e w7 ⟨kv, er, now7, m7, rfl, hst7, hb7, ⟨hi7, l7, u7, _⟩, hcase⟩
              have hbx7 := hbx6.trans hb7
              obtain ⟨o1, o2, o3, o4⟩ : 0 ≤ now7 - sumT m7 ∧ now7 + sumA m7 ≤ 1000000 ∧ 0 ≤ sumT m7 ∧ 0 ≤ sumA m7 := ⟨hi7.ok.low, hi7.ok.high, (sums_pos hi7.ok.pos).2, (sums_pos hi7.ok.pos).1⟩
              have HI7 := Lib.hid hi7
              have HR7 := hide (fun w' hs => range_any s b now7 m7 w' hs hi7.ok)
              clear HA hi7 hb7 d0 d1 d2 hB6
              rcases hcase with ⟨x, rfl⟩ | ⟨rfl, rfl, l8, u8⟩
              all_goals
                go_wp2_with (go_at_call 18; refine (now_any s b _ m7 _ hst7).mono ?_; rintro e w' ⟨rfl, rfl⟩)
                refine Calls.mono (unhide HR7 _ hst7) ?_
                rintro e w8 ⟨rfl, hb8⟩
                have hst8 := hst7.grown hb8
                have hbx8 := hbx7.trans (hb8.mono hbx7.size)
                go_wp2_with fail
                refine Calls.mono (unhide HR7 _ hst8) ?_
                rintro e w9 ⟨rfl, hb9⟩
                have hst9 := hst8.grown hb9
                have hbx9 := hbx8.trans (hb9.mono hbx8.size)
                go_wp2_with (go_at_call 18; refine (now_any s b _ m7 _ hst9).mono ?_; rintro e w' ⟨rfl, rfl⟩)
                go_roundw
                case rel => exact ⟨i + 1, _, m7, by omega, by go_num, hst9, HI7, hbx9⟩
                case measure => simp [intOf]; omega
        · go_wp2_with fail
          go_meet
          case rel => exact ⟨now, m, hst, HI, hbw⟩
      · go_wp2_with fail
        go_meet
        case rel => exact ⟨now, m, hst, HI, hbw⟩
  case rest =>
    obtain ⟨now, m, hst, HI, hbw⟩ := hcut
    clear hst5 hi5 hbw5 hr
    go_wp2_with fail
    go_loopw [24] (fun s24 wr => ∃ (d : Nat) (now : Int) (m : StM), 1 ≤ d ∧ d ≤ 7 ∧ s24 = .int .i64 d ∧ StW wr s b now m ∧ Hid (SInv now m ∧ ∀ p ∈ m, (d : Int) ≤ p.1) ∧ Below w.heap.size w wr) (fun s24 _ => 7 - (intOf s24).toNat)
    case atStart => exact ⟨1, now, m, by omega, by omega, rfl, hst, ⟨HI.out, fun p hp => (HI.out.keys p hp).1⟩, hbw⟩
    case round =>
      obtain ⟨d, nw, mm, hd1, hd7, rfl, hs, HD, hb⟩ := hrel
      clear hst HI hbw
      by_cases hd : d ≤ 6
      · have HE := hide (fun c => end_all s b nw mm d c wr w.heap.size hs HD.out.1 hls hlb hb.size)
        go_wp2_with fail
        refine Calls.mono (unhide HE _) ?_
        rintro e w7 ⟨kv, er, now7, m7, rfl, hst7, hb7, ⟨hi7, _, _, hsub⟩, _⟩
        have HD7 : Hid (SInv now7 m7 ∧ ∀ p ∈ m7, ((d + 1 : Nat) : Int) ≤ p.1) := Lib.hid ⟨hi7, fun p hp => by
          obtain ⟨h1, h2⟩ := hsub p hp
          have := HD.out.2 p h1
          omega⟩
        have hbx := hb.trans hb7
        clear HE hi7 hsub hb7
        go_wp2_with fail
        go_roundw
        case rel => exact ⟨d + 1, now7, m7, by omega, by omega, by go_num, hst7, HD7, hbx⟩
        case measure => simp [intOf]; omega
      · have hnil : mm = [] := by
          cases mm with
          | nil => rfl
          | cons p t =>
            have h1 := HD.out.2 p (by simp)
            have h2 := HD.out.1.keys p (by simp)
            omega
        subst hnil
        have HR := hide (range_any s b nw [] wr hs HD.out.1.ok)
        have hlo := HD.out.1.ok.low
        have hhi := HD.out.1.ok.high
        simp only [sumT, sumA] at hlo hhi HR
        rw [Int.sub_zero, Int.add_zero] at HR
        go_wp2_with fail
        refine (unhide HR).mono ?_
        rintro e w8 ⟨rfl, hb8⟩
        have hs8 := hs.grown hb8
        have hbx := hb.trans (hb8.mono hb.size)
        go_wp2_with (go_at_call 18; refine (now_any s b nw [] _ hs8).mono ?_; rintro e w' ⟨rfl, rfl⟩)
        go_ret
        exact ⟨rfl, hbx⟩

theorem own : ownKnob Try.prog.godebug = none := by kernel_rfl

/-! ### The row. -/
set_option maxRecDepth 100000 in
theorem lifted (os : Os) (started : os.Started) (H : Type) (enc : TypeId × Value → H) :
    ReturnsInHanded {} Try.checked os 5 .any (Rows.stockBetweenSpec.pre6 enc Try.prog Try.f5 Rows.stockBetweenRow.domain false) (Rows.stockBetweenSpec.post enc Try.prog Try.f5 false true false false) := by
  refine returnsInHanded_of_change_sized (C := Try.checked) own started (by kernel_rfl) Try.func5
    (ChangeSpec.witness6 (enc := enc) (C := Try.checked) false ⟨#[], #[.int .i64 0, .slice none 0 0], []⟩ 8 (by kernel_rfl) (by kernel_rfl) (by kernel_rfl) (by kernel_rfl)) ?_
  intro W base args ds gs before hval0 hW hcnd hsz0 _
  have hval : ∀ (j : Nat) t v, Try.f5.params[j]? = some t → args[j]? = some v → Value.okWide Try.prog W .any base t v := hval0
  have hW' := hW
  obtain ⟨p, q, hA0, hV, rfl, hfz, hnd⟩ := hW
  have hA : DataW.TrodAll enc Try.prog W 0 (fun _ => true) true Try.f5.params.toList args.toList ds p := hA0
  rw [Try.params5] at hA hval
  obtain ⟨v0, vs0, d0, ds0, p0, q0, hargs, rfl, rfl, h0, r0⟩ := trodAll_cons hA
  obtain ⟨v1, vs1, d1, ds1, p1, q1, rfl, rfl, rfl, h1, r1⟩ := trodAll_cons r0
  obtain ⟨rfl, rfl, rfl⟩ := trodAll_nil r1
  obtain rfl : args = #[v0, v1] := by cases args; simp_all
  obtain ⟨rfl, rfl⟩ := trodVars_none hV
  simp only [List.append_nil] at hW'
  obtain ⟨a0, rfl, rfl, rfl, w0⟩ := open_int Try.underlying3 (hval 0 3 v0 rfl rfl) h0
  have hk1 := h1
  have hlt1 : ∀ x ∈ p1, x.block < W.heap.size := fun x hx => hW'.lt x (by simp [hx])
  obtain ⟨A1, n1, c1, rfl, rd1⟩ := open_rows Try.underlying37 Try.underlying41 Try.underlying3 (by kernel_rfl) (by kernel_rfl) (hval 1 37 v1 rfl rfl) h1
  clear hA0 hval0
  refine (walk a0 A1 n1 c1 W rd1).mono fun e W' ⟨he, hg⟩ => ?_
  subst he
  exact ⟨_, rfl, post_slices (pa := _) (pv := []) hW' hg (by simp) (fun _ _ _ => (trodAll_cons_mk (shut_bool Try.underlying4 _) trodAll_mk0)) (trodAll_cons_mk (shut_int Try.underlying3 w0) (trodAll_cons_mk (Below.trod laidOut (by kernel_rfl) (of_decide_eq_true (by kernel_rfl)) hk1 hg hlt1) trodAll_mk0)) rfl⟩

theorem over : Rows.stockBetweenRow.holds Try.pinned (OpenSpec.ofChange Rows.stockBetweenSpec) :=
  OpenClaim.holds_of_wide 5 Try.f5 rfl rfl rfl rfl rfl rfl rfl ⟨rfl, rfl, rfl, rfl, rfl⟩ rfl rfl rfl rfl rfl (by kernel_rfl) Try.func5 (by kernel_rfl)
    (of_decide_eq_true (by kernel_rfl)) (by unfold Func.isWrapper; first | (rw [if_pos (by decide +kernel)]; kernel_rfl) | (rw [if_neg (by decide +kernel)]; exact ⟨rfl, rfl⟩))
    (fun os started H enc _ => lifted os started H enc)

/-- The statement. -/
theorem proved : Rows.StockBetweenSaid :=
  over
#print axioms proved

end Go.Proofs.Ytaeckfhmmckopaa.stockBetween

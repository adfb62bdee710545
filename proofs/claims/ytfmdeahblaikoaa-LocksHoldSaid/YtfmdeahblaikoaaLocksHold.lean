
/-
  PROVED: lanelaw1.LocksHold returns true, for every list of locks and every list of numbers: those that are held are at odds with none; who waits waits for some. No condition beyond the form's own reach.
-/
import Derived.Test.YtfmdeahblaikoaaLFor
import Derived.Test.YtfmdeahblaikoaaOpen
import Derived.StillTailTactics
import Derived.Deep.QuietTactic
import Derived.Deep.DeepCutAuto

namespace Go.Proofs.Ytfmdeahblaikoaa.locksHold
open Go.ChangeShapes Go.WideShapes Go.ChangeAt Go.RowKit Go.Proofs.Ytfmdeahblaikoaa

theorem fact : askF ⟨[], []⟩ ⟨1, 1, 2⟩ = (true, 0, ⟨[⟨1, 1, 2⟩], []⟩) ∧ askF ⟨[⟨1, 1, 2⟩], []⟩ ⟨2, 1, 1⟩ = (false, 0, ⟨[⟨1, 1, 2⟩], [⟨2, 1, 1⟩]⟩) ∧ freeS ⟨[⟨1, 1, 2⟩], [⟨2, 1, 1⟩]⟩ 1 = ⟨[⟨2, 1, 1⟩], [], [⟨2, 1, 1⟩]⟩ := by decide +kernel
theorem apart_at {H : List HOp} (h : H.Pairwise Apart) {j k : Nat} {a b : HOp} (hjk : j < k) (hj : H[j]? = some a) (hk : H[k]? = some b) : loddsB b a = false ∧ ¬(b.tx = a.tx ∧ b.what = a.what) := by
  obtain ⟨j1, j2⟩ := List.getElem?_eq_some_iff.1 hj
  obtain ⟨k1, k2⟩ := List.getElem?_eq_some_iff.1 hk
  have := List.pairwise_iff_getElem.1 h j k j1 k1 hjk
  rw [j2, k2] at this
  exact this.comm
theorem tx_at {W : List HOp} (h : (W.map (·.tx)).Nodup) {j k : Nat} {a b : HOp} (hjk : j < k) (hj : W[j]? = some a) (hk : W[k]? = some b) : a.tx ≠ b.tx := by
  obtain ⟨j1, j2⟩ := List.getElem?_eq_some_iff.1 hj
  obtain ⟨k1, k2⟩ := List.getElem?_eq_some_iff.1 hk
  have := List.pairwise_iff_getElem.1 h j k (by simpa using j1) (by simpa using k1) hjk
  simp only [List.getElem_map] at this
  rw [j2, k2] at this
  exact this

set_option maxRecDepth 100000 in
set_option maxHeartbeats 8000000 in
theorem walk (A : Option Addr) (n c : Nat) (l : List HOp) (B : Option Addr) (m d : Nat) (st : List Int) (w : World) (hr : Rd w w.heap.size 3 A n (cellsH l)) (_hb : n * 24 ≤ 140737488351232) (hs : Rd w w.heap.size 1 B m (cellsI st)) (_hd : m * 8 ≤ 140737488351232) :
    Calls Try.prog 4 #[.slice A n c, .slice B m d] w fun e w' => e = .returned (.bool true) ∧ Below w.heap.size w w' := by
  have HRL := hide (fun w' (hb : Below w.heap.size w w') => (hr.below hb).more hb.size)
  have HRS := hide (fun w' (hb : Below w.heap.size w w') => (hs.below hb).more hb.size)
  clear hr hs
  go_enter Try.func4, Try.ntmps4
  go_wp2_with (go_at_call 5; refine (lnew_any _).mono ?_; rintro e w1 ⟨rfl, hT1, hb1⟩)
  generalize hg : w.heap.size = g at *
  have CA := hide (ask_any g g _ _ [] [] ⟨1, 1, 2⟩ w1 hT1 (by simp) (by simp) (by have := hb1.size; omega) .nil)
  rw [fact.1] at CA
  simp only at CA
  rw [show errV 0 = .nilIface from rfl] at CA
  unfold HOp.val at CA
  go_wp2_with fail
  refine (unhide CA).mono ?_
  rintro e w2 ⟨v1, v2, rfl, hT2, hK2⟩
  have hb2 := hb1.trans (kept_below hT1 hK2 (by have := hb1.size; omega))
  have CB := hide (ask_any g g v1 v2 [⟨1, 1, 2⟩] [] ⟨2, 1, 1⟩ w2 hT2 (by simp) (by simp) (by have := hb2.size; omega) (by simp))
  rw [fact.2.1] at CB
  simp only at CB
  rw [show errV 0 = .nilIface from rfl] at CB
  unfold HOp.val at CB
  clear CA hT1 hK2 hb1
  go_wp2_with fail
  refine (unhide CB).mono ?_
  rintro e w3 ⟨v1', v2', rfl, hT3, hK3⟩
  have hb3 := hb2.trans (kept_below hT2 hK3 (by have := hb2.size; omega))
  have CC := hide (lfree_walk g g v1' v2' [⟨1, 1, 2⟩] [⟨2, 1, 1⟩] 1 w3 hT3 (by simp) (by simp) (by have := hb3.size; omega) rfl)
  unfold FreePost at CC
  unfold freeT at CC
  rw [fact.2.2] at CC
  simp only at CC
  clear CB hT2 hK3 hb2
  go_wp2_with fail
  refine (unhide CC).mono ?_
  rintro e w4 ⟨vo, v1'', v2'', rfl, ho4, _, hK4, _⟩
  have hb4 := hb3.trans (kept_below hT3 hK4 (by have := hb3.size; omega))
  obtain ⟨A4, c4, rfl⟩ := own_slice ho4
  obtain ⟨b, off, y, he, hb, hy, d0, d1, d2⟩ := (rd_own ho4).op (k := 0) (by simp)
  cases he
  obtain rfl : y = ⟨2, 1, 1⟩ := by simpa using hy.symm
  simp only [Nat.zero_mul, Nat.add_zero] at d0 d1 d2
  have hgz := hb4.size
  clear hT3 hK4 hb3 hy hb CC ho4
  go_wp2_with (go_at_call 5; refine (lnew_any _).mono ?_; rintro e w5 ⟨rfl, hT5, hb5⟩)
  have hbw5 := hb4.trans (hb5.mono (by omega))
  clear d0 d1 d2
  generalize hx : w4.heap.size = x at *
  go_loopw [13, 14, 15, 16, 17, 18, 19, 20, 21, 22, 23] (fun s13 s14 _ _ _ _ _ _ _ _ _ wr => ∃ (i at_ : Nat) (H W : List HOp) (v1 v2 : Value), i ≤ 80 ∧ at_ ≤ i ∧ s14 = .int .i64 i ∧ s13 = .int .i64 at_ ∧ Tab wr x x v1 v2 H W ∧ LInv ⟨H, W⟩ ∧ Hid (H.length + W.length ≤ i) ∧ Below g w wr) (fun _ s14 _ _ _ _ _ _ _ _ _ _ => 80 - (intOf s14).toNat)
  case atStart => exact ⟨0, 0, [], [], _, _, by omega, by omega, rfl, rfl, hT5, linv0, Lib.hid (by simp), hbw5⟩
  case round =>
    clear hT5 hbw5 hb5 hb4
    obtain ⟨i, at_, H, W, v1, v2, hi, hat, rfl, rfl, hT, hI, HLN, hbw⟩ := hrel
    by_cases h1 : i < m
    rotate_left
    · go_wp2
      go_ret
      exact ⟨rfl, by rw [hg]; exact hbw⟩
    by_cases h2 : i < 80
    rotate_left
    · go_wp2
      go_ret
      exact ⟨rfl, by rw [hg]; exact hbw⟩
    obtain ⟨wo, rfl⟩ : ∃ wo : World, wo = wr := ⟨_, rfl⟩
    have hxo : x ≤ wo.heap.size := by have := hT.blk.lt; omega
    have hgx : g ≤ x := by omega
    obtain ⟨b, off, s, he, hb, hs, z0⟩ := (unhide HRS wo hbw).int (k := i) h1
    cases he
    have hln := HLN.out
    clear hs
    go_upto_if 86 with fail
    go_cut [13] (fun s13 wx => ∃ (at' : Nat) (H' W' : List HOp) (v1' v2' : Value), at' ≤ i + 1 ∧ s13 = .int .i64 at' ∧ Tab wx x x v1' v2' H' W' ∧ LInv ⟨H', W'⟩ ∧ Hid (H'.length + W'.length ≤ i + 1) ∧ Below g w wx)
    case first =>
      by_cases hp : 0 < s
      · cases hX : txB s
        · have CF := hide (lfree_no x x v1 v2 H W s wo hT hX)
          go_wp2_with fail
          refine (unhide CF).mono ?_
          rintro e w6 ⟨rfl, hb6⟩
          have hT6 := hT.below hb6
          have hb7 := hbw.trans (hb6.mono (by omega))
          go_wp2
          go_meet
          case rel => exact ⟨at_, H, W, v1, v2, by omega, rfl, hT6, hI, Lib.hid (by omega), hb7⟩
        · have CF := hide (lfree_walk x x v1 v2 H W s wo hT (by omega) (by omega) hxo hX)
          have hI6 := free_inv hI s
          have HL6 : Hid ((freeT ⟨H, W⟩ s).H.length + (freeT ⟨H, W⟩ s).W.length ≤ i + 1) := Lib.hid (by have := freeT_len ⟨H, W⟩ s; simp only at this; omega)
          go_wp2_with fail
          refine (unhide CF).mono ?_
          rintro e w6 ⟨vo, v1', v2', rfl, _, hT6, hK6, _⟩
          have hb7 := hbw.trans ((kept_below hT hK6 hxo).mono hgx)
          go_wp2
          go_meet
          case rel => exact ⟨at_, _, _, v1', v2', by omega, rfl, hT6, hI6, HL6, hb7⟩
      · by_cases ha : at_ < n
        · obtain ⟨b', off', o, he, hb', ho, y0, y1, y2⟩ := (unhide HRL wo hbw).op (k := at_) ha
          cases he
          have CF := hide (ask_any x x v1 v2 H W o wo hT (by omega) (by omega) hxo hI.apart)
          have hI6 := ask_inv hI o
          have HL6 : Hid ((askF ⟨H, W⟩ o).2.2.H.length + (askF ⟨H, W⟩ o).2.2.W.length ≤ i + 1) := Lib.hid (by have := askF_len ⟨H, W⟩ o; simp only at this; omega)
          generalize askF ⟨H, W⟩ o = af at *
          obtain ⟨o1, o2, o3⟩ := o
          simp only at y0 y1 y2
          unfold HOp.val at CF
          clear ho
          go_wp2_with fail
          refine (unhide CF).mono ?_
          rintro e w6 ⟨v1', v2', rfl, hT6, hK6⟩
          have hb7 := hbw.trans ((kept_below hT hK6 hxo).mono hgx)
          go_wp2
          go_meet
          case rel => exact ⟨at_ + 1, _, _, v1', v2', by omega, by go_num, hT6, hI6, HL6, hb7⟩
        · go_wp2
          go_meet
          case rel => exact ⟨at_, H, W, v1, v2, by omega, rfl, hT, hI, Lib.hid (by omega), hbw⟩
    case rest =>
      obtain ⟨at', H', W', v1', v2', hat', rfl, hT', hI', HLN', hbw'⟩ := hcut
      clear hT hI HLN hbw hln z0 hb
      have hln := HLN'.out
      obtain ⟨wy, rfl⟩ : ∃ wy : World, wy = wc := ⟨_, rfl⟩
      have CH := hide (held_any x x v1' v2' H' W' wy hT' (by omega))
      obtain ⟨nh, hnh⟩ : ∃ nh, H'.length = nh := ⟨_, rfl⟩
      obtain ⟨nw, hnw⟩ : ∃ nw, W'.length = nw := ⟨_, rfl⟩
      rw [hnh] at CH
      go_wp2_with fail
      refine (unhide CH).mono ?_
      rintro e wz ⟨vH, rfl, hoH, hbz⟩
      obtain ⟨AH, cH, rfl⟩ := own_slice hoH
      have hrH := rd_own hoH
      have HRH := hide (fun w' (hb : Below wz.heap.size wz w') => (hrH.below hb).more hb.size)
      have HTZ := hide (hT'.below hbz)
      have HBZ := hide (hbw'.trans (hbz.mono (by have := hbw'.size; omega)))
      have hgz2 : g ≤ wz.heap.size := by have := hbw'.size; have := hbz.size; omega
      have HII := Lib.hid hI'
      have HNW := Lib.hid hnw
      have HNH := Lib.hid hnh
      have hsum : nh + nw ≤ i + 1 := by omega
      have hnh81 : nh ≤ 81 := by omega
      have hnw81 : nw ≤ 81 := by omega
      have hzz : Below wz.heap.size wz wz := Below.refl _ _
      clear hT' hI' hbw' hoH hrH hbz CH hnh hnw hln HLN'
      go_wp2
      go_loopw [16, 17, 18] (fun s16 _ _ wr => ∃ k : Nat, k ≤ nh ∧ s16 = .int .i64 k ∧ Below wz.heap.size wz wr) (fun s16 _ _ _ => nh - (intOf s16).toNat)
      case atStart => exact ⟨0, Nat.zero_le _, rfl, hzz⟩
      case round =>
        clear hzz
        obtain ⟨k, hk, rfl, hbk⟩ := hrel
        by_cases hlt : k < nh
        · obtain ⟨wk, rfl⟩ : ∃ wk : World, wk = wr := ⟨_, rfl⟩
          go_wp2
          go_loopw [17, 18] (fun s17 _ wr => ∃ j : Nat, j ≤ k ∧ s17 = .int .i64 j ∧ Below wz.heap.size wz wr) (fun s17 _ _ => k - (intOf s17).toNat)
          case atStart => exact ⟨0, Nat.zero_le _, rfl, hbk⟩
          case round =>
            clear hbk
            obtain ⟨j, hj, rfl, hbj⟩ := hrel
            by_cases hjk : j < k
            · obtain ⟨b, off, p, he, hb, hp, p0, p1, p2⟩ := (unhide HRH wr hbj).op (k := k) hlt
              cases he
              obtain ⟨_, _, q, he, _, hq, q0, q1, q2⟩ := (unhide HRH wr hbj).op (k := j) (by omega)
              cases he
              obtain ⟨f1, f2⟩ := apart_at HII.out.apart hjk hq hp
              have CO := hide (rlodds_any p q wr.drew)
              rw [f1] at CO
              have HP := Lib.hid hp
              have HQ := Lib.hid hq
              obtain ⟨a1, a2, a3⟩ := p
              obtain ⟨b1, b2, b3⟩ := q
              simp only at p0 p1 p2 q0 q1 q2 f2
              unfold HOp.val at CO
              have n0 : (0 : Int) ≤ (k : Int) := by omega
              have n1 : (k : Int) < (nh : Int) := by omega
              have n2 : (0 : Int) ≤ (j : Int) := by omega
              have n3 : (j : Int) < (nh : Int) := by omega
              have hdd : Below wz.heap.size wz wr.drew := hbj.drew
              clear hp hq f1 hb
              go_wp2
              go_still_tail 8, (by kernel_rfl)
              change wpList _ _ _ _ _ wr.drew
              go_wp2_with fail
              refine (unhide CO).mono ?_
              rintro e w9 ⟨rfl, hb9⟩
              have hbj9 := hdd.trans (hb9.mono hdd.size)
              clear hb9 hbj hdd CO p0 p1 p2 q0 q1 q2
              obtain ⟨_, _, p, he, hb, hp, p0, p1, p2⟩ := (unhide HRH w9 hbj9).op (k := k) hlt
              cases he
              rw [HP.out] at hp
              cases hp
              obtain ⟨_, _, q, he, _, hq, q0, q1, q2⟩ := (unhide HRH w9 hbj9).op (k := j) (by omega)
              cases he
              rw [HQ.out] at hq
              cases hq
              by_cases ht : a1 = b1
              · have t1 : (a1 == b1) = true := by simp [ht]
                have t2 : (a2 == b2) = false := by
                  rw [beq_eq_false_iff_ne]; exact fun e => f2 ⟨ht, e⟩
                clear f2 ht
                go_wp2
                go_quiet (fail)
                go_wp2
                go_roundw
                case rel => exact ⟨j + 1, by omega, by go_num, below_drewN hbj9 _⟩
                case measure => simp [intOf]; omega
              · have t1 : (a1 == b1) = false := by rw [beq_eq_false_iff_ne]; exact ht
                clear f2 ht
                go_wp2
                go_quiet (fail)
                go_wp2
                go_roundw
                case rel => exact ⟨j + 1, by omega, by go_num, below_drewN hbj9 _⟩
                case measure => simp [intOf]; omega
            · go_wp2
              go_roundw
              case rel => exact ⟨k + 1, by omega, by go_num, hbj⟩
              case measure => simp [intOf]; omega
        · have hTk := (unhide HTZ).below hbk
          have CW := hide (waits_any x x v1' v2' H' W' wr hTk (by rw [HNW.out]; omega))
          rw [HNW.out] at CW
          have hz9 := hbk.size
          go_wp2_with fail
          refine (unhide CW).mono ?_
          rintro e w7 ⟨vW, rfl, hoW, hb7⟩
          obtain ⟨AW, cW, rfl⟩ := own_slice hoW
          have hrW := rd_own hoW
          have HRW := hide (fun w' (hb : Below w7.heap.size w7 w') => (hrW.below hb).more hb.size)
          have HT7 := hide (hTk.below hb7)
          have HB7 := hide ((unhide HBZ).trans ((hbk.trans (hb7.mono hz9)).mono hgz2))
          have hz7 : wz.heap.size ≤ w7.heap.size := by have := hb7.size; omega
          have hzz : Below w7.heap.size w7 w7 := Below.refl _ _
          clear hTk CW hoW hrW hb7 hbk hz9
          go_wp2
          go_loopw [20, 21, 22, 23] (fun s20 _ _ _ wr => ∃ k : Nat, k ≤ nw ∧ s20 = .int .i64 k ∧ Below w7.heap.size w7 wr) (fun s20 _ _ _ _ => nw - (intOf s20).toNat)
          case atStart => exact ⟨0, Nat.zero_le _, rfl, hzz⟩
          case round =>
            clear hzz
            obtain ⟨k, hk, rfl, hbk⟩ := hrel
            by_cases hlt : k < nw
            · obtain ⟨b, off, p, he, hb, hp, p0, p1, p2⟩ := (unhide HRW wr hbk).op (k := k) hlt
              cases he
              have hpm := List.mem_of_getElem? hp
              have CF := hide (lfor_walk x x v1' v2' H' W' p wr ((unhide HT7).below hbk) (by rw [HNH.out]; omega) (by rw [HNW.out]; omega) (HII.out.rightW p hpm))
              have HNE := Lib.hid (for_some HII.out hpm)
              have HP := Lib.hid hp
              obtain ⟨a1, a2, a3⟩ := p
              simp only at p0 p1 p2
              unfold HOp.val at CF
              clear hp hpm hb
              obtain ⟨F, hF⟩ : ∃ F, forF ⟨H', W'⟩ ⟨a1, a2, a3⟩ = F := ⟨_, rfl⟩
              rw [hF] at CF HNE
              clear hF
              have hz8 := hbk.size
              go_wp2_with fail
              refine (unhide CF).mono ?_
              rintro e w8 ⟨v8, rfl, ho8, hb8⟩
              obtain ⟨A8, c8, rfl⟩ := own_slice ho8
              have hb9 := hbk.trans (hb8.mono hz8)
              obtain ⟨f8, hf8⟩ : ∃ f8, F.length = f8 := ⟨_, rfl⟩
              have hf0 : f8 ≠ 0 := fun e => HNE.out (List.eq_nil_of_length_eq_zero (hf8.trans e))
              rw [hf8]
              have q8 : ((f8 : Int) == 0) = false := by rw [beq_eq_false_iff_ne]; omega
              have n0 : (0 : Int) ≤ (k : Int) := by omega
              have n1 : (k : Int) < (nw : Int) := by omega
              clear ho8 hb8 hbk CF p0 p1 p2 hf8
              go_wp2
              go_loopw [23] (fun s23 wr => ∃ j : Nat, j ≤ k ∧ s23 = .int .i64 j ∧ Below w7.heap.size w7 wr) (fun s23 _ => k - (intOf s23).toNat)
              case atStart => exact ⟨0, Nat.zero_le _, rfl, hb9⟩
              case round =>
                clear hb9
                obtain ⟨j, hj, rfl, hbj⟩ := hrel
                by_cases hjk : j < k
                · obtain ⟨_, _, p, he, hb, hp, p0, p1, p2⟩ := (unhide HRW wr hbj).op (k := k) hlt
                  cases he
                  rw [HP.out] at hp
                  cases hp
                  obtain ⟨_, _, q, he, _, hq, q0, q1, q2⟩ := (unhide HRW wr hbj).op (k := j) (by omega)
                  cases he
                  have hne := tx_at HII.out.wtx hjk hq HP.out
                  obtain ⟨b1, b2, b3⟩ := q
                  simp only at q0 q1 q2 hne
                  have t1 : (b1 == a1) = false := by rw [beq_eq_false_iff_ne]; exact hne
                  have n2 : (0 : Int) ≤ (j : Int) := by omega
                  have n3 : (j : Int) < (nw : Int) := by omega
                  clear hne hq
                  go_wp2
                  go_quiet (fail)
                  go_wp2
                  go_roundw
                  case rel => exact ⟨j + 1, by omega, by go_num, below_drewN hbj _⟩
                  case measure => simp [intOf]; omega
                · go_wp2
                  go_roundw
                  case rel => exact ⟨k + 1, by omega, by go_num, hbj⟩
                  case measure => simp [intOf]; omega
            · have hTE := (unhide HT7).below hbk
              have hBE := (unhide HB7).trans (hbk.mono (by omega))
              go_wp2
              go_roundw
              case rel => exact ⟨i + 1, at', H', W', v1', v2', by omega, hat', by go_num, rfl, hTE, HII.out, Lib.hid (by rw [HNH.out, HNW.out]; omega), hBE⟩
              case measure => simp [intOf]; omega
theorem own : ownKnob Try.prog.godebug = none := by kernel_rfl
theorem bytes_ints : Try.prog.bytesOf 3 = 8 := by kernel_rfl
theorem bytes_locks : Try.prog.bytesOf 29 = 24 := by kernel_rfl

/-! ### The row. -/
set_option maxRecDepth 100000 in
theorem lifted (os : Os) (started : os.Started) (H : Type) (enc : TypeId × Value → H) :
    ReturnsInHanded {} Try.checked os 4 .any (Rows.locksHoldSpec.pre6 enc Try.prog Try.f4 Rows.locksHoldRow.domain false) (Rows.locksHoldSpec.post enc Try.prog Try.f4 false true false false) := by
  refine returnsInHanded_of_change_sized (C := Try.checked) own started (by kernel_rfl) Try.func4
    (ChangeSpec.witness6 (enc := enc) (C := Try.checked) false ⟨#[], #[.slice none 0 0, .slice none 0 0], []⟩ 8 (by kernel_rfl) (by kernel_rfl) (by kernel_rfl) (by kernel_rfl)) ?_
  intro W base args ds gs before hval0 hW hcnd hsz0 _
  have hval : ∀ (j : Nat) t v, Try.f4.params[j]? = some t → args[j]? = some v → Value.okWide Try.prog W .any base t v := hval0
  have hW' := hW
  obtain ⟨p, q, hA0, hV, rfl, hfz, hnd⟩ := hW
  have hA : DataW.TrodAll enc Try.prog W 0 (fun _ => true) true Try.f4.params.toList args.toList ds p := hA0
  have hsz : (DataW.weightsEach Try.prog (Try.f4.params.toList ++ Rows.locksHoldSpec.plain.varTypes Try.prog) (ds ++ gs)).all (· ≤ reachBytes) = true := hsz0
  rw [Try.params4] at hA hval hsz
  obtain ⟨v0, vs0, d0, ds0, p0, q0, hargs, rfl, rfl, h0, r0⟩ := trodAll_cons hA
  obtain ⟨v1, vs1, d1, ds1, p1, q1, rfl, rfl, rfl, h1, r1⟩ := trodAll_cons r0
  obtain ⟨rfl, rfl, rfl⟩ := trodAll_nil r1
  obtain rfl : args = #[v0, v1] := by cases args; simp_all
  obtain ⟨rfl, rfl⟩ := trodVars_none hV
  simp only [List.append_nil] at hW'
  have hk0 := h0
  have hlt0 : ∀ x ∈ p0, x.block < W.heap.size := fun x hx => hW'.lt x (by simp [hx])
  obtain ⟨A0, n0, c0, l0, rfl, rd0, bd0⟩ := open_ops Try.underlying34 Try.underlying29 Try.underlying3 rfl rfl rfl (by kernel_rfl) (by kernel_rfl) (hval 0 34 v0 rfl rfl) h0 (fun e s he => by have := sized_slice hsz (j := 0) (t := 34) (e := 29) rfl (congrArg some he) Try.underlying34; rwa [bytes_locks] at this)
  have hk1 := h1
  have hlt1 : ∀ x ∈ p1, x.block < W.heap.size := fun x hx => hW'.lt x (by simp [hx])
  obtain ⟨A1, n1, c1, l1, rfl, rd1, bd1⟩ := open_is Try.underlying30 Try.underlying3 (by kernel_rfl) (hval 1 30 v1 rfl rfl) h1 (fun e s he => by have := sized_slice hsz (j := 1) (t := 30) (e := 3) rfl (congrArg some he) Try.underlying30; rwa [bytes_ints] at this)
  clear hA0 hval0
  refine (walk A0 n0 c0 l0 A1 n1 c1 l1 W rd0 bd0 rd1 bd1).mono fun e W' ⟨he, hg⟩ => ?_
  subst he
  exact ⟨_, rfl, post_slices (pa := _) (pv := []) hW' hg (by simp) (fun _ _ _ => (trodAll_cons_mk (shut_bool Try.underlying4 _) trodAll_mk0)) (trodAll_cons_mk (Below.trod laidOut (by kernel_rfl) (of_decide_eq_true (by kernel_rfl)) hk0 hg hlt0) (trodAll_cons_mk (Below.trod laidOut (by kernel_rfl) (of_decide_eq_true (by kernel_rfl)) hk1 hg hlt1) trodAll_mk0)) rfl⟩

theorem over : Rows.locksHoldRow.holds Try.pinned (OpenSpec.ofChange Rows.locksHoldSpec) :=
  OpenClaim.holds_of_wide 4 Try.f4 rfl rfl rfl rfl rfl rfl rfl ⟨rfl, rfl, rfl, rfl, rfl⟩ rfl rfl rfl rfl rfl (by kernel_rfl) Try.func4 (by kernel_rfl)
    (of_decide_eq_true (by kernel_rfl)) (by unfold Func.isWrapper; first | (rw [if_pos (by decide +kernel)]; kernel_rfl) | (rw [if_neg (by decide +kernel)]; exact ⟨rfl, rfl⟩))
    (fun os started H enc _ => lifted os started H enc)

/-- The statement. -/
theorem proved : Rows.LocksHoldSaid :=
  over
#print axioms proved
end Go.Proofs.Ytfmdeahblaikoaa.locksHold

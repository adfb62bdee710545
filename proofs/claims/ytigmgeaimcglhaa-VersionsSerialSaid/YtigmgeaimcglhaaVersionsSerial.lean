
/-
  PROVED: lanelaw2.VersionsSerial returns true, for every list of ops: with versions deals go as if one behind the other, by their numbers; and who only reads is done. No condition beyond the form's own reach.
-/
import Derived.Test.YtigmgeaimcglhaaVV1
import Derived.Test.YtigmgeaimcglhaaValidBy
import Derived.Test.YtigmgeaimcglhaaValidAE
import Derived.Test.YtigmgeaimcglhaaROf
import Derived.Test.YtigmgeaimcglhaaPieces
import Derived.Test.YtigmgeaimcglhaaN1
import Derived.Test.YtigmgeaimcglhaaOpen

namespace Go.Proofs.Ytigmgeaimcglhaa.versionsSerial
open Go.ChangeShapes Go.WideShapes Go.ChangeAt Go.RowKit Go.Proofs.Ytigmgeaimcglhaa

def oneM : List HOp := [⟨2, 1, 1⟩, ⟨1, 2, 1⟩, ⟨1, 3, 0⟩, ⟨2, 3, 0⟩]
theorem fact : okH oneM ∧ (playV verR oneM).dn = [2] := ⟨by show (checkF _).2 = 0; decide, by decide⟩
def wrB (l : List HOp) : Bool := l.any fun o => decide (o.what = 2)
theorem plain {h : List HOp} {ts : List Int} (H : ByNum (playV verR h) ts) {tx : Int} (hw : wrB (ownL h tx) = false) (he : endGo tx h = 3) : tx ∈ ts := by
  refine H.perm.mem_iff.2 (ver_reader h 0 vs00 (fun _ h => by cases h) (fun o ho ht h2 => ?_) ?_)
  · have := List.any_eq_false.1 hw o (List.mem_filter.2 ⟨ho, by simpa using ht⟩)
    simp [h2] at this
  · obtain ⟨o, ho, h1, _, h3⟩ := endGo_mem (tx := tx) (h := h) (endGo_in.1 (by rw [he]; decide))
    exact ⟨o, ho, h1, by rw [← h3]; exact he⟩

set_option maxRecDepth 100000 in
set_option maxHeartbeats 4000000 in
theorem walk (A : Option Addr) (n c : Nat) (h : List HOp) (w : World) (hr : Rd w w.heap.size 3 A n (cellsH h)) (hn : n * 24 ≤ 140737488351232) :
    Calls Try.prog 8 #[.slice A n c] w fun e w' => e = .returned (.bool true) ∧ Below w.heap.size w w' := by
  have hm : n ≤ 6000000000000 := by omega
  have HRd := hide (fun w1 (hb : Below w.heap.size w w1) => (hr.below hb).more hb.size)
  have HL := Lib.hid hr.hlen
  have HF := Lib.hid fact
  clear hr hn
  go_enter Try.func8, Try.ntmps8
  go_wp2_with fail
  have hr0 := rd_new w 24 (size := 3) (n := 4) [.int .i64 2, .int .i64 1, .int .i64 1, .int .i64 1, .int .i64 2, .int .i64 1, .int .i64 1, .int .i64 3, .int .i64 0, .int .i64 2, .int .i64 3, .int .i64 0] rfl
  have hb0 : Below w.heap.size w (w.alloc (.cells #[.int .i64 2, .int .i64 1, .int .i64 1, .int .i64 1, .int .i64 2, .int .i64 1, .int .i64 1, .int .i64 3, .int .i64 0, .int .i64 2, .int .i64 3, .int .i64 0] 24)) := (Below.refl _ _).alloc (Nat.le_refl _) _
  refine Calls.mono (ver_run (some ⟨w.heap.size, 0, none⟩) 4 4 oneM _ (hr0.more (by simp)) (by omega) HF.out.1) ?_
  rintro e w1 ⟨ts1, H1, A1, c1, A2, c2, b, n1, n2, rfl, r1, r2, r3, hb1, _⟩
  obtain rfl : ts1 = [2] := List.perm_singleton.1 (by rw [← HF.out.2]; exact H1.perm)
  obtain rfl : n1 = 1 := by have := r1.ilen; simpa using this.symm
  have hbw1 := hb0.trans (hb1.mono hb0.size)
  have hbw2 := hbw1.alloc hbw1.size (.cells #[.slice A1 1 c1, .slice A2 n2 c2, .slice (some ⟨b, 0, none⟩) 6 6] 28)
  obtain ⟨b1, off1, x, he, hlt1, hx, cx⟩ := (r1.alloc (Nat.le_refl _) (.cells #[.slice A1 1 c1, .slice A2 n2 c2, .slice (some ⟨b, 0, none⟩) 6 6] 28)).int (k := 0) (by omega)
  cases he
  obtain rfl : x = 2 := by simpa using hx.symm
  have cx0 := cx
  rw [Nat.add_zero] at cx0
  have z0 := (Blk.new w1 28 [.slice (some ⟨b1, off1, none⟩) 1 c1, .slice A2 n2 c2, .slice (some ⟨b, 0, none⟩) 6 6]).cellS (i := 0) (v := .slice (some ⟨b1, off1, none⟩) 1 c1) rfl
  clear hr0 hb0 hb1 HF r1 r2 r3 hx
  by_cases hok : okH h
  · have HOK := Lib.hid hok
    have HP0 := hide (fun ts (H : ByNum (playV verR h) ts) => And.intro (ver_serialL hok H) (fun (tx : Int) => plain H (tx := tx)))
    have hlen := okH_len hok
    have hn40 : n ≤ 40 := by rw [← HL.out]; exact hlen
    have HRI := Lib.hid (okH_right hok)
    clear hok hlen
    go_wp2_with fail
    refine (ver_run A n c h _ (unhide HRd _ hbw2) hm HOK.out).mono ?_
    rintro e w3 ⟨ts, HBN, A3, c3, A4, c4, b3, n3, n4, rfl, r1, r2, r3, hb3, hcap⟩
    have HP := Lib.hid (unhide HP0 ts HBN)
    clear HP0 HBN
    generalize lastOf (ts.map (dgd (playV verR h))) = last at *
    generalize seenOf { playV verR h with dn := ts } = seen at *
    have hbw3 := hbw2.trans (hb3.mono hbw2.size)
    have hbw4 := hbw3.alloc hbw3.size (.cells #[.slice A3 n3 c3, .slice A4 n4 c4, .slice (some ⟨b3, 0, none⟩) 6 6] 28)
    have hB4 := Blk.new w3 28 [.slice A3 n3 c3, .slice A4 n4 c4, .slice (some ⟨b3, 0, none⟩) 6 6]
    have h6 : n3 ≤ 6 := by
      have h1 := r1.ilen
      have h2 := HP.out.1.2.2.2.1
      omega
    have h4 : n4 ≤ 100000 := by
      have h1 := r2.hlen
      have h2 := HP.out.1.2.2.2.2.2
      have h5 := HL.out
      omega
    have HX := hide (fun w' (hb : Below (w3.heap.size + 1) (w3.alloc (.cells #[.slice A3 n3 c3, .slice A4 n4 c4, .slice (some ⟨b3, 0, none⟩) 6 6] 28)) w') => show Below w.heap.size w w' ∧ Blk w' w3.heap.size 28 [.slice A3 n3 c3, .slice A4 n4 c4, .slice (some ⟨b3, 0, none⟩) 6 6] ∧ Rd w' w'.heap.size 1 A3 n3 (cellsI ts) ∧ Rd w' w'.heap.size 3 A4 n4 (cellsH seen) ∧ Rd w' w'.heap.size 1 (some ⟨b3, 0, none⟩) 6 (cellsI last) from by
      have hz : w3.heap.size + 1 ≤ w'.heap.size := by have := hb.size; simpa using this
      have hx : Below w3.heap.size w3 w' := ((Below.refl _ _).alloc (Nat.le_refl _) _).trans (hb.mono (Nat.le_succ _))
      exact ⟨hbw3.trans (hx.mono hbw3.size), hB4.below hb (Nat.lt_succ_self _), (r1.below hx).more hx.size, (r2.below hx).more hx.size, (r3.below hx).more hx.size⟩)
    obtain ⟨hbw5, hB5, q1, q2, q3⟩ := unhide HX _ (Below.refl _ _)
    have CR := hide (lright_any A n c h A3 n3 c3 ts (.slice A4 n4 c4) (some ⟨b3, 0, none⟩) 6 _ (unhide HRd _ hbw5) (by omega) q1 hcap HP.out.1.2.1 HP.out.1.2.2.1 h6)
    have z0 := hB5.cellS (i := 0) (v := .slice A3 n3 c3) rfl
    have z1 := hB5.cellS (i := 1) (v := .slice A4 n4 c4) rfl
    have z2 := hB5.cellS (i := 2) (v := .slice (some ⟨b3, 0, none⟩) 6 6) rfl
    have HB5 := hide (show Below (w3.heap.size + 1) (w3.alloc (.cells #[.slice A3 n3 c3, .slice A4 n4 c4, .slice (some ⟨b3, 0, none⟩) 6 6] 28)) (w3.alloc (.cells #[.slice A3 n3 c3, .slice A4 n4 c4, .slice (some ⟨b3, 0, none⟩) 6 6] 28)) from Below.refl _ _)
    clear q1 q2 q3 hB5 hbw5 r1 r2 r3 hB4 hbw2 hbw3 hbw4 hb3
    go_wp2_with fail
    refine (unhide CR).mono ?_
    rintro e w6 ⟨rfl, hb6⟩
    obtain ⟨hbw6, hB6, q1, q2, q3⟩ := unhide HX w6 (hb6.mono (by simp))
    have CB := hide (lby_any A n c h (.slice A3 n3 c3) A4 n4 c4 seen b3 last A3 n3 c3 ts w6 (unhide HRd _ hbw6) (by omega) HRI.out q2 h4 q3 q1 (by omega) HP.out.1.1)
    have z0' := hB6.cellS (i := 0) (v := .slice A3 n3 c3) rfl
    have z1' := hB6.cellS (i := 1) (v := .slice A4 n4 c4) rfl
    have z2' := hB6.cellS (i := 2) (v := .slice (some ⟨b3, 0, none⟩) 6 6) rfl
    clear q1 q2 q3 CR z0 z1 z2
    go_wp2_with fail
    refine (unhide CB).mono ?_
    rintro e w7 ⟨rfl, hb7⟩
    obtain ⟨hbw7, hB7, q1, q2, q3⟩ := unhide HX w7 ((hb6.mono (by simp)).trans (hb7.mono (by have := hb6.size; simp at this; omega)))
    obtain ⟨W, hW⟩ : ∃ W : World, W = w7 := ⟨_, rfl⟩
    have HB4 := hide (fun w' (hb : Below W.heap.size W w') => And.intro (show Blk w' w3.heap.size 28 [.slice A3 n3 c3, .slice A4 n4 c4, .slice (some ⟨b3, 0, none⟩) 6 6] from by rw [hW] at hb; exact hB7.below hb hB7.lt) (And.intro (unhide HRd w' (by rw [hW] at hb; exact hbw7.trans (hb.mono hbw7.size))) (show Rd w' w7.heap.size 1 A3 n3 (cellsI ts) from by rw [hW] at hb; exact q1.below hb)))
    have hend : Hid (∀ w', Below W.heap.size W w' → Below w.heap.size w w') := Lib.hid (fun w' hb => by rw [hW] at hb; exact hbw7.trans (hb.mono hbw7.size))
    have hn3 : n3 ≤ 1000000 := by omega
    have HUP := Lib.hid (HP.out.1.2.2.2.2.1)
    have HRD := Lib.hid HP.out.2
    have HT := Lib.hid q1.ilen
    have y0 := hB7.cellS (i := 0) (v := .slice A3 n3 c3) rfl
    have HQ1 := hide q1
    clear q1 q2 q3 CB HX HP HB5 hB6 hbw6 z0' z1' z2' hbw7 hB7
    go_wp2
    go_loopw [8] (fun s0 wr => ∃ k : Nat, k ≤ n3 ∧ s0 = .int .i64 k ∧ Below W.heap.size W wr) (fun s0 _ => n3 - (intOf s0).toNat)
    case atStart => exact ⟨0, Nat.zero_le _, rfl, by rw [hW]; exact Below.refl _ _⟩
    case round =>
      obtain ⟨k, hk, rfl, hbV⟩ := hrel
      obtain ⟨hBV, _, hrV⟩ := unhide HB4 wr hbV
      have y0 := hBV.cellS (i := 0) (v := .slice A3 n3 c3) rfl
      by_cases hlt : k < n3
      · obtain ⟨b6, off6, x, he6, hb6x, hx6, d0⟩ := hrV.int (k := k) hlt
        cases he6
        by_cases hk0 : k = 0
        · subst hk0
          go_wp2
          go_quiet (fail)
          go_wp2
          go_roundw
          case rel => exact ⟨1, by omega, by go_num, below_drewN hbV _⟩
          case measure => simp [intOf]; omega
        · obtain ⟨j, hj⟩ : ∃ j : Nat, j + 1 = k := ⟨k - 1, by omega⟩
          obtain ⟨b8, off8, y, he8, hb8x, hy8, d8⟩ := hrV.int (k := j) (by omega)
          cases he8
          have hlt3 : y < x := by
            have hp := List.pairwise_iff_getElem.1 HUP.out
            obtain ⟨g1, g1'⟩ := List.getElem?_eq_some_iff.1 hx6
            obtain ⟨g2, g2'⟩ := List.getElem?_eq_some_iff.1 hy8
            have := hp j k g2 g1 (by omega)
            rw [g1', g2'] at this
            exact this
          have j0 : (0 : Int) ≤ (k : Int) := by omega
          have j1 : (k : Int) < (n3 : Int) := by omega
          have j2 : (j : Int) < (n3 : Int) := by omega
          have j3 : (0 : Int) ≤ (j : Int) := by omega
          have j4 : decide ((0 : Int) < (k : Int)) = true := decide_eq_true (by omega)
          have j5 : 0 < k := by omega
          have j6 : decide (0 < k) = true := decide_eq_true j5
          have tq : decide (x ≤ y) = false := decide_eq_false (by omega)
          have i1 : IntKind.i64.wrap ((k : Int) - 1) = (j : Int) := by
            rw [show (k : Int) - 1 = (j : Int) by omega]; exact IntWalk.i64_in _ (by omega)
          have hJ := Lib.hid hj
          clear hj hx6 hy8
          go_wp2
          go_region_held3 (fun w' => w'.cell? ⟨w3.heap.size, 0, none⟩ = some (.slice (some ⟨b6, off6, none⟩) n3 c3) ∧ w'.cell? ⟨b6, off6 + k, none⟩ = some (.int .i64 x) ∧ w'.cell? ⟨b6, off6 + j, none⟩ = some (.int .i64 y)) (first | exact ⟨y0, d0, d8⟩ | go_keep) (fail)
          go_wp2
          go_roundw
          case rel => exact ⟨k + 1, by omega, by go_num, hbV.drew⟩
          case measure => simp [intOf]; omega
      · go_wp2
        go_loopw [9] (fun s8 wr => ∃ t : Nat, 1 ≤ t ∧ t ≤ 7 ∧ s8 = .int .i64 t ∧ Below W.heap.size W wr) (fun s8 _ => 7 - (intOf s8).toNat)
        case atStart => exact ⟨1, by omega, by omega, rfl, hbV⟩
        case round =>
          obtain ⟨t, ht1, ht7, rfl, hbW⟩ := hrel
          obtain ⟨wo, rfl⟩ : ∃ wo : World, wo = wr := ⟨_, rfl⟩
          by_cases hlt : t ≤ 6
          · have hq : decide ((t : Int) ≤ 6) = true := decide_eq_true (by omega)
            obtain ⟨hB4, hrh, hrd⟩ := unhide HB4 wo hbW
            have CO := hide (rof_any A n c h t wo hrh (by omega))
            clear hB4 hrh hrd
            go_wp2_with fail
            refine (unhide CO).mono ?_
            rintro e w5 ⟨v5, m5, rfl, ho5, hm5, hb5⟩
            obtain ⟨A5, c5, rfl⟩ := own_slice ho5
            have hbW5 := hbW.trans (hb5.mono hbW.size)
            have hlo := (rd_own ho5).hlen
            obtain ⟨hB4, hrh, hrd⟩ := unhide HB4 w5 hbW5
            have y0 := hB4.cellS (i := 0) (v := .slice A3 n3 c3) rfl
            go_wp2
            go_loopw [11, 12] (fun s10 s11 wr => ∃ (k : Nat) (q : Bool), k ≤ m5 ∧ s11 = .int .i64 k ∧ s10 = .bool q ∧ w5 = wr ∧ Hid (q = wrB ((ownL h t).take k))) (fun _ s11 _ => m5 - (intOf s11).toNat)
            case atStart => exact ⟨0, false, Nat.zero_le _, rfl, rfl, rfl, Lib.hid rfl⟩
            case round =>
              obtain ⟨k, q, hk, rfl, rfl, rfl, HQ⟩ := hrel
              by_cases hlt2 : k < m5
              · obtain ⟨b6, off6, o, he6, hb6, ho6, d0, d1, d2⟩ := (rd_own ho5).op (k := k) hlt2
                cases he6
                have HQ2 : Hid ((q || decide (o.what = 2)) = wrB ((ownL h t).take (k + 1))) := Lib.hid (by rw [HQ.out, takeSnoc ho6]; unfold wrB; rw [List.any_append]; simp)
                obtain ⟨o1, o2, o3⟩ := o
                simp only at d0 d1 d2 HQ2
                clear ho6
                cases q
                · by_cases h2 : o2 = 2
                  · subst h2
                    have HQ3 : Hid (true = wrB ((ownL h t).take (k + 1))) := Lib.hid (by rw [← HQ2.out]; rfl)
                    go_wp2
                    go_roundw
                    case rel => exact ⟨k + 1, true, by omega, by go_num, (by first | rfl | trivial), (by first | rfl | trivial), HQ3⟩
                    case measure => simp [intOf]; omega
                  · have tb : (o2 == 2) = false := by simpa using h2
                    have HQ3 : Hid (false = wrB ((ownL h t).take (k + 1))) := Lib.hid (by rw [← HQ2.out, decide_eq_false h2]; rfl)
                    go_wp2
                    go_roundw
                    case rel => exact ⟨k + 1, false, by omega, by go_num, (by first | rfl | trivial), (by first | rfl | trivial), HQ3⟩
                    case measure => simp [intOf]; omega
                · have HQ3 : Hid (true = wrB ((ownL h t).take (k + 1))) := Lib.hid (by rw [← HQ2.out]; rfl)
                  go_wp2
                  go_roundw
                  case rel => exact ⟨k + 1, true, by omega, by go_num, (by first | rfl | trivial), (by first | rfl | trivial), HQ3⟩
                  case measure => simp [intOf]; omega
              · have HQ3 : Hid (q = wrB (ownL h t)) := Lib.hid (by rw [HQ.out, List.take_of_length_le (by omega)])
                have CI := hide (rin_any A3 n3 c3 ts t w5 _ hrd (by omega))
                have CE := hide (end_any A n c h t n w5 _ hrh (Nat.le_refl _) (by omega))
                obtain ⟨dd, hdd⟩ : ∃ dd : Bool, decide ((t : Int) ∈ ts) = dd := ⟨_, rfl⟩
                rw [hdd] at CI
                have HDD := Lib.hid hdd
                obtain ⟨ev, hev⟩ : ∃ ev : Int, endGo t (h.take n) = ev := ⟨_, rfl⟩
                rw [hev] at CE
                have HEV := Lib.hid hev
                clear hdd hev HQ hrd hrh
                go_wp2_with fail
                refine (unhide CI).mono ?_
                rintro e w6 ⟨rfl, rfl⟩
                cases q
                · cases dd
                  · have he3 : (ev == 3) = false := by
                      rw [beq_eq_false_iff_ne]
                      intro e3
                      have h1 := HRD.out t HQ3.out.symm (by rw [← e3, ← HEV.out, List.take_of_length_le (by rw [HL.out]; exact Nat.le_refl _)])
                      have h2 := HDD.out
                      rw [decide_eq_true h1] at h2
                      cases h2
                    go_wp2_with fail
                    refine (unhide CE).mono ?_
                    rintro e w7 ⟨rfl, rfl⟩
                    go_wp2
                    go_roundw
                    case rel => exact ⟨t + 1, by omega, by omega, by go_num, hbW5⟩
                    case measure => simp [intOf]; omega
                  · go_wp2
                    go_roundw
                    case rel => exact ⟨t + 1, by omega, by omega, by go_num, hbW5⟩
                    case measure => simp [intOf]; omega
                · go_wp2
                  go_roundw
                  case rel => exact ⟨t + 1, by omega, by omega, by go_num, hbW5⟩
                  case measure => simp [intOf]; omega
          · have hq : decide ((t : Int) ≤ 6) = false := decide_eq_false (by omega)
            go_wp2
            go_ret
            exact ⟨rfl, hend.out _ hbW⟩
  · have HNO := Lib.hid hok
    have hne : Hid ((checkF h).2 ≠ 0) := Lib.hid hok
    have CN2 := hide (ver_no A n c h _ (unhide HRd _ hbw2) hm HNO.out)
    rw [ne_errV hne.out] at CN2
    generalize (checkF h).2 = ev at *
    clear hok HNO hne
    go_wp2_with fail
    refine (unhide CN2).mono ?_
    rintro e w2 ⟨rfl, hb2⟩
    have hbw3 := (hbw2.trans (hb2.mono hbw2.size))
    have hbw4 := hbw3.alloc hbw3.size (.cells #[.slice none 0 0, .slice none 0 0, .slice none 0 0] 28)
    go_wp2
    go_ret
    exact ⟨rfl, hbw4⟩

theorem own : ownKnob Try.prog.godebug = none := by kernel_rfl
theorem bytes_ops : Try.prog.bytesOf 24 = 24 := by kernel_rfl

/-! ### The row. -/
set_option maxRecDepth 100000 in
theorem lifted (os : Os) (started : os.Started) (H : Type) (enc : TypeId × Value → H) :
    ReturnsInHanded {} Try.checked os 8 .any (Rows.versionsSerialSpec.pre6 enc Try.prog Try.f8 Rows.versionsSerialRow.domain false) (Rows.versionsSerialSpec.post enc Try.prog Try.f8 false true false false) := by
  refine returnsInHanded_of_change_sized (C := Try.checked) own started (by kernel_rfl) Try.func8
    (ChangeSpec.witness6 (enc := enc) (C := Try.checked) false ⟨#[], #[.slice none 0 0], []⟩ 8 (by kernel_rfl) (by kernel_rfl) (by kernel_rfl) (by kernel_rfl)) ?_
  intro W base args ds gs before hval0 hW hcnd hsz0 _
  have hval : ∀ (j : Nat) t v, Try.f8.params[j]? = some t → args[j]? = some v → Value.okWide Try.prog W .any base t v := hval0
  have hW' := hW
  obtain ⟨p, q, hA0, hV, rfl, hfz, hnd⟩ := hW
  have hA : DataW.TrodAll enc Try.prog W 0 (fun _ => true) true Try.f8.params.toList args.toList ds p := hA0
  have hsz : (DataW.weightsEach Try.prog (Try.f8.params.toList ++ Rows.versionsSerialSpec.plain.varTypes Try.prog) (ds ++ gs)).all (· ≤ reachBytes) = true := hsz0
  rw [Try.params8] at hA hval hsz
  obtain ⟨v0, vs0, d0, ds0, p0, q0, hargs, rfl, rfl, h0, r0⟩ := trodAll_cons hA
  obtain ⟨rfl, rfl, rfl⟩ := trodAll_nil r0
  obtain rfl : args = #[v0] := by cases args; simp_all
  obtain ⟨rfl, rfl⟩ := trodVars_none hV
  simp only [List.append_nil] at hW'
  have hk0 := h0
  have hlt0 : ∀ x ∈ p0, x.block < W.heap.size := fun x hx => hW'.lt x (by simp [hx])
  obtain ⟨A0, n0, c0, l0, rfl, rd0, bd0⟩ := open_ops Try.underlying22 Try.underlying24 Try.underlying3 rfl rfl rfl (by kernel_rfl) (by kernel_rfl) (hval 0 22 v0 rfl rfl) h0 (fun e s he => by have := sized_slice hsz (j := 0) (t := 22) (e := 24) rfl (congrArg some he) Try.underlying22; rwa [bytes_ops] at this)
  clear hA0 hval0
  refine (walk A0 n0 c0 l0 W rd0 bd0).mono fun e W' ⟨he, hg⟩ => ?_
  subst he
  exact ⟨_, rfl, post_slices (pa := _) (pv := []) hW' hg (by simp) (fun _ _ _ => (trodAll_cons_mk (shut_bool Try.underlying4 _) trodAll_mk0)) (trodAll_cons_mk (Below.trod laidOut (by kernel_rfl) (of_decide_eq_true (by kernel_rfl)) hk0 hg hlt0) trodAll_mk0) rfl⟩

theorem over : Rows.versionsSerialRow.holds Try.pinned (OpenSpec.ofChange Rows.versionsSerialSpec) :=
  OpenClaim.holds_of_wide 8 Try.f8 rfl rfl rfl rfl rfl rfl rfl ⟨rfl, rfl, rfl, rfl, rfl⟩ rfl rfl rfl rfl rfl (by kernel_rfl) Try.func8 (by kernel_rfl)
    (of_decide_eq_true (by kernel_rfl)) (by unfold Func.isWrapper; first | (rw [if_pos (by decide +kernel)]; kernel_rfl) | (rw [if_neg (by decide +kernel)]; exact ⟨rfl, rfl⟩))
    (fun os started H enc _ => lifted os started H enc)

/-- The statement. -/
theorem proved : Rows.VersionsSerialSaid :=
  over
#print axioms proved
end Go.Proofs.Ytigmgeaimcglhaa.versionsSerial


/-
  PROVED: the tied card of lanelaw3.LogStops: it returns true, for every three numbers: a log stops at the step that was told; then all is refused, till it crashes; then all goes on. Condition: the listed variables begin as the program's text lays them (the card ties them); the form's own reach.
-/
import Derived.Test.YtahbaddclacakaaDoorDoorT
import Derived.Test.YtahbaddclacakaaDoorCrash
import Derived.Test.YtahbaddclacakaaDoorStopsP

namespace Go.Proofs.YtahbaddclacakaaDoor.logStops
open Go.ChangeShapes Go.WideShapes Go.ChangeAt Go.RowKit Go.Proofs.YtahbaddclacakaaDoor

def iE (n : Int) : Value := .iface 56 (.int .i64 n)
set_option maxRecDepth 100000 in
set_option maxHeartbeats 8000000 in
theorem walk (after many keep : Int) (w : World) (hE : Et w) (hm : Mx w) : Calls Tryd.prog 4 #[.int .i64 after, .int .i64 many, .int .i64 keep] w fun e w' => e = .returned (.bool true) ∧ Below w.heap.size w w' := by
  have C0 := hide (log_new w)
  obtain ⟨w1, hw1⟩ : ∃ w1, w1 = w.alloc (.cells #[.slice none 0 0, .string ⟨#[]⟩, .int .i64 0, .int .i64 (-1), .bool false] 55) := ⟨_, rfl⟩
  have hB1 : LogB w1 w.heap.size log0 := by rw [hw1]; exact log_new_is w
  have hb1 : Below w.heap.size w w1 := by rw [hw1]; exact (Below.refl _ _).alloc (Nat.le_refl _) _
  rw [← hw1] at C0
  have hz1 := hb1.size
  have hpos := hE.pos
  have hmp := hm.pos
  have HE := hide (fun w' (hb : Below w.heap.size w w') => And.intro (hE.below hb hpos) (hm.below hb hmp))
  clear hw1
  by_cases hbad : after < 0 ∨ 15 < after ∨ many < 0 ∨ 15 < many
  · have h4 : after < 0 ∨ (¬ after < 0 ∧ 15 < after) ∨ (¬ after < 0 ∧ ¬ 15 < after ∧ many < 0) ∨ (¬ after < 0 ∧ ¬ 15 < after ∧ ¬ many < 0 ∧ 15 < many) := by omega
    have CB := hide (bytes_any w.heap.size log0 w1 hB1)
    have CV := hide (values_of w.heap.size log0 w1 hB1 logI0)
    clear hbad
    rcases h4 with h4 | ⟨g1, h4⟩ | ⟨g1, g2, h4⟩ | ⟨g1, g2, g3, h4⟩
    all_goals
      go_enter Tryd.func4, Tryd.ntmps4
      go_wp2_with fail
      refine (unhide C0).mono ?_
      rintro e w2 ⟨rfl, rfl⟩
      go_wp2_with fail
      refine (unhide CB).mono ?_
      rintro e w3 ⟨rfl, rfl⟩
      rw [show (log0.b.length : Int) = 0 from rfl]
      go_wp2_with fail
      refine (unhide CV).mono ?_
      rintro e w4 ⟨v4, rfl, ho4, hb4⟩
      obtain ⟨A4, c4, rfl⟩ := own_slice ho4
      have hbw4 := hb1.trans (hb4.mono hz1)
      go_wp2
      go_ret
      exact ⟨rfl, hbw4⟩
  obtain ⟨a, rfl⟩ : ∃ a : Nat, after = (a : Int) := ⟨after.toNat, by omega⟩
  obtain ⟨m, rfl⟩ : ∃ m : Nat, many = (m : Int) := ⟨many.toNat, by omega⟩
  have ha : a ≤ 15 := by omega
  have hm15 : m ≤ 15 := by omega
  have g1 : ¬ (a : Int) < 0 := by omega
  have g2 : ¬ 15 < (a : Int) := by omega
  have g3 : ¬ (m : Int) < 0 := by omega
  have g4 : ¬ 15 < (m : Int) := by omega
  have CF := hide (fail_any w.heap.size log0 (a : Int) w1 hB1)
  rw [sC_zero] at CF
  have CD := hide (fun (i : Nat) w' (hB : LogB w' w.heap.size (sC a i)) => And.intro (do_any w.heap.size (sC a i) opBad w' hB ((sC_I a i ha).ok' (sC_left a i ha))) (do_any w.heap.size (sC a i) opGood w' hB ((sC_I a i ha).ok' (sC_left a i ha))))
  have HST := Lib.hid (fun i => stop_step a i ha)
  clear hbad
  go_enter Tryd.func4, Tryd.ntmps4
  go_wp2_with fail
  refine (unhide C0).mono ?_
  rintro e w2 ⟨rfl, rfl⟩
  go_wp2_with fail
  refine (unhide CF).mono ?_
  rintro e w3 ⟨rfl, hB3, hg3⟩
  have hb3 := hb1.trans (below_grown hg3 (Nat.le_refl _) hz1)
  clear CF C0 hB1 hg3 g3 g4
  go_wp2
  go_loopw [8, 9] (fun s8 s9 wr => ∃ i : Nat, i ≤ m ∧ s8 = .int .i64 i ∧ s9 = .int .i64 i ∧ LogB wr w.heap.size (sC a i) ∧ Below w.heap.size w wr) (fun _ s9 _ => m - (intOf s9).toNat)
  case atStart => exact ⟨0, Nat.zero_le _, rfl, rfl, hB3, hb3⟩
  case round =>
    clear hB3 hb3
    obtain ⟨i, hi, rfl, rfl, hB, hbw⟩ := hrel
    by_cases hlt : i < m
    · have C1 := hide (unhide CD i wr hB).1
      unfold DoPost opBad HOp.val at C1
      obtain ⟨s1, s2⟩ := HST.out i
      unfold opBad at s1
      rw [s1] at C1
      have h3 : i < a ∨ i = a ∨ a < i := by omega
      rcases h3 with h3 | h3 | h3
      · rw [if_pos (show i ≤ a by omega)] at C1
        rw [if_pos h3] at s2
        rw [show errV ((1 : Int), sC a i).1 = .iface 56 (.int .i64 1) from rfl] at C1
        have HS2 := Lib.hid s2
        have t1 : ¬ (a : Int) < (i : Int) := by omega
        have t2 : (i : Int) ≤ (a : Int) := by omega
        have t3 : ((i : Int) == (a : Int)) = false := by simp; omega
        have t4 : (i : Int) < (a : Int) := by omega
        have hltI : (i : Int) < (m : Int) := by omega
        clear s1 s2
        go_wp2_with fail
        refine (unhide C1).mono ?_
        rintro e w4 ⟨rfl, hB4, hg4⟩
        have hb4 := hbw.trans (below_grown hg4 (Nat.le_refl _) hbw.size)
        have C2 := hide (unhide CD i w4 hB4).2
        unfold DoPost opGood HOp.val at C2
        have s2 := HS2.out
        unfold opGood at s2
        rw [s2] at C2
        rw [show errV ((0 : Int), sC a (i + 1)).1 = .nilIface from rfl] at C2
        clear s2 C1 hB
        go_wp2_with fail
        refine (unhide C2).mono ?_
        rintro e w5 ⟨rfl, hB5, hg5⟩
        have hb5 := hb4.trans (below_grown hg5 (Nat.le_refl _) hb4.size)
        have E1 := hide (error_any 1 6 w5 (unhide HE w5 hb5).1)
        rw [show errV 1 = .iface 56 (.int .i64 1) from rfl, decide_eq_false (show ¬ (1 : Int) = 6 by decide)] at E1
        go_wp2_with fail
        refine (unhide E1).mono ?_
        rintro e w6 ⟨rfl, hb6x⟩
        have hbw6 := hb5.trans (hb6x.mono hb5.size)
        have hB6 := hB5.below hb6x (Nat.le_refl _)
        clear hB5 hb6x E1
        have E2 := hide (error_any 1 1 w6 (unhide HE w6 hbw6).1)
        rw [show errV 1 = .iface 56 (.int .i64 1) from rfl, decide_eq_true (show (1 : Int) = 1 from rfl)] at E2
        go_wp2_with fail
        refine (unhide E2).mono ?_
        rintro e w7 ⟨rfl, hb7x⟩
        have hbw7 := hbw6.trans (hb7x.mono hbw6.size)
        have hB7 := hB6.below hb7x (Nat.le_refl _)
        clear hB6 hb7x E2
        have E3 := hide (error_any 0 6 w7 (unhide HE w7 hbw7).1)
        rw [errV_zero, decide_eq_false (show ¬ (0 : Int) = 6 by decide)] at E3
        go_wp2_with fail
        refine (unhide E3).mono ?_
        rintro e w8 ⟨rfl, hb8x⟩
        have hbw8 := hbw7.trans (hb8x.mono hbw7.size)
        have hB8 := hB7.below hb8x (Nat.le_refl _)
        clear hB7 hb8x E3
        go_wp2
        go_roundw
        case rel => exact ⟨i + 1, by omega, by go_num, by go_num, hB8, hbw8⟩
        case measure => simp [intOf]; omega
      · subst h3
        rw [if_pos (Nat.le_refl _)] at C1
        rw [if_neg (Nat.lt_irrefl _)] at s2
        rw [show errV ((1 : Int), sC i i).1 = .iface 56 (.int .i64 1) from rfl] at C1
        have HS2 := Lib.hid s2
        have hltI : (i : Int) < (m : Int) := by omega
        clear s1 s2
        go_wp2_with fail
        refine (unhide C1).mono ?_
        rintro e w4 ⟨rfl, hB4, hg4⟩
        have hb4 := hbw.trans (below_grown hg4 (Nat.le_refl _) hbw.size)
        have C2 := hide (unhide CD i w4 hB4).2
        unfold DoPost opGood HOp.val at C2
        have s2 := HS2.out
        unfold opGood at s2
        rw [s2] at C2
        rw [show errV ((6 : Int), sC i (i + 1)).1 = .iface 56 (.int .i64 6) from rfl] at C2
        clear s2 C1 hB
        go_wp2_with fail
        refine (unhide C2).mono ?_
        rintro e w5 ⟨rfl, hB5, hg5⟩
        have hb5 := hb4.trans (below_grown hg5 (Nat.le_refl _) hb4.size)
        have E1 := hide (error_any 1 6 w5 (unhide HE w5 hb5).1)
        rw [show errV 1 = .iface 56 (.int .i64 1) from rfl, decide_eq_false (show ¬ (1 : Int) = 6 by decide)] at E1
        go_wp2_with fail
        refine (unhide E1).mono ?_
        rintro e w6 ⟨rfl, hb6x⟩
        have hbw6 := hb5.trans (hb6x.mono hb5.size)
        have hB6 := hB5.below hb6x (Nat.le_refl _)
        clear hB5 hb6x E1
        have E2 := hide (error_any 1 1 w6 (unhide HE w6 hbw6).1)
        rw [show errV 1 = .iface 56 (.int .i64 1) from rfl, decide_eq_true (show (1 : Int) = 1 from rfl)] at E2
        go_wp2_with fail
        refine (unhide E2).mono ?_
        rintro e w7 ⟨rfl, hb7x⟩
        have hbw7 := hbw6.trans (hb7x.mono hbw6.size)
        have hB7 := hB6.below hb7x (Nat.le_refl _)
        clear hB6 hb7x E2
        have E3 := hide (error_any 6 6 w7 (unhide HE w7 hbw7).1)
        rw [show errV 6 = .iface 56 (.int .i64 6) from rfl, decide_eq_true (show (6 : Int) = 6 from rfl)] at E3
        go_wp2_with fail
        refine (unhide E3).mono ?_
        rintro e w8 ⟨rfl, hb8x⟩
        have hbw8 := hbw7.trans (hb8x.mono hbw7.size)
        have hB8 := hB7.below hb8x (Nat.le_refl _)
        clear hB7 hb8x E3
        go_wp2
        go_roundw
        case rel => exact ⟨i + 1, by omega, by go_num, by go_num, hB8, hbw8⟩
        case measure => simp [intOf]; omega
      · rw [if_neg (show ¬ i ≤ a by omega)] at C1
        rw [if_neg (show ¬ i < a by omega)] at s2
        rw [show errV ((6 : Int), sC a i).1 = .iface 56 (.int .i64 6) from rfl] at C1
        have HS2 := Lib.hid s2
        have t1 : (a : Int) < (i : Int) := by omega
        have t2 : ¬ (i : Int) ≤ (a : Int) := by omega
        have t3 : ((i : Int) == (a : Int)) = false := by simp; omega
        have t4 : ¬ (i : Int) < (a : Int) := by omega
        have hltI : (i : Int) < (m : Int) := by omega
        clear s1 s2
        go_wp2_with fail
        refine (unhide C1).mono ?_
        rintro e w4 ⟨rfl, hB4, hg4⟩
        have hb4 := hbw.trans (below_grown hg4 (Nat.le_refl _) hbw.size)
        have C2 := hide (unhide CD i w4 hB4).2
        unfold DoPost opGood HOp.val at C2
        have s2 := HS2.out
        unfold opGood at s2
        rw [s2] at C2
        rw [show errV ((6 : Int), sC a (i + 1)).1 = .iface 56 (.int .i64 6) from rfl] at C2
        clear s2 C1 hB
        go_wp2_with fail
        refine (unhide C2).mono ?_
        rintro e w5 ⟨rfl, hB5, hg5⟩
        have hb5 := hb4.trans (below_grown hg5 (Nat.le_refl _) hb4.size)
        have E1 := hide (error_any 6 6 w5 (unhide HE w5 hb5).1)
        rw [show errV 6 = .iface 56 (.int .i64 6) from rfl, decide_eq_true (show (6 : Int) = 6 from rfl)] at E1
        go_wp2_with fail
        refine (unhide E1).mono ?_
        rintro e w6 ⟨rfl, hb6x⟩
        have hbw6 := hb5.trans (hb6x.mono hb5.size)
        have hB6 := hB5.below hb6x (Nat.le_refl _)
        clear hB5 hb6x E1
        have E2 := hide (error_any 6 1 w6 (unhide HE w6 hbw6).1)
        rw [show errV 6 = .iface 56 (.int .i64 6) from rfl, decide_eq_false (show ¬ (6 : Int) = 1 by decide)] at E2
        go_wp2_with fail
        refine (unhide E2).mono ?_
        rintro e w7 ⟨rfl, hb7x⟩
        have hbw7 := hbw6.trans (hb7x.mono hbw6.size)
        have hB7 := hB6.below hb7x (Nat.le_refl _)
        clear hB6 hb7x E2
        have E3 := hide (error_any 6 6 w7 (unhide HE w7 hbw7).1)
        rw [show errV 6 = .iface 56 (.int .i64 6) from rfl, decide_eq_true (show (6 : Int) = 6 from rfl)] at E3
        go_wp2_with fail
        refine (unhide E3).mono ?_
        rintro e w8 ⟨rfl, hb8x⟩
        have hbw8 := hbw7.trans (hb8x.mono hbw7.size)
        have hB8 := hB7.below hb8x (Nat.le_refl _)
        clear hB7 hb8x E3
        go_wp2
        go_roundw
        case rel => exact ⟨i + 1, by omega, by go_num, by go_num, hB8, hbw8⟩
        case measure => simp [intOf]; omega
    · obtain rfl : i = m := by omega
      rw [← yC_zero] at hB
      have CY := hide (fun (k : Nat) (hk : k ≤ a + 1 - i) w' (hB : LogB w' w.heap.size (yC a i k)) => sync_any w.heap.size (yC a i k) w' hB ((yC_I a i k ha hk).ok' (yC_left a i k ha)))
      have HSY := Lib.hid (fun k (hk : i + k ≤ a) => sync_step a i k hk)
      have HBI := Lib.hid hB
      clear CD HST hi hlt hB
      go_wp2
      go_loopw [8] (fun s8 wr => ∃ k : Nat, k ≤ a + 1 - i ∧ s8 = .int .i64 ((i + k : Nat) : Int) ∧ LogB wr w.heap.size (yC a i k) ∧ Below w.heap.size w wr) (fun s8 _ => a + 1 - (intOf s8).toNat)
      case atStart => exact ⟨0, Nat.zero_le _, rfl, HBI.out, hbw⟩
      case round =>
        clear HBI hbw
        obtain ⟨k, hk, rfl, hB, hbw⟩ := hrel
        by_cases hle : i + k ≤ a
        · have C1 := hide (unhide CY k hk _ hB)
          rw [HSY.out k hle] at C1
          have hleI : ((i + k : Nat) : Int) ≤ (a : Int) := by omega
          by_cases he : i + k = a
          · rw [if_pos he] at C1
            rw [show errV ((6 : Int), yC a i (k + 1)).1 = .iface 56 (.int .i64 6) from rfl] at C1
            have t3 : (((i + k : Nat) : Int) == (a : Int)) = true := by simp; omega
            go_wp2_with fail
            refine (unhide C1).mono ?_
            rintro e w4 ⟨rfl, hB4, hg4⟩
            have hb4 := hbw.trans (below_grown hg4 (Nat.le_refl _) hbw.size)
            go_wp2
            go_roundw
            case rel => exact ⟨k + 1, by omega, by go_num, hB4, hb4⟩
            case measure => simp [intOf]; omega
          · rw [if_neg he] at C1
            rw [show errV ((0 : Int), yC a i (k + 1)).1 = .nilIface from rfl] at C1
            have t3 : (((i + k : Nat) : Int) == (a : Int)) = false := by simp; omega
            go_wp2_with fail
            refine (unhide C1).mono ?_
            rintro e w4 ⟨rfl, hB4, hg4⟩
            have hb4 := hbw.trans (below_grown hg4 (Nat.le_refl _) hbw.size)
            go_wp2
            go_roundw
            case rel => exact ⟨k + 1, by omega, by go_num, hB4, hb4⟩
            case measure => simp [intOf]; omega
        · obtain ⟨y1, y2⟩ := yC_end (show a < i + k by omega)
          have hI := yC_I a i k ha hk
          have hL := yC_left a i k ha
          have hnle : ¬ ((i + k : Nat) : Int) ≤ (a : Int) := by omega
          generalize yC a i k = z at *
          have CS1 := hide (sync_any w.heap.size z _ hB (hI.ok' hL))
          rw [syncF_st y1, show errV ((6 : Int), z).1 = .iface 56 (.int .i64 6) from rfl] at CS1
          have CD2 := hide (fun w' (hB : LogB w' w.heap.size z) => do_any w.heap.size z ⟨2, 1, 1⟩ w' hB (hI.ok' hL))
          unfold DoPost HOp.val at CD2
          rw [doF_st y1, show errV ((6 : Int), z).1 = .iface 56 (.int .i64 6) from rfl] at CD2
          obtain ⟨j, hj, hcr⟩ := crash_rep hI y2 keep
          have CC := hide (fun w' (hB : LogB w' w.heap.size z) hm' => crash_any w.heap.size z keep w' hB hI (hI.ok' hL) hm' hmp)
          rw [hcr] at CC
          have hg := goes_all j (List.mem_range.2 (by omega))
          unfold goesB at hg
          simp only [Bool.and_eq_true, decide_eq_true_eq] at hg
          obtain ⟨⟨⟨⟨⟨⟨q1, q2⟩, q3⟩, q4⟩, q5⟩, q6⟩, q7⟩ := hg
          have hIC : LogI (cC j) := by rw [← hcr]; exact hI.crash keep
          have hIV := ((hIC.doo ⟨3, 2, 1⟩).doo ⟨3, 3, 0⟩).sync
          have C5 := hide (fun w' (hB : LogB w' w.heap.size (cC j)) => do_any w.heap.size (cC j) ⟨3, 2, 1⟩ w' hB (okB_ok q2))
          have C6 := hide (fun w' (hB : LogB w' w.heap.size (doF (cC j) ⟨3, 2, 1⟩).2) => do_any w.heap.size (doF (cC j) ⟨3, 2, 1⟩).2 ⟨3, 3, 0⟩ w' hB (okB_ok q4))
          have C7 := hide (fun w' (hB : LogB w' w.heap.size (doF (doF (cC j) ⟨3, 2, 1⟩).2 ⟨3, 3, 0⟩).2) => sync_any w.heap.size (doF (doF (cC j) ⟨3, 2, 1⟩).2 ⟨3, 3, 0⟩).2 w' hB (okB_ok q5))
          have C8 := hide (fun w' (hB : LogB w' w.heap.size (syncF (doF (doF (cC j) ⟨3, 2, 1⟩).2 ⟨3, 3, 0⟩).2).2) => values_of w.heap.size _ w' hB hIV)
          unfold DoPost HOp.val at C5 C6
          rw [q1, errV_zero] at C5
          rw [q3, errV_zero] at C6
          rw [q6, errV_zero] at C7
          have HQ7 := Lib.hid q7
          clear hcr q1 q2 q3 q4 q5 q6 q7 hIV hIC hI hL y1 y2 hj CY HSY
          generalize cC j = c0 at *
          generalize doF c0 ⟨3, 2, 1⟩ = d1 at *
          generalize doF d1.2 ⟨3, 3, 0⟩ = d2 at *
          generalize syncF d2.2 = d3 at *
          generalize (playF d3.2.h).1 = PV at *
          go_wp2_with fail
          refine (unhide CS1).mono ?_
          rintro e w4 ⟨rfl, hB4, hg4⟩
          have hb4 := hbw.trans (below_grown hg4 (Nat.le_refl _) hbw.size)
          clear CS1 hB hg4
          go_wp2_with fail
          refine (unhide CD2 w4 hB4).mono ?_
          rintro e w5 ⟨rfl, hB5, hg5⟩
          have hb5 := hb4.trans (below_grown hg5 (Nat.le_refl _) hb4.size)
          have E1 := hide (error_any 6 6 w5 (unhide HE w5 hb5).1)
          rw [show errV 6 = .iface 56 (.int .i64 6) from rfl, decide_eq_true (show (6 : Int) = 6 from rfl)] at E1
          clear CD2 hB4 hg5
          go_wp2_with fail
          refine (unhide E1).mono ?_
          rintro e w6 ⟨rfl, hb6⟩
          have hbw6 := hb5.trans (hb6.mono hb5.size)
          have hB6 := hB5.below hb6 (Nat.le_refl _)
          have E2 := hide (error_any 6 6 w6 (unhide HE w6 hbw6).1)
          rw [show errV 6 = .iface 56 (.int .i64 6) from rfl, decide_eq_true (show (6 : Int) = 6 from rfl)] at E2
          clear E1 hB5 hb6
          go_wp2_with fail
          refine (unhide E2).mono ?_
          rintro e w7 ⟨rfl, hb7⟩
          have hbw7 := hbw6.trans (hb7.mono hbw6.size)
          have hB7 := hB6.below hb7 (Nat.le_refl _)
          clear E2 hB6 hb7
          go_wp2_with fail
          refine (unhide CC w7 hB7 (unhide HE w7 hbw7).2).mono ?_
          rintro e w8 ⟨rfl, hB8, hg8⟩
          have hbw8 := hbw7.trans (below_grown hg8 (Nat.le_refl _) hbw7.size)
          clear CC hB7 hg8
          go_wp2_with fail
          refine (unhide C5 w8 hB8).mono ?_
          rintro e w9 ⟨rfl, hB9, hg9⟩
          have hbw9 := hbw8.trans (below_grown hg9 (Nat.le_refl _) hbw8.size)
          clear C5 hB8 hg9
          go_wp2_with fail
          refine (unhide C6 w9 hB9).mono ?_
          rintro e w10 ⟨rfl, hB10, hg10⟩
          have hbw10 := hbw9.trans (below_grown hg10 (Nat.le_refl _) hbw9.size)
          clear C6 hB9 hg10
          go_wp2_with fail
          refine (unhide C7 w10 hB10).mono ?_
          rintro e w11 ⟨rfl, hB11, hg11⟩
          have hbw11 := hbw10.trans (below_grown hg11 (Nat.le_refl _) hbw10.size)
          clear C7 hB10 hg11
          go_wp2_with fail
          refine (unhide C8 w11 hB11).mono ?_
          rintro e w12 ⟨v12, rfl, ho12, hb12⟩
          obtain ⟨A12, c12, rfl⟩ := own_slice ho12
          have hbw12 := hbw11.trans (hb12.mono hbw11.size)
          obtain ⟨bb, off, x, he, hbl, hx, cx⟩ := (rd_own ho12).int (k := 0) (by omega)
          cases he
          have hx22 : x = 22 := by have := HQ7.out; rw [hx] at this; exact Option.some.inj this
          subst hx22
          have cx0 := cx
          rw [Nat.add_zero] at cx0
          clear C8 hB11 ho12 hb12 hx
          go_wp2
          go_ret
          exact ⟨rfl, hbw12⟩

/-! ### The row. -/
set_option maxRecDepth 100000 in
theorem lifted (os : Os) (started : os.Started) (H : Type) (enc : TypeId × Value → H) :
    ReturnsInHanded {} Tryd.checked os 4 .any (fun w args => (Rows.logStopsSpec.pre enc Tryd.prog Tryd.f4 [] false w args ∧ laidMetH Tryd.prog dLaid3 w) ∧ sizedMet enc Tryd.prog Tryd.f4 (OpenSpec.ofChange Rows.logStopsSpec) false w args) (Rows.logStopsSpec.post enc Tryd.prog Tryd.f4 false true false false) := by
  refine returns_and_shaped (C := Tryd.checked) (X := fun w _ => laidMetH Tryd.prog dLaid3 w) (fun _ _ _ hh h => h.of_heap hh) dOwn started (by kernel_rfl) Tryd.func4
    (ChangeSpec.witness_at (enc := enc) (C := Tryd.checked) (os := os) (X := fun w _ => laidMetH Tryd.prog dLaid3 w) false (laidWorld3 os) #[.int .i64 0, .int .i64 0, .int .i64 0] 8 rfl (by kernel_rfl) (by kernel_rfl) (by kernel_rfl) (by kernel_rfl) (by kernel_rfl) (laidWorld3_met os _)) ?_
  intro W base args ds gs before hval0 hW hcnd hsz0 hL hsh _
  have hval : ∀ (j : Nat) t v, Tryd.f4.params[j]? = some t → args[j]? = some v → Value.okWide Tryd.prog W .any base t v := hval0
  have hW' := hW
  obtain ⟨p, q, hA0, hV, rfl, hfz, hnd⟩ := hW
  have hA : DataW.TrodAll enc Tryd.prog W 0 (fun _ => true) true Tryd.f4.params.toList args.toList ds p := hA0
  rw [Tryd.params4] at hA hval
  obtain ⟨v0, vs0, d0, ds0, p0, q0, hargs, rfl, rfl, h0, r0⟩ := trodAll_cons hA
  obtain ⟨v1, vs1, d1, ds1, p1, q1, rfl, rfl, rfl, h1, r1⟩ := trodAll_cons r0
  obtain ⟨v2, vs2, d2, ds2, p2, q2, rfl, rfl, rfl, h2, r2⟩ := trodAll_cons r1
  obtain ⟨rfl, rfl, rfl⟩ := trodAll_nil r2
  obtain rfl : args = #[v0, v1, v2] := by cases args; simp_all
  obtain ⟨rfl, rfl⟩ := trodVars_none hV
  simp only [List.append_nil] at hW'
  obtain ⟨a0, rfl, rfl, rfl, w0⟩ := open_int Tryd.underlying3 (hval 0 3 v0 rfl rfl) h0
  obtain ⟨a1, rfl, rfl, rfl, w1⟩ := open_int Tryd.underlying3 (hval 1 3 v1 rfl rfl) h1
  obtain ⟨a2, rfl, rfl, rfl, w2⟩ := open_int Tryd.underlying3 (hval 2 3 v2 rfl rfl) h2
  clear hA0 hval0
  refine (walk a0 a1 a2 W (et_of_laid3 hL) (mx_of_shaped hsh) ).mono fun e W' ⟨he, hg⟩ => ?_
  subst he
  exact ⟨_, rfl, post_slices (pa := _) (pv := []) hW' hg (by simp) (fun _ _ _ => (trodAll_cons_mk (shut_bool Tryd.underlying4 _) trodAll_mk0)) (trodAll_cons_mk (shut_int Tryd.underlying3 w0) (trodAll_cons_mk (shut_int Tryd.underlying3 w1) (trodAll_cons_mk (shut_int Tryd.underlying3 w2) trodAll_mk0))) rfl⟩

theorem over : Rows.LogStopsSaid :=
  OpenClaim.holds_of_wide 4 Tryd.f4 rfl rfl rfl rfl rfl rfl rfl ⟨rfl, rfl, rfl, rfl, rfl⟩ rfl rfl rfl rfl rfl (by kernel_rfl) Tryd.func4 (by kernel_rfl)
    (of_decide_eq_true (by kernel_rfl)) (by unfold Func.isWrapper; first | (rw [if_pos (by decide +kernel)]; kernel_rfl) | (rw [if_neg (by decide +kernel)]; exact ⟨rfl, rfl⟩))
    (fun os started H enc _ => lifted os started H enc)

/-- The statement: the tied card. -/
theorem proved : Rows.LogStopsCardSaid :=
  Claim7.holds_tied_plain_at .later [] [.data, .handle, .pinned] true _ true
    over (fun _ h => by cases h) (by kernel_rfl) (fun _ h => by cases h) logStops_row_tie rfl ⟨rfl, rfl⟩ (by kernel_rfl) rfl
    (fun f fn hf hfn => by
      obtain rfl : f = 4 := Option.some.inj ((show Tryd.prog.funcNamed "locklane/lanelaw3.LogStops" = some 4 by kernel_rfl).symm.trans hf) |>.symm
      obtain rfl : fn = Tryd.f4 := (Option.some.inj (Tryd.func4.symm.trans hfn)).symm
      exact ⟨by kernel_rfl, fun j t ht => by
        rw [Tryd.params4] at ht
        have hm : t ∈ [3] := by have := Array.mem_of_getElem? ht; simpa using this
        have hall : ([3].all fun u => !Tryd.prog.wantsStandIn u) = true := by kernel_rfl
        exact (show Tryd.prog.wantsStandIn t = false by simpa using List.all_eq_true.1 hall t hm)⟩)
    (by kernel_rfl)
#print axioms proved

end Go.Proofs.YtahbaddclacakaaDoor.logStops

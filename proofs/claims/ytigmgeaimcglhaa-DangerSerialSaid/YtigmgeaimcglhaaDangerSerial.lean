
/-
  PROVED: lanelaw2.DangerSerial returns true, for every list of ops: what is done, where nobody may be between, is so by some order; and so is what is done by what was when deals began, if nobody is between. No condition beyond the form's own reach.
-/
import Derived.Test.YtigmgeaimcglhaaVD2
import Derived.Test.YtigmgeaimcglhaaOutSame
import Derived.Test.YtigmgeaimcglhaaValidAD
import Derived.Test.YtigmgeaimcglhaaValidSome
import Derived.Test.YtigmgeaimcglhaaOpen

namespace Go.Proofs.Ytigmgeaimcglhaa.dangerSerial
open Go.ChangeShapes Go.WideShapes Go.ChangeAt Go.RowKit Go.Proofs.Ytigmgeaimcglhaa

/-! ### The plain law. -/
def oneF : List HOp := [⟨1, 1, 1⟩, ⟨2, 1, 2⟩, ⟨1, 2, 2⟩, ⟨2, 2, 1⟩, ⟨1, 3, 0⟩, ⟨2, 3, 0⟩]
theorem fact : okH oneF ∧ (playV danR oneF).dn = [1] ∧ pivsD (doneD (playV snapR oneF)) = [1, 2] := ⟨by show (checkF _).2 = 0; decide, by decide, by decide⟩
theorem facts_of {l : List HOp} (hk : okH l) {s : VSt} (I : InvS l l.length s) : s.dn.Nodup ∧ (∀ t ∈ s.dn, endGo t l = 3) ∧ s.dn.length ≤ 6 ∧ (seenOf s).length ≤ 240 := by
  have h1 := vdone_right hk I.ok I.dnds I.dnN fun t ht => snap_com I ht
  have h2 := seenOf_len I.ok I.dnds I.nodup
  have h3 := okH_len hk
  have h4 : s.dn.length * l.length ≤ 6 * 40 := Nat.mul_le_mul h1.2 h3
  exact ⟨I.dnN, h1.1, h1.2, by omega⟩
theorem some_of {l : List HOp} (hk : okH l) {s : VSt} (I : InvS l l.length s) (hp : NoPiv (doneD s)) : someF (byB l (seenOf s) s.last) s.dn 6 [] = true := by
  obtain ⟨q, hq, hB⟩ := fekete hk I hp
  have h1 := byL_done (l := l) I.nodup I.dnds I.dnN I.seen (q := q) (fun d hd => hq.mem_iff.1 hd) hB
  have h2 : (q.map (·.tx)).Perm s.dn := by
    have := hq.map (fun d : Dl => d.tx)
    rw [doneD_txs I.nodup I.dnds] at this
    exact this
  refine someF_of _ 6 [] (q.map fun d : Dl => d.tx) (by rw [List.nil_append]; exact h2) I.dnN ?_ ?_
  · rw [h2.length_eq]; exact (facts_of hk I).2.2.1
  · rw [List.nil_append]
    unfold byB
    rw [h1]
    exact decide_eq_true rfl
theorem plain {l : List HOp} (hk : okH l) : someF (byB l (seenOf (playV danR l)) (playV danR l).last) (playV danR l).dn 6 [] = true ∧ (pivsD (doneD (playV snapR l)) = [] → someF (byB l (seenOf (playV snapR l)) (playV snapR l).last) (playV snapR l).dn 6 [] = true ∧ playV danR l = playV snapR l) := by
  refine ⟨some_of hk (dan_inv hk) (dan_nopiv hk), fun h => ?_⟩
  have I := snap_inv hk
  have hn := pivs_noPiv (fun d hd => (I.done_at hd).2.2.2.2.2) h
  exact ⟨some_of hk I hn, dan_eq_snap hk hn⟩
def OutR (w' : World) (B1 B2 : Option Addr) (q1 q2 b : Nat) (s : VSt) : Prop := Rd w' w'.heap.size 1 B1 q1 (cellsI s.dn) ∧ Rd w' w'.heap.size 3 B2 q2 (cellsH (seenOf s)) ∧ Rd w' w'.heap.size 1 (some ⟨b, 0, none⟩) 6 (cellsI s.last)
theorem OutR.below {w w' : World} {B1 B2 : Option Addr} {q1 q2 b : Nat} {s : VSt} (h : OutR w B1 B2 q1 q2 b s) (hb : Below w.heap.size w w') : OutR w' B1 B2 q1 q2 b s :=
  ⟨(h.1.below hb).more hb.size, (h.2.1.below hb).more hb.size, (h.2.2.below hb).more hb.size⟩

set_option maxRecDepth 100000 in
set_option maxHeartbeats 4000000 in
theorem walk (A : Option Addr) (n c : Nat) (h : List HOp) (w : World) (hr : Rd w w.heap.size 3 A n (cellsH h)) (hn : n * 24 ≤ 140737488351232) :
    Calls Try.prog 7 #[.slice A n c] w fun e w' => e = .returned (.bool true) ∧ Below w.heap.size w w' := by
  have hm : n ≤ 6000000000000 := by omega
  have HRd := hide (fun w1 (hb : Below w.heap.size w w1) => (hr.below hb).more hb.size)
  have HL := Lib.hid hr.hlen
  have HF := Lib.hid fact
  clear hr hn
  go_enter Try.func7, Try.ntmps7
  go_wp2_with fail
  have hr0 := rd_new w 24 (size := 3) (n := 6) [.int .i64 1, .int .i64 1, .int .i64 1, .int .i64 2, .int .i64 1, .int .i64 2, .int .i64 1, .int .i64 2, .int .i64 2, .int .i64 2, .int .i64 2, .int .i64 1, .int .i64 1, .int .i64 3, .int .i64 0, .int .i64 2, .int .i64 3, .int .i64 0] rfl
  have hb0 : Below w.heap.size w (w.alloc (.cells #[.int .i64 1, .int .i64 1, .int .i64 1, .int .i64 2, .int .i64 1, .int .i64 2, .int .i64 1, .int .i64 2, .int .i64 2, .int .i64 2, .int .i64 2, .int .i64 1, .int .i64 1, .int .i64 3, .int .i64 0, .int .i64 2, .int .i64 3, .int .i64 0] 24)) := (Below.refl _ _).alloc (Nat.le_refl _) _
  have hr1 : Rd (w.alloc (.cells #[.int .i64 1, .int .i64 1, .int .i64 1, .int .i64 2, .int .i64 1, .int .i64 2, .int .i64 1, .int .i64 2, .int .i64 2, .int .i64 2, .int .i64 2, .int .i64 1, .int .i64 1, .int .i64 3, .int .i64 0, .int .i64 2, .int .i64 3, .int .i64 0] 24)) (w.alloc (.cells #[.int .i64 1, .int .i64 1, .int .i64 1, .int .i64 2, .int .i64 1, .int .i64 2, .int .i64 1, .int .i64 2, .int .i64 2, .int .i64 2, .int .i64 2, .int .i64 1, .int .i64 1, .int .i64 3, .int .i64 0, .int .i64 2, .int .i64 3, .int .i64 0] 24)).heap.size 3 (some ⟨w.heap.size, 0, none⟩) 6 (cellsH oneF) := hr0.more (by simp)
  refine Calls.mono (dan_run (some ⟨w.heap.size, 0, none⟩) 6 6 oneF _ hr1 (by omega) HF.out.1) ?_
  rintro e w1 ⟨A1, c1, A2, c2, b0, n1, n2, rfl, r1, r2, r3, hbb1, _⟩
  rw [HF.out.2.1] at r1
  obtain rfl : n1 = 1 := by have := r1.ilen; simpa using this.symm
  have hbw1 := hb0.trans (hbb1.mono hb0.size)
  have hbw2 := hbw1.alloc hbw1.size (.cells #[.slice A1 1 c1, .slice A2 n2 c2, .slice (some ⟨b0, 0, none⟩) 6 6] 28)
  have hB1 := Blk.new w1 28 [.slice A1 1 c1, .slice A2 n2 c2, .slice (some ⟨b0, 0, none⟩) 6 6]
  have hr2 := (hr1.below (hbb1.alloc hbb1.size (.cells #[.slice A1 1 c1, .slice A2 n2 c2, .slice (some ⟨b0, 0, none⟩) 6 6] 28))).more (hbb1.alloc hbb1.size (.cells #[.slice A1 1 c1, .slice A2 n2 c2, .slice (some ⟨b0, 0, none⟩) 6 6] 28)).size
  have CP1 := hide (dpivots_any (some ⟨w.heap.size, 0, none⟩) 6 6 oneF _ hr2 (by omega) HF.out.1)
  rw [HF.out.2.2] at CP1
  clear hr0 hr1 hr2 hb0 hbb1 HF r1 r2 r3
  go_wp2_with fail
  refine (unhide CP1).mono ?_
  rintro e w2 ⟨A3, m3, c3, rfl, hr3, _, hb3⟩
  obtain rfl : m3 = 2 := by have := hr3.ilen; simpa using this.symm
  have hbw3 := hbw2.trans (hb3.mono hbw2.size)
  have hB3 := hB1.below hb3 hB1.lt
  have z0 := hB3.cellS (i := 0) (v := .slice A1 1 c1) rfl
  clear CP1 hr3 hB1 hb3 hbw1 hbw2
  by_cases hok : okH h
  · have HOK := Lib.hid hok
    have HP := Lib.hid (plain hok)
    have HFD := Lib.hid (facts_of hok (dan_inv hok))
    have HFS := Lib.hid (facts_of hok (snap_inv hok))
    have hn40 : n ≤ 40 := by rw [← HL.out]; exact okH_len hok
    have HRI := Lib.hid (okH_right hok)
    clear hok
    go_wp2_with fail
    refine (dan_run A n c h _ (unhide HRd _ hbw3) hm HOK.out).mono ?_
    rintro e w4 ⟨B1, d1, B2, d2, b4, q1, q2, rfl, p1, p2, p3, hb4, hcap4⟩
    have O1 : OutR w4 B1 B2 q1 q2 b4 (playV danR h) := ⟨p1, p2, p3⟩
    have hx4 : Below w4.heap.size w4 (w4.alloc (.cells #[.slice B1 q1 d1, .slice B2 q2 d2, .slice (some ⟨b4, 0, none⟩) 6 6] 28)) := (Below.refl _ _).alloc (Nat.le_refl _) _
    have hbw4 := hbw3.trans (hb4.mono hbw3.size)
    have hq1 : q1 ≤ 6 := by have h1 := p1.ilen; have h2 := HFD.out.2.2.1; omega
    have hq2 : q2 ≤ 100000 := by have h1 := p2.hlen; have h2 := HFD.out.2.2.2; omega
    have F1 := hide (fun w' (hb : Below (w4.alloc (.cells #[.slice B1 q1 d1, .slice B2 q2 d2, .slice (some ⟨b4, 0, none⟩) 6 6] 28)).heap.size (w4.alloc (.cells #[.slice B1 q1 d1, .slice B2 q2 d2, .slice (some ⟨b4, 0, none⟩) 6 6] 28)) w') => And.intro (hbw4.trans ((hx4.trans (hb.mono hx4.size)).mono hbw4.size)) (And.intro ((Blk.new w4 28 [.slice B1 q1 d1, .slice B2 q2 d2, .slice (some ⟨b4, 0, none⟩) 6 6]).below hb (by simp)) (O1.below (hx4.trans (hb.mono hx4.size)))))
    have CR := hide (fun w' (hb : Below (w4.alloc (.cells #[.slice B1 q1 d1, .slice B2 q2 d2, .slice (some ⟨b4, 0, none⟩) 6 6] 28)).heap.size (w4.alloc (.cells #[.slice B1 q1 d1, .slice B2 q2 d2, .slice (some ⟨b4, 0, none⟩) 6 6] 28)) w') => lright_any A n c h B1 q1 d1 (playV danR h).dn (.slice B2 q2 d2) (some ⟨b4, 0, none⟩) 6 w' (unhide HRd _ (unhide F1 w' hb).1) (by omega) (unhide F1 w' hb).2.2.1 hcap4 HFD.out.1 HFD.out.2.1 hq1)
    have CO := hide (fun w' (hb : Below (w4.alloc (.cells #[.slice B1 q1 d1, .slice B2 q2 d2, .slice (some ⟨b4, 0, none⟩) 6 6] 28)).heap.size (w4.alloc (.cells #[.slice B1 q1 d1, .slice B2 q2 d2, .slice (some ⟨b4, 0, none⟩) 6 6] 28)) w') => some_any A n c h B1 q1 d1 (playV danR h).dn B2 q2 d2 (seenOf (playV danR h)) b4 (playV danR h).last (by omega) HRI.out (by omega) hq2 6 [] none 0 0 w' (unhide HRd _ (unhide F1 w' hb).1) (unhide F1 w' hb).2.2.1 (unhide F1 w' hb).2.2.2.1 (unhide F1 w' hb).2.2.2.2 Rd.nil (by omega) (by omega) (by omega))
    rw [HP.out.1] at CO
    have HB0 := hide (show Below (w4.alloc (.cells #[.slice B1 q1 d1, .slice B2 q2 d2, .slice (some ⟨b4, 0, none⟩) 6 6] 28)).heap.size (w4.alloc (.cells #[.slice B1 q1 d1, .slice B2 q2 d2, .slice (some ⟨b4, 0, none⟩) 6 6] 28)) (w4.alloc (.cells #[.slice B1 q1 d1, .slice B2 q2 d2, .slice (some ⟨b4, 0, none⟩) 6 6] 28)) from Below.refl _ _)
    obtain ⟨_, hX, _⟩ := unhide F1 _ (unhide HB0)
    have x0 := hX.cellS (i := 0) (v := .slice B1 q1 d1) rfl
    have x1 := hX.cellS (i := 1) (v := .slice B2 q2 d2) rfl
    have x2 := hX.cellS (i := 2) (v := .slice (some ⟨b4, 0, none⟩) 6 6) rfl
    clear O1 p1 p2 p3 hX z0 hB3
    go_wp2_with fail
    refine (unhide CR _ (unhide HB0)).mono ?_
    rintro e w5 ⟨rfl, hb5⟩
    obtain ⟨_, hX, _⟩ := unhide F1 w5 hb5
    have y0 := hX.cellS (i := 0) (v := .slice B1 q1 d1) rfl
    have y1 := hX.cellS (i := 1) (v := .slice B2 q2 d2) rfl
    have y2 := hX.cellS (i := 2) (v := .slice (some ⟨b4, 0, none⟩) 6 6) rfl
    clear hX x0 x1 x2 CR
    go_wp2_with fail
    refine (unhide CO w5 hb5).mono ?_
    rintro e w6 ⟨rfl, hb6⟩
    have hb46 := hb5.trans (hb6.mono hb5.size)
    clear CO y0 y1 y2 hb5 hb6
    go_wp2_with fail
    refine (snap_run A n c h w6 (unhide HRd _ (unhide F1 w6 hb46).1) hm HOK.out).mono ?_
    rintro e w7 ⟨C1, f1, C2, f2, b7, g1, g2, rfl, p1, p2, p3, hb7, hcap7⟩
    have O2 : OutR w7 C1 C2 g1 g2 b7 (playV snapR h) := ⟨p1, p2, p3⟩
    have hg1 : g1 ≤ 6 := by have h1 := p1.ilen; have h2 := HFS.out.2.2.1; omega
    have hg2 : g2 ≤ 100000 := by have h1 := p2.hlen; have h2 := HFS.out.2.2.2; omega
    have hx7 : Below w7.heap.size w7 (w7.alloc (.cells #[.slice C1 g1 f1, .slice C2 g2 f2, .slice (some ⟨b7, 0, none⟩) 6 6] 28)) := (Below.refl _ _).alloc (Nat.le_refl _) _
    have F2 := hide (fun w' (hb : Below (w7.alloc (.cells #[.slice C1 g1 f1, .slice C2 g2 f2, .slice (some ⟨b7, 0, none⟩) 6 6] 28)).heap.size (w7.alloc (.cells #[.slice C1 g1 f1, .slice C2 g2 f2, .slice (some ⟨b7, 0, none⟩) 6 6] 28)) w') => And.intro (unhide F1 w' (hb46.trans ((hb7.trans ((hx7.trans (hb.mono hx7.size)).mono hb7.size)).mono hb46.size))) (And.intro ((Blk.new w7 28 [.slice C1 g1 f1, .slice C2 g2 f2, .slice (some ⟨b7, 0, none⟩) 6 6]).below hb (by simp)) (O2.below (hx7.trans (hb.mono hx7.size)))))
    have HB7 := hide (show Below (w7.alloc (.cells #[.slice C1 g1 f1, .slice C2 g2 f2, .slice (some ⟨b7, 0, none⟩) 6 6] 28)).heap.size (w7.alloc (.cells #[.slice C1 g1 f1, .slice C2 g2 f2, .slice (some ⟨b7, 0, none⟩) 6 6] 28)) (w7.alloc (.cells #[.slice C1 g1 f1, .slice C2 g2 f2, .slice (some ⟨b7, 0, none⟩) 6 6] 28)) from Below.refl _ _)
    clear O2 p1 p2 p3 hb7 hb46 HB0
    go_wp2_with fail
    refine (dpivots_any A n c h _ (unhide HRd _ (unhide F2 _ (unhide HB7)).1.1) hm HOK.out).mono ?_
    rintro e w8 ⟨A8, m8, c8, rfl, hr8, hm8, hb8⟩
    have hl8 := hr8.ilen
    have CR2 := hide (lright_any A n c h C1 g1 f1 (playV snapR h).dn (.slice C2 g2 f2) (some ⟨b7, 0, none⟩) 6 w8 (unhide HRd _ (unhide F2 w8 hb8).1.1) (by omega) (unhide F2 w8 hb8).2.2.1 hcap7 HFS.out.1 HFS.out.2.1 hg1)
    obtain ⟨_, hX, _⟩ := unhide F2 w8 hb8
    have x0 := hX.cellS (i := 0) (v := .slice C1 g1 f1) rfl
    have x1 := hX.cellS (i := 1) (v := .slice C2 g2 f2) rfl
    have x2 := hX.cellS (i := 2) (v := .slice (some ⟨b7, 0, none⟩) 6 6) rfl
    clear hX hr8 F1
    go_wp2_with fail
    refine (unhide CR2).mono ?_
    rintro e w9 ⟨rfl, hb9⟩
    have hb89 := hb8.trans (hb9.mono hb8.size)
    clear CR2 x0 x1 x2
    by_cases h0 : m8 = 0
    · subst h0
      have hpe : pivsD (doneD (playV snapR h)) = [] := List.eq_nil_of_length_eq_zero hl8
      have CO2 := hide (some_any A n c h C1 g1 f1 (playV snapR h).dn C2 g2 f2 (seenOf (playV snapR h)) b7 (playV snapR h).last (by omega) HRI.out (by omega) hg2 6 [] none 0 0 w9 (unhide HRd _ (unhide F2 w9 hb89).1.1) (unhide F2 w9 hb89).2.2.1 (unhide F2 w9 hb89).2.2.2.1 (unhide F2 w9 hb89).2.2.2.2 Rd.nil (by omega) (by omega) (by omega))
      rw [(HP.out.2 hpe).1] at CO2
      have HEQ := Lib.hid (HP.out.2 hpe).2
      obtain ⟨_, hX, _⟩ := unhide F2 w9 hb89
      have x0 := hX.cellS (i := 0) (v := .slice C1 g1 f1) rfl
      have x1 := hX.cellS (i := 1) (v := .slice C2 g2 f2) rfl
      have x2 := hX.cellS (i := 2) (v := .slice (some ⟨b7, 0, none⟩) 6 6) rfl
      clear hX hpe hl8
      go_wp2_with fail
      refine (unhide CO2).mono ?_
      rintro e w10 ⟨rfl, hb10⟩
      have hb810 := hb89.trans (hb10.mono hb89.size)
      obtain ⟨⟨_, hY, y1', y2', y3'⟩, hX, z1', z2', z3'⟩ := unhide F2 w10 hb810
      rw [HEQ.out] at y1' y2' y3'
      have s0 := hX.cellS (i := 0) (v := .slice C1 g1 f1) rfl
      have s1 := hX.cellS (i := 1) (v := .slice C2 g2 f2) rfl
      have s2 := hX.cellS (i := 2) (v := .slice (some ⟨b7, 0, none⟩) 6 6) rfl
      have t0 := hY.cellS (i := 0) (v := .slice B1 q1 d1) rfl
      have t1 := hY.cellS (i := 1) (v := .slice B2 q2 d2) rfl
      have t2 := hY.cellS (i := 2) (v := .slice (some ⟨b4, 0, none⟩) 6 6) rfl
      have CQ := hide (outcome_true C1 C2 (some ⟨b7, 0, none⟩) B1 B2 (some ⟨b4, 0, none⟩) g1 g2 6 f1 f2 6 q1 q2 6 d1 d2 6 (playV snapR h).dn (seenOf (playV snapR h)) (playV snapR h).last w10 z1' z2' z3' y1' y2' y3' (by omega) hg2 (by omega))
      have HEND := hide (unhide F2 w10 hb810).1.1
      clear hX hY y1' y2' y3' z1' z2' z3' x0 x1 x2 CO2
      go_wp2_with fail
      refine (unhide CQ).mono ?_
      rintro e w11 ⟨rfl, hb11⟩
      go_wp2
      go_ret
      exact ⟨rfl, (unhide HEND).trans (hb11.mono (unhide HEND).size)⟩
    · have tg : decide ((0 : Int) < (m8 : Int)) = true := decide_eq_true (by omega)
      have tg2 : decide (0 < m8) = true := decide_eq_true (by omega)
      have HEND := hide (unhide F2 w9 hb89).1.1
      clear hl8
      go_wp2
      go_ret
      exact ⟨rfl, unhide HEND⟩
  · have HNO := Lib.hid hok
    have hne : Hid ((checkF h).2 ≠ 0) := Lib.hid hok
    have CN2 := hide (dan_no A n c h _ (unhide HRd _ hbw3) hm HNO.out)
    rw [ne_errV hne.out] at CN2
    generalize (checkF h).2 = ev at *
    clear hok HNO hne
    go_wp2_with fail
    refine (unhide CN2).mono ?_
    rintro e w4 ⟨rfl, hb4⟩
    have hbw4 := (hbw3.trans (hb4.mono hbw3.size))
    have hbw5 := hbw4.alloc hbw4.size (.cells #[.slice none 0 0, .slice none 0 0, .slice none 0 0] 28)
    go_wp2
    go_ret
    exact ⟨rfl, hbw5⟩

theorem own : ownKnob Try.prog.godebug = none := by kernel_rfl
theorem bytes_ops : Try.prog.bytesOf 24 = 24 := by kernel_rfl

/-! ### The row. -/
set_option maxRecDepth 100000 in
theorem lifted (os : Os) (started : os.Started) (H : Type) (enc : TypeId × Value → H) :
    ReturnsInHanded {} Try.checked os 7 .any (Rows.dangerSerialSpec.pre6 enc Try.prog Try.f7 Rows.dangerSerialRow.domain false) (Rows.dangerSerialSpec.post enc Try.prog Try.f7 false true false false) := by
  refine returnsInHanded_of_change_sized (C := Try.checked) own started (by kernel_rfl) Try.func7
    (ChangeSpec.witness6 (enc := enc) (C := Try.checked) false ⟨#[], #[.slice none 0 0], []⟩ 8 (by kernel_rfl) (by kernel_rfl) (by kernel_rfl) (by kernel_rfl)) ?_
  intro W base args ds gs before hval0 hW hcnd hsz0 _
  have hval : ∀ (j : Nat) t v, Try.f7.params[j]? = some t → args[j]? = some v → Value.okWide Try.prog W .any base t v := hval0
  have hW' := hW
  obtain ⟨p, q, hA0, hV, rfl, hfz, hnd⟩ := hW
  have hA : DataW.TrodAll enc Try.prog W 0 (fun _ => true) true Try.f7.params.toList args.toList ds p := hA0
  have hsz : (DataW.weightsEach Try.prog (Try.f7.params.toList ++ Rows.dangerSerialSpec.plain.varTypes Try.prog) (ds ++ gs)).all (· ≤ reachBytes) = true := hsz0
  rw [Try.params7] at hA hval hsz
  obtain ⟨v0, vs0, d0, ds0, p0, q0, hargs, rfl, rfl, h0, r0⟩ := trodAll_cons hA
  obtain ⟨rfl, rfl, rfl⟩ := trodAll_nil r0
  obtain rfl : args = #[v0] := by cases args; simp_all
  obtain ⟨rfl, rfl⟩ := trodVars_none hV
  simp only [List.append_nil] at hW'
  have hk0 := h0
  have hlt0 : ∀ x ∈ p0, x.block < W.heap.size := fun x hx => hW'.lt x (by simp [hx])
  obtain ⟨A0, n0, c0, l0, rfl, rd0, bd0⟩ := open_ops Try.underlying22 Try.underlying24 Try.underlying3 rfl rfl rfl (by kernel_rfl) (by kernel_rfl) (hval 0 22 v0 rfl rfl) h0 (fun e s he => by have := sized_slice hsz (j := 0) (t := 22) (e := 24) rfl (congrArg some he) Try.underlying22; rwa [bytes_ops] at this)
  clear hA0 hval0
  refine (walk A0 n0 c0 l0 W rd0 bd0).mono fun e W' ⟨he, hg⟩ => ?_
  subst he
  exact ⟨_, rfl, post_slices (pa := _) (pv := []) hW' hg (by simp) (fun _ _ _ => (trodAll_cons_mk (shut_bool Try.underlying4 _) trodAll_mk0)) (trodAll_cons_mk (Below.trod laidOut (by kernel_rfl) (of_decide_eq_true (by kernel_rfl)) hk0 hg hlt0) trodAll_mk0) rfl⟩

theorem over : Rows.dangerSerialRow.holds Try.pinned (OpenSpec.ofChange Rows.dangerSerialSpec) :=
  OpenClaim.holds_of_wide 7 Try.f7 rfl rfl rfl rfl rfl rfl rfl ⟨rfl, rfl, rfl, rfl, rfl⟩ rfl rfl rfl rfl rfl (by kernel_rfl) Try.func7 (by kernel_rfl)
    (of_decide_eq_true (by kernel_rfl)) (by unfold Func.isWrapper; first | (rw [if_pos (by decide +kernel)]; kernel_rfl) | (rw [if_neg (by decide +kernel)]; exact ⟨rfl, rfl⟩))
    (fun os started H enc _ => lifted os started H enc)

/-- The statement. -/
theorem proved : Rows.DangerSerialSaid :=
  over
#print axioms proved
end Go.Proofs.Ytigmgeaimcglhaa.dangerSerial


/-
  PROVED: lanelaw4.DangerOne returns true, for every list of ops and every number: where one alone writes nobody is between, and all goes as by what was when deals began. No condition beyond the form's own reach.
-/
import Derived.Test.YtigmgeaimcglhaaDangerRun
import Derived.Test.YtigmgeaimcglhaaOutSame
import Derived.Test.YtigmgeaimcglhaaValidAD
import Derived.Test.YtigmgeaimcglhaaOpen

namespace Go.Proofs.Ytigmgeaimcglhaa.dangerOne
open Go.ChangeShapes Go.WideShapes Go.ChangeAt Go.RowKit Go.Proofs.Ytigmgeaimcglhaa

/-! ### The plain law. -/
def oneD1 : List HOp := [⟨1, 1, 1⟩, ⟨2, 2, 1⟩, ⟨2, 3, 0⟩, ⟨1, 3, 0⟩]
theorem fact : okH oneD1 ∧ sortS ltE (rawP antiD (doneD (playV snapR oneD1))) = [(1, 2)] := ⟨by show (checkF _).2 = 0; decide, by decide⟩
def fltT (tx : Int) (h : List HOp) : List HOp := h.filter fun o => !decide (o.what = 2) || decide (o.tx = tx)
theorem fltT_snoc {h : List HOp} {k : Nat} {o : HOp} (ho : h[k]? = some o) (tx : Int) : fltT tx (h.take (k + 1)) = fltT tx (h.take k) ++ (if (!decide (o.what = 2) || decide (o.tx = tx)) = true then [o] else []) := by
  unfold fltT
  rw [takeSnoc ho, List.filter_append]
  congr 1
  cases hc : (!decide (o.what = 2) || decide (o.tx = tx)) <;> simp [hc]
theorem plain {l : List HOp} (hk : okH l) {T : Int} (h : ∀ o ∈ l, o.what = 2 → o.tx = T) : pivsD (doneD (playV snapR l)) = [] ∧ playV danR l = playV snapR l := by
  have hn := dan_one hk h
  exact ⟨noPiv_pivs (snap_inv hk).done_nodup hn, dan_eq_snap hk hn⟩
theorem fltT_w {h : List HOp} {T : Int} : ∀ o ∈ fltT T h, o.what = 2 → o.tx = T := fun o ho h2 => by
  have := (List.mem_filter.1 ho).2
  simpa [h2] using this

theorem done_right' {l : List HOp} (hk : okH l) : (playV snapR l).dn.length ≤ 6 ∧ (seenOf (playV snapR l)).length ≤ 240 := by
  have I := snap_inv hk
  have h6 := (vdone_right hk I.ok I.dnds I.dnN fun t ht => snap_com I ht).2
  have h1 := seenOf_len I.ok I.dnds I.nodup
  have h2 := okH_len hk
  have h3 : (playV snapR l).dn.length * l.length ≤ 6 * 40 := Nat.mul_le_mul h6 h2
  exact ⟨h6, by omega⟩
set_option maxRecDepth 100000 in
set_option maxHeartbeats 4000000 in
theorem walk (A : Option Addr) (n c : Nat) (h : List HOp) (tx : Int) (w : World) (hr : Rd w w.heap.size 3 A n (cellsH h)) (hn : n * 24 ≤ 140737488351232) :
    Calls Try.prog 6 #[.slice A n c, .int .i64 tx] w fun e w' => e = .returned (.bool true) ∧ Below w.heap.size w w' := by
  have HRd := hide (fun w1 (hb : Below w.heap.size w w1) => (hr.below hb).more hb.size)
  have HL := Lib.hid hr.hlen
  have HF := Lib.hid fact
  clear hr
  go_enter Try.func6, Try.ntmps6
  go_wp2_with fail
  have hr0 := rd_new w 24 (size := 3) (n := 4) [.int .i64 1, .int .i64 1, .int .i64 1, .int .i64 2, .int .i64 2, .int .i64 1, .int .i64 2, .int .i64 3, .int .i64 0, .int .i64 1, .int .i64 3, .int .i64 0] rfl
  have hb0 : Below w.heap.size w (w.alloc (.cells #[.int .i64 1, .int .i64 1, .int .i64 1, .int .i64 2, .int .i64 2, .int .i64 1, .int .i64 2, .int .i64 3, .int .i64 0, .int .i64 1, .int .i64 3, .int .i64 0] 24)) := (Below.refl _ _).alloc (Nat.le_refl _) _
  refine Calls.mono (dedges_any (some ⟨w.heap.size, 0, none⟩) 4 4 oneD1 _ (hr0.more (by simp)) (by omega) HF.out.1) ?_
  rintro e w1 ⟨A1, m1, c1, rfl, r1, _, hb1⟩
  rw [HF.out.2] at r1
  obtain rfl : m1 = 1 := by have := r1.dlen; simpa using this.symm
  have hbw1 := hb0.trans (hb1.mono hb0.size)
  obtain ⟨b1, off1, x, he, _, hx, cx, cy⟩ := r1.pr (k := 0) (by omega)
  cases he
  obtain rfl : x = (1, 2) := by simpa using hx.symm
  simp only [Nat.zero_mul, Nat.add_zero] at cx cy
  clear hr0 hb0 hb1 HF r1 hx
  go_wp2
  go_loopw [7, 8] (fun s7 s8 wr => ∃ k m : Nat, k ≤ n ∧ m ≤ k ∧ s8 = .int .i64 k ∧ wr.ownsRow w1.heap.size 24 3 s7 m (cellsH (fltT tx (h.take k))) ∧ Below w1.heap.size w1 wr) (fun _ s8 _ => n - (intOf s8).toNat)
  case atStart => exact ⟨0, 0, Nat.zero_le _, Nat.le_refl _, rfl, World.ownsRow_nil _ _ _ _, Below.refl _ _⟩
  case round =>
    clear cx cy
    obtain ⟨k, m, hk, hmk, rfl, ho5, hbw⟩ := hrel
    obtain ⟨A5, c5, rfl⟩ := own_slice ho5
    have hbW := hbw1.trans (hbw.mono hbw1.size)
    by_cases hlt : k < n
    · obtain ⟨b, off, o, he, hb, ho, c0, c1', c2⟩ := (unhide HRd wr hbW).op (k := k) hlt
      cases he
      have HS := Lib.hid (fltT_snoc ho tx)
      clear ho
      have hz := hbw.size
      obtain ⟨o1, o2, o3⟩ := o
      simp only at c0 c1' c2 HS
      by_cases hkeep : (!decide (o2 = 2) || decide (o1 = tx)) = true
      · have HS2 : Hid (cellsH (fltT tx (h.take (k + 1))) = cellsH (fltT tx (h.take k)) ++ cellsH [⟨o1, o2, o3⟩]) := Lib.hid (by rw [HS.out, if_pos hkeep, cellsH_append])
        by_cases h2 : o2 = 2
        · subst h2
          obtain rfl : o1 = tx := by simpa using hkeep
          clear HS hkeep
          go_wp2_with (at_builtin; refine wpList_app rfl (.tmp 59) (.tmp 64) _ rfl w1.heap.size slt_op (n := m) (xs := cellsH (fltT o1 (h.take k))) (m := 1) (news := cellsH [⟨o1, 2, o3⟩]) rfl (own_alloc ho5 _) rfl (rd_new' _ _ (cellsH [⟨o1, 2, o3⟩]) (by simp) rfl) (oneH _) (by omega) (by simp; omega) ?_; intro v6 w6 hown6 hg6 hb6 hat6 hne6)
          have hb6' := (hbw.alloc hz (.cells (cellsH [⟨o1, 2, o3⟩]).toArray 24)).trans hb6
          rw [← HS2.out] at hown6
          go_roundw
          case rel => exact ⟨k + 1, m + 1, by omega, by omega, by go_num, hown6, hb6'⟩
          case measure => simp [intOf]; omega
        · have tb : (o2 != 2) = true := by simpa using h2
          clear HS hkeep
          go_wp2_with (at_builtin; refine wpList_app rfl (.tmp 59) (.tmp 64) _ rfl w1.heap.size slt_op (n := m) (xs := cellsH (fltT tx (h.take k))) (m := 1) (news := cellsH [⟨o1, o2, o3⟩]) rfl (own_alloc ho5 _) rfl (rd_new' _ _ (cellsH [⟨o1, o2, o3⟩]) (by simp) rfl) (oneH _) (by omega) (by simp; omega) ?_; intro v6 w6 hown6 hg6 hb6 hat6 hne6)
          have hb6' := (hbw.alloc hz (.cells (cellsH [⟨o1, o2, o3⟩]).toArray 24)).trans hb6
          rw [← HS2.out] at hown6
          go_roundw
          case rel => exact ⟨k + 1, m + 1, by omega, by omega, by go_num, hown6, hb6'⟩
          case measure => simp [intOf]; omega
      · have HS2 : Hid (fltT tx (h.take (k + 1)) = fltT tx (h.take k)) := Lib.hid (by rw [HS.out, if_neg hkeep, List.append_nil])
        simp only [Bool.or_eq_true, Bool.not_eq_true', decide_eq_false_iff_not, decide_eq_true_eq, not_or, Classical.not_not] at hkeep
        obtain ⟨rfl, h1⟩ := hkeep
        have tb : (o1 == tx) = false := by simpa using h1
        clear HS h1
        go_wp2
        go_roundw
        case rel => exact ⟨k + 1, m, by omega, by omega, by go_num, by rw [HS2.out]; exact ho5, hbw⟩
        case measure => simp [intOf]; omega
    · have HT : Hid (h.take k = h) := Lib.hid (List.take_of_length_le (by rw [HL.out]; omega))
      rw [HT.out] at ho5
      have hml : m ≤ 6000000000000 := by omega
      have HWl := Lib.hid (fltT_w (h := h) (T := tx))
      obtain ⟨l, hl⟩ : ∃ l, fltT tx h = l := ⟨_, rfl⟩
      rw [hl] at ho5 HWl
      have HRl := hide (fun w' (hb : Below wr.heap.size wr w') => ((rd_own ho5).below hb).more hb.size)
      clear ho5 hl
      by_cases hok : okH l
      · have HOK := Lib.hid hok
        have HP := Lib.hid (plain hok HWl.out)
        have HSN := Lib.hid (done_right' hok)
        clear hok
        have CP := hide (dpivots_any A5 m c5 l wr (unhide HRl wr (Below.refl _ _)) hml HOK.out)
        rw [HP.out.1] at CP
        have CD := hide (fun w' (hb : Below wr.heap.size wr w') => dan_run A5 m c5 l w' (unhide HRl w' hb) hml HOK.out)
        rw [HP.out.2] at CD
        have CS := hide (fun w' (hb : Below wr.heap.size wr w') => snap_run A5 m c5 l w' (unhide HRl w' hb) hml HOK.out)
        generalize playV snapR l = s at *
        go_wp2_with fail
        refine (unhide CP).mono ?_
        rintro e w3 ⟨A3, m3, c3, rfl, hr3, _, hb3⟩
        obtain rfl : m3 = 0 := by have := hr3.ilen; simpa using this.symm
        clear hr3 CP
        go_wp2_with fail
        refine (unhide CD w3 hb3).mono ?_
        rintro e w4 ⟨B1, d1, B2, d2, b4, q1, q2, rfl, p1, p2, p3, hb4, _⟩
        have hbw4 := hb3.trans (hb4.mono hb3.size)
        have hbw5 := hbw4.alloc hbw4.size (.cells #[.slice B1 q1 d1, .slice B2 q2 d2, .slice (some ⟨b4, 0, none⟩) 6 6] 28)
        have hB5 := Blk.new w4 28 [.slice B1 q1 d1, .slice B2 q2 d2, .slice (some ⟨b4, 0, none⟩) 6 6]
        have HPP := hide (fun w' (hb : Below (w4.heap.size + 1) (w4.alloc (.cells #[.slice B1 q1 d1, .slice B2 q2 d2, .slice (some ⟨b4, 0, none⟩) 6 6] 28)) w') => show Blk w' w4.heap.size 28 [.slice B1 q1 d1, .slice B2 q2 d2, .slice (some ⟨b4, 0, none⟩) 6 6] ∧ Rd w' w'.heap.size 1 B1 q1 (cellsI s.dn) ∧ Rd w' w'.heap.size 3 B2 q2 (cellsH (seenOf s)) ∧ Rd w' w'.heap.size 1 (some ⟨b4, 0, none⟩) 6 (cellsI s.last) from by
          have hx : Below w4.heap.size w4 w' := ((Below.refl _ _).alloc (Nat.le_refl _) _).trans (hb.mono (Nat.le_succ _))
          exact ⟨hB5.below hb (Nat.lt_succ_self _), (p1.below hx).more hx.size, (p2.below hx).more hx.size, (p3.below hx).more hx.size⟩)
        clear hB5 p1 p2 p3 CD
        go_wp2_with fail
        refine (unhide CS _ hbw5).mono ?_
        rintro e w6 ⟨C1, f1, C2, f2, b6, g1, g2, rfl, p1, p2, p3, hb6, _⟩
        have hbw6 := hbw5.trans (hb6.mono hbw5.size)
        have hb6' : Below (w4.heap.size + 1) (w4.alloc (.cells #[.slice B1 q1 d1, .slice B2 q2 d2, .slice (some ⟨b4, 0, none⟩) 6 6] 28)) w6 := hb6.mono (by simp)
        have hb7 : Below (w4.heap.size + 1) (w4.alloc (.cells #[.slice B1 q1 d1, .slice B2 q2 d2, .slice (some ⟨b4, 0, none⟩) 6 6] 28)) (w6.alloc (.cells #[.slice C1 g1 f1, .slice C2 g2 f2, .slice (some ⟨b6, 0, none⟩) 6 6] 28)) := hb6'.alloc (by have := hb6.size; simpa using this) _
        obtain ⟨hB7, r1, r2, r3⟩ := unhide HPP _ hb7
        have hB8 := Blk.new w6 28 [.slice C1 g1 f1, .slice C2 g2 f2, .slice (some ⟨b6, 0, none⟩) 6 6]
        have hx6 : Below w6.heap.size w6 (w6.alloc (.cells #[.slice C1 g1 f1, .slice C2 g2 f2, .slice (some ⟨b6, 0, none⟩) 6 6] 28)) := (Below.refl _ _).alloc (Nat.le_refl _) _
        have hq1 : q1 ≤ 100000 := by
          have h1 := r1.ilen
          have h2 := HSN.out.1
          omega
        have hq2 : q2 ≤ 100000 := by
          have h1 := r2.hlen
          have h2 := HSN.out.2
          omega
        have CQ := hide (outcome_true B1 B2 (some ⟨b4, 0, none⟩) C1 C2 (some ⟨b6, 0, none⟩) q1 q2 6 d1 d2 6 g1 g2 6 f1 f2 6 s.dn (seenOf s) s.last (w6.alloc (.cells #[.slice C1 g1 f1, .slice C2 g2 f2, .slice (some ⟨b6, 0, none⟩) 6 6] 28)) r1 r2 r3 ((p1.below hx6).more hx6.size) ((p2.below hx6).more hx6.size) ((p3.below hx6).more hx6.size) hq1 hq2 (by omega))
        have x0 := hB7.cellS (i := 0) (v := .slice B1 q1 d1) rfl
        have x1 := hB7.cellS (i := 1) (v := .slice B2 q2 d2) rfl
        have x2 := hB7.cellS (i := 2) (v := .slice (some ⟨b4, 0, none⟩) 6 6) rfl
        have y0 := hB8.cellS (i := 0) (v := .slice C1 g1 f1) rfl
        have y1 := hB8.cellS (i := 1) (v := .slice C2 g2 f2) rfl
        have y2 := hB8.cellS (i := 2) (v := .slice (some ⟨b6, 0, none⟩) 6 6) rfl
        have hbw7 := hbw6.alloc hbw6.size (.cells #[.slice C1 g1 f1, .slice C2 g2 f2, .slice (some ⟨b6, 0, none⟩) 6 6] 28)
        clear hB7 hB8 r1 r2 r3 p1 p2 p3 CS HPP
        go_wp2_with fail
        refine (unhide CQ).mono ?_
        rintro e w9 ⟨rfl, hb9⟩
        go_wp2
        go_ret
        exact ⟨rfl, hbW.trans ((hbw7.trans (hb9.mono hbw7.size)).mono hbW.size)⟩
      · have HNO := Lib.hid hok
        have hne : Hid ((checkF l).2 ≠ 0) := Lib.hid hok
        have CN2 := hide (dpivots_no A5 m c5 l wr (unhide HRl wr (Below.refl _ _)) hml HNO.out)
        rw [ne_errV hne.out] at CN2
        generalize (checkF l).2 = ev at *
        clear hok HNO hne
        go_wp2_with fail
        refine (unhide CN2).mono ?_
        rintro e w2 ⟨rfl, hb2⟩
        go_wp2
        go_ret
        exact ⟨rfl, hbW.trans (hb2.mono hbW.size)⟩

theorem own : ownKnob Try.prog.godebug = none := by kernel_rfl
theorem bytes_ops : Try.prog.bytesOf 24 = 24 := by kernel_rfl

/-! ### The row. -/
set_option maxRecDepth 100000 in
theorem lifted (os : Os) (started : os.Started) (H : Type) (enc : TypeId × Value → H) :
    ReturnsInHanded {} Try.checked os 6 .any (Rows.dangerOneSpec.pre6 enc Try.prog Try.f6 Rows.dangerOneRow.domain false) (Rows.dangerOneSpec.post enc Try.prog Try.f6 false true false false) := by
  refine returnsInHanded_of_change_sized (C := Try.checked) own started (by kernel_rfl) Try.func6
    (ChangeSpec.witness6 (enc := enc) (C := Try.checked) false ⟨#[], #[.slice none 0 0, .int .i64 0], []⟩ 8 (by kernel_rfl) (by kernel_rfl) (by kernel_rfl) (by kernel_rfl)) ?_
  intro W base args ds gs before hval0 hW hcnd hsz0 _
  have hval : ∀ (j : Nat) t v, Try.f6.params[j]? = some t → args[j]? = some v → Value.okWide Try.prog W .any base t v := hval0
  have hW' := hW
  obtain ⟨p, q, hA0, hV, rfl, hfz, hnd⟩ := hW
  have hA : DataW.TrodAll enc Try.prog W 0 (fun _ => true) true Try.f6.params.toList args.toList ds p := hA0
  have hsz : (DataW.weightsEach Try.prog (Try.f6.params.toList ++ Rows.dangerOneSpec.plain.varTypes Try.prog) (ds ++ gs)).all (· ≤ reachBytes) = true := hsz0
  rw [Try.params6] at hA hval hsz
  obtain ⟨v0, vs0, d0, ds0, p0, q0, hargs, rfl, rfl, h0, r0⟩ := trodAll_cons hA
  obtain ⟨v1, vs1, d1, ds1, p1, q1, rfl, rfl, rfl, h1, r1⟩ := trodAll_cons r0
  obtain ⟨rfl, rfl, rfl⟩ := trodAll_nil r1
  obtain rfl : args = #[v0, v1] := by cases args; simp_all
  obtain ⟨rfl, rfl⟩ := trodVars_none hV
  simp only [List.append_nil] at hW'
  have hk0 := h0
  have hlt0 : ∀ x ∈ p0, x.block < W.heap.size := fun x hx => hW'.lt x (by simp [hx])
  obtain ⟨A0, n0, c0, l0, rfl, rd0, bd0⟩ := open_ops Try.underlying22 Try.underlying24 Try.underlying3 rfl rfl rfl (by kernel_rfl) (by kernel_rfl) (hval 0 22 v0 rfl rfl) h0 (fun e s he => by have := sized_slice hsz (j := 0) (t := 22) (e := 24) rfl (congrArg some he) Try.underlying22; rwa [bytes_ops] at this)
  obtain ⟨a1, rfl, rfl, rfl, w1⟩ := open_int Try.underlying3 (hval 1 3 v1 rfl rfl) h1
  clear hA0 hval0
  refine (walk A0 n0 c0 l0 a1 W rd0 bd0).mono fun e W' ⟨he, hg⟩ => ?_
  subst he
  exact ⟨_, rfl, post_slices (pa := _) (pv := []) hW' hg (by simp) (fun _ _ _ => (trodAll_cons_mk (shut_bool Try.underlying4 _) trodAll_mk0)) (trodAll_cons_mk (Below.trod laidOut (by kernel_rfl) (of_decide_eq_true (by kernel_rfl)) hk0 hg hlt0) (trodAll_cons_mk (shut_int Try.underlying3 w1) trodAll_mk0)) rfl⟩

theorem over : Rows.dangerOneRow.holds Try.pinned (OpenSpec.ofChange Rows.dangerOneSpec) :=
  OpenClaim.holds_of_wide 6 Try.f6 rfl rfl rfl rfl rfl rfl rfl ⟨rfl, rfl, rfl, rfl, rfl⟩ rfl rfl rfl rfl rfl (by kernel_rfl) Try.func6 (by kernel_rfl)
    (of_decide_eq_true (by kernel_rfl)) (by unfold Func.isWrapper; first | (rw [if_pos (by decide +kernel)]; kernel_rfl) | (rw [if_neg (by decide +kernel)]; exact ⟨rfl, rfl⟩))
    (fun os started H enc _ => lifted os started H enc)

/-- The statement. -/
theorem proved : Rows.DangerOneSaid :=
  over
#print axioms proved
end Go.Proofs.Ytigmgeaimcglhaa.dangerOne

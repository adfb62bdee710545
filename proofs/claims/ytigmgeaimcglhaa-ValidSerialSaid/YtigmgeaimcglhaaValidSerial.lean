
/-
  PROVED: lanelaw2.ValidSerial returns true, for every list of ops: looked at when they end deals go as if one behind the other, as they end. No condition beyond the form's own reach.
-/
import Derived.Test.YtigmgeaimcglhaaValidRun
import Derived.Test.YtigmgeaimcglhaaValidBy
import Derived.Test.YtigmgeaimcglhaaValidAD
import Derived.Test.YtigmgeaimcglhaaOpen

namespace Go.Proofs.Ytigmgeaimcglhaa.validSerial
open Go.ChangeShapes Go.WideShapes Go.ChangeAt Go.RowKit Go.Proofs.Ytigmgeaimcglhaa

def oneV : List HOp := [⟨1, 1, 1⟩, ⟨2, 2, 1⟩, ⟨2, 3, 0⟩, ⟨1, 3, 0⟩]
theorem fact : okH oneV ∧ (playV validR oneV).dn = [2] := ⟨by show (checkF _).2 = 0; decide, by decide⟩

set_option maxRecDepth 100000 in
set_option maxHeartbeats 4000000 in
theorem walk (A : Option Addr) (n c : Nat) (h : List HOp) (w : World) (hr : Rd w w.heap.size 3 A n (cellsH h)) (hn : n * 24 ≤ 140737488351232) :
    Calls Try.prog 4 #[.slice A n c] w fun e w' => e = .returned (.bool true) ∧ Below w.heap.size w w' := by
  have hm : n ≤ 6000000000000 := by omega
  have HRd := hide (fun w1 (hb : Below w.heap.size w w1) => (hr.below hb).more hb.size)
  have HL := Lib.hid hr.hlen
  have HF := Lib.hid fact
  clear hr hn
  go_enter Try.func4, Try.ntmps4
  go_wp2_with fail
  have hr0 := rd_new w 24 (size := 3) (n := 4) [.int .i64 1, .int .i64 1, .int .i64 1, .int .i64 2, .int .i64 2, .int .i64 1, .int .i64 2, .int .i64 3, .int .i64 0, .int .i64 1, .int .i64 3, .int .i64 0] rfl
  have hb0 : Below w.heap.size w (w.alloc (.cells #[.int .i64 1, .int .i64 1, .int .i64 1, .int .i64 2, .int .i64 2, .int .i64 1, .int .i64 2, .int .i64 3, .int .i64 0, .int .i64 1, .int .i64 3, .int .i64 0] 24)) := (Below.refl _ _).alloc (Nat.le_refl _) _
  refine Calls.mono (valid_run (some ⟨w.heap.size, 0, none⟩) 4 4 oneV _ (hr0.more (by simp)) (by omega) HF.out.1) ?_
  rintro e w1 ⟨A1, c1, A2, c2, b, n1, n2, rfl, r1, r2, r3, hb1, _⟩
  rw [HF.out.2] at r1
  obtain rfl : n1 = 1 := by have := r1.ilen; simpa using this.symm
  have hbw1 := hb0.trans (hb1.mono hb0.size)
  have hbw2 := hbw1.alloc hbw1.size (.cells #[.slice A1 1 c1, .slice A2 n2 c2, .slice (some ⟨b, 0, none⟩) 6 6] 28)
  obtain ⟨b1, off1, x, he, hlt1, hx, cx⟩ := (r1.alloc (Nat.le_refl _) (.cells #[.slice A1 1 c1, .slice A2 n2 c2, .slice (some ⟨b, 0, none⟩) 6 6] 28)).int (k := 0) (by omega)
  cases he
  obtain rfl : x = 2 := by simpa using hx.symm
  have cx0 := cx
  rw [Nat.add_zero] at cx0
  have z0 := (Blk.new w1 28 [.slice (some ⟨b1, off1, none⟩) 1 c1, .slice A2 n2 c2, .slice (some ⟨b, 0, none⟩) 6 6]).cellS (i := 0) (v := .slice (some ⟨b1, off1, none⟩) 1 c1) rfl
  clear hr0 hb0 hb1 HF r1 r2 r3 hx
  by_cases hok : okH h
  · have HOK := Lib.hid hok
    have HP := Lib.hid (valid_serialL hok)
    have HSL := Lib.hid (seenOf_len (valid_serial hok).ok (valid_serial hok).dnds (valid_serial hok).nodup)
    have hlen := okH_len hok
    have hn40 : n ≤ 40 := by rw [← HL.out]; exact hlen
    have HRI := Lib.hid (okH_right hok)
    clear hok hlen
    go_wp2_with fail
    refine (valid_run A n c h _ (unhide HRd _ hbw2) hm HOK.out).mono ?_
    rintro e w3 ⟨A3, c3, A4, c4, b3, n3, n4, rfl, r1, r2, r3, hb3, hcap⟩
    have hbw3 := hbw2.trans (hb3.mono hbw2.size)
    have hbw4 := hbw3.alloc hbw3.size (.cells #[.slice A3 n3 c3, .slice A4 n4 c4, .slice (some ⟨b3, 0, none⟩) 6 6] 28)
    have hB4 := Blk.new w3 28 [.slice A3 n3 c3, .slice A4 n4 c4, .slice (some ⟨b3, 0, none⟩) 6 6]
    have h6 : n3 ≤ 6 := by
      have h1 := r1.ilen
      have h2 := HP.out.2.2.2
      omega
    have h4 : n4 ≤ 100000 := by
      have h1 := r2.hlen
      have h2 := HSL.out
      have h3 := HP.out.2.2.2
      have h5 := HL.out
      have h7 : (playV validR h).dn.length * h.length ≤ 6 * 40 := Nat.mul_le_mul h3 (by omega)
      omega
    have HX := hide (fun w' (hb : Below (w3.heap.size + 1) (w3.alloc (.cells #[.slice A3 n3 c3, .slice A4 n4 c4, .slice (some ⟨b3, 0, none⟩) 6 6] 28)) w') => show Below w.heap.size w w' ∧ Blk w' w3.heap.size 28 [.slice A3 n3 c3, .slice A4 n4 c4, .slice (some ⟨b3, 0, none⟩) 6 6] ∧ Rd w' w'.heap.size 1 A3 n3 (cellsI (playV validR h).dn) ∧ Rd w' w'.heap.size 3 A4 n4 (cellsH (seenOf (playV validR h))) ∧ Rd w' w'.heap.size 1 (some ⟨b3, 0, none⟩) 6 (cellsI (playV validR h).last) from by
      have hz : w3.heap.size + 1 ≤ w'.heap.size := by have := hb.size; simpa using this
      have hx : Below w3.heap.size w3 w' := ((Below.refl _ _).alloc (Nat.le_refl _) _).trans (hb.mono (Nat.le_succ _))
      exact ⟨hbw3.trans (hx.mono hbw3.size), hB4.below hb (Nat.lt_succ_self _), (r1.below hx).more hx.size, (r2.below hx).more hx.size, (r3.below hx).more hx.size⟩)
    obtain ⟨hbw5, hB5, q1, q2, q3⟩ := unhide HX _ (Below.refl _ _)
    have CR := hide (lright_any A n c h A3 n3 c3 (playV validR h).dn (.slice A4 n4 c4) (some ⟨b3, 0, none⟩) 6 _ (unhide HRd _ hbw5) (by omega) q1 hcap HP.out.2.1 HP.out.2.2.1 h6)
    have z0 := hB5.cellS (i := 0) (v := .slice A3 n3 c3) rfl
    have z1 := hB5.cellS (i := 1) (v := .slice A4 n4 c4) rfl
    have z2 := hB5.cellS (i := 2) (v := .slice (some ⟨b3, 0, none⟩) 6 6) rfl
    have HB5 := hide (show Below (w3.heap.size + 1) (w3.alloc (.cells #[.slice A3 n3 c3, .slice A4 n4 c4, .slice (some ⟨b3, 0, none⟩) 6 6] 28)) (w3.alloc (.cells #[.slice A3 n3 c3, .slice A4 n4 c4, .slice (some ⟨b3, 0, none⟩) 6 6] 28)) from Below.refl _ _)
    clear q1 q2 q3 hB5 hbw5 r1 r2 r3 hB4 hbw2 hbw3 hbw4 hb3
    go_wp2_with fail
    refine (unhide CR).mono ?_
    rintro e w6 ⟨rfl, hb6⟩
    obtain ⟨hbw6, hB6, q1, q2, q3⟩ := unhide HX w6 (hb6.mono (by simp))
    have CB := hide (lby_any A n c h (.slice A3 n3 c3) A4 n4 c4 (seenOf (playV validR h)) b3 (playV validR h).last A3 n3 c3 (playV validR h).dn w6 (unhide HRd _ hbw6) (by omega) HRI.out q2 h4 q3 q1 (by omega) HP.out.1)
    have z0' := hB6.cellS (i := 0) (v := .slice A3 n3 c3) rfl
    have z1' := hB6.cellS (i := 1) (v := .slice A4 n4 c4) rfl
    have z2' := hB6.cellS (i := 2) (v := .slice (some ⟨b3, 0, none⟩) 6 6) rfl
    clear q1 q2 q3 CR z0 z1 z2
    go_wp2_with fail
    refine (unhide CB).mono ?_
    rintro e w7 ⟨rfl, hb7⟩
    go_wp2
    go_ret
    exact ⟨rfl, hbw6.trans (hb7.mono hbw6.size)⟩
  · have HNO := Lib.hid hok
    have hne : Hid ((checkF h).2 ≠ 0) := Lib.hid hok
    have CN2 := hide (valid_no A n c h _ (unhide HRd _ hbw2) hm HNO.out)
    rw [ne_errV hne.out] at CN2
    generalize (checkF h).2 = ev at *
    clear hok HNO hne
    go_wp2_with fail
    refine (unhide CN2).mono ?_
    rintro e w2 ⟨rfl, hb2⟩
    have hbw3 := (hbw2.trans (hb2.mono hbw2.size))
    have hbw4 := hbw3.alloc hbw3.size (.cells #[.slice none 0 0, .slice none 0 0, .slice none 0 0] 28)
    go_wp2
    go_ret
    exact ⟨rfl, hbw4⟩

theorem own : ownKnob Try.prog.godebug = none := by kernel_rfl
theorem bytes_ops : Try.prog.bytesOf 24 = 24 := by kernel_rfl

/-! ### The row. -/
set_option maxRecDepth 100000 in
theorem lifted (os : Os) (started : os.Started) (H : Type) (enc : TypeId × Value → H) :
    ReturnsInHanded {} Try.checked os 4 .any (Rows.validSerialSpec.pre6 enc Try.prog Try.f4 Rows.validSerialRow.domain false) (Rows.validSerialSpec.post enc Try.prog Try.f4 false true false false) := by
  refine returnsInHanded_of_change_sized (C := Try.checked) own started (by kernel_rfl) Try.func4
    (ChangeSpec.witness6 (enc := enc) (C := Try.checked) false ⟨#[], #[.slice none 0 0], []⟩ 8 (by kernel_rfl) (by kernel_rfl) (by kernel_rfl) (by kernel_rfl)) ?_
  intro W base args ds gs before hval0 hW hcnd hsz0 _
  have hval : ∀ (j : Nat) t v, Try.f4.params[j]? = some t → args[j]? = some v → Value.okWide Try.prog W .any base t v := hval0
  have hW' := hW
  obtain ⟨p, q, hA0, hV, rfl, hfz, hnd⟩ := hW
  have hA : DataW.TrodAll enc Try.prog W 0 (fun _ => true) true Try.f4.params.toList args.toList ds p := hA0
  have hsz : (DataW.weightsEach Try.prog (Try.f4.params.toList ++ Rows.validSerialSpec.plain.varTypes Try.prog) (ds ++ gs)).all (· ≤ reachBytes) = true := hsz0
  rw [Try.params4] at hA hval hsz
  obtain ⟨v0, vs0, d0, ds0, p0, q0, hargs, rfl, rfl, h0, r0⟩ := trodAll_cons hA
  obtain ⟨rfl, rfl, rfl⟩ := trodAll_nil r0
  obtain rfl : args = #[v0] := by cases args; simp_all
  obtain ⟨rfl, rfl⟩ := trodVars_none hV
  simp only [List.append_nil] at hW'
  have hk0 := h0
  have hlt0 : ∀ x ∈ p0, x.block < W.heap.size := fun x hx => hW'.lt x (by simp [hx])
  obtain ⟨A0, n0, c0, l0, rfl, rd0, bd0⟩ := open_ops Try.underlying22 Try.underlying24 Try.underlying3 rfl rfl rfl (by kernel_rfl) (by kernel_rfl) (hval 0 22 v0 rfl rfl) h0 (fun e s he => by have := sized_slice hsz (j := 0) (t := 22) (e := 24) rfl (congrArg some he) Try.underlying22; rwa [bytes_ops] at this)
  clear hA0 hval0
  refine (walk A0 n0 c0 l0 W rd0 bd0).mono fun e W' ⟨he, hg⟩ => ?_
  subst he
  exact ⟨_, rfl, post_slices (pa := _) (pv := []) hW' hg (by simp) (fun _ _ _ => (trodAll_cons_mk (shut_bool Try.underlying4 _) trodAll_mk0)) (trodAll_cons_mk (Below.trod laidOut (by kernel_rfl) (of_decide_eq_true (by kernel_rfl)) hk0 hg hlt0) trodAll_mk0) rfl⟩

theorem over : Rows.validSerialRow.holds Try.pinned (OpenSpec.ofChange Rows.validSerialSpec) :=
  OpenClaim.holds_of_wide 4 Try.f4 rfl rfl rfl rfl rfl rfl rfl ⟨rfl, rfl, rfl, rfl, rfl⟩ rfl rfl rfl rfl rfl (by kernel_rfl) Try.func4 (by kernel_rfl)
    (of_decide_eq_true (by kernel_rfl)) (by unfold Func.isWrapper; first | (rw [if_pos (by decide +kernel)]; kernel_rfl) | (rw [if_neg (by decide +kernel)]; exact ⟨rfl, rfl⟩))
    (fun os started H enc _ => lifted os started H enc)

/-- The statement. -/
theorem proved : Rows.ValidSerialSaid :=
  over
#print axioms proved
end Go.Proofs.Ytigmgeaimcglhaa.validSerial

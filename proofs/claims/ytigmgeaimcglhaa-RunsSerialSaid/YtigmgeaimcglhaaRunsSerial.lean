
/-
  PROVED: lanelaw4.RunsSerial returns true, for every list of numbers and every two items: deals one behind the other are done, looked at when they end, by what was when they began, and with nobody between. No condition beyond the form's own reach.
-/
import Derived.Test.YtigmgeaimcglhaaVD2
import Derived.Test.YtigmgeaimcglhaaVD1
import Derived.Test.YtigmgeaimcglhaaOutSame
import Derived.Test.YtigmgeaimcglhaaValidAD
import Derived.Test.YtigmgeaimcglhaaPieces
import Derived.Test.YtigmgeaimcglhaaOpen

namespace Go.Proofs.Ytigmgeaimcglhaa.runsSerial
open Go.ChangeShapes Go.WideShapes Go.ChangeAt Go.RowKit Go.Proofs.Ytigmgeaimcglhaa

/-! ### The plain law. -/
theorem fact : okH [⟨4, 3, 0⟩] ∧ (playV validR [⟨4, 3, 0⟩]).dn = [4] := ⟨by show (checkF _).2 = 0; decide, by decide⟩
theorem plain {a b : Int} {q : List Int} (hq : q.Nodup) : (playV validR (piecesH a b q)).dn = q ∧ playV snapR (piecesH a b q) = playV validR (piecesH a b q) ∧ playV danR (piecesH a b q) = playV validR (piecesH a b q) ∧ sortS ltE (rawP togD (doneD (playV snapR (piecesH a b q)))) = [] := by
  obtain ⟨_, h2, k, h3⟩ := runs_serial (a := a) (b := b) hq (R := validR) (.inl rfl)
  obtain ⟨s1, _, _⟩ := runs_serial (a := a) (b := b) hq (R := snapR) (.inr (.inl rfl))
  obtain ⟨d1, _, _⟩ := runs_serial (a := a) (b := b) hq (R := danR) (.inr (.inr rfl))
  refine ⟨h2, s1, d1, ?_⟩
  rw [s1, h3.doneD]
  have : rawP togD (playV validR (piecesH a b q)).ds = [] := by
    rw [List.eq_nil_iff_forall_not_mem]
    intro x hx
    obtain ⟨y, hy, z, hz, hp, _⟩ := mem_rawP.1 hx
    unfold togD at hp
    rw [Bool.and_eq_true, decide_eq_true_eq] at hp
    rw [ser_apart h3 hy hz hp.1] at hp
    exact absurd hp.2 (by simp)
  rw [this]; rfl
def OutR (w' : World) (B1 B2 : Option Addr) (q1 q2 b : Nat) (s : VSt) : Prop := Rd w' w'.heap.size 1 B1 q1 (cellsI s.dn) ∧ Rd w' w'.heap.size 3 B2 q2 (cellsH (seenOf s)) ∧ Rd w' w'.heap.size 1 (some ⟨b, 0, none⟩) 6 (cellsI s.last)
theorem OutR.below {w w' : World} {B1 B2 : Option Addr} {q1 q2 b : Nat} {s : VSt} (h : OutR w B1 B2 q1 q2 b s) (hb : Below w.heap.size w w') : OutR w' B1 B2 q1 q2 b s :=
  ⟨(h.1.below hb).more hb.size, (h.2.1.below hb).more hb.size, (h.2.2.below hb).more hb.size⟩

set_option maxRecDepth 100000 in
set_option maxHeartbeats 4000000 in
theorem walk (A : Option Addr) (n c : Nat) (l : List Int) (a b : Int) (w : World) (hr : Rd w w.heap.size 1 A n (cellsI l)) (hn : n * 8 ≤ 140737488351232) :
    Calls Try.prog 10 #[.slice A n c, .int .i64 a, .int .i64 b] w fun e w' => e = .returned (.bool true) ∧ Below w.heap.size w w' := by
  by_cases hbad : a < 1 ∨ 6 < a ∨ b < 1 ∨ 6 < b
  · clear hr hn
    by_cases h1 : a < 1
    · go_enter Try.func10, Try.ntmps10
      go_wp2
      go_ret
      exact ⟨rfl, Below.refl _ _⟩
    by_cases h2 : 6 < a
    · go_enter Try.func10, Try.ntmps10
      go_wp2
      go_ret
      exact ⟨rfl, Below.refl _ _⟩
    by_cases h3 : b < 1
    · go_enter Try.func10, Try.ntmps10
      go_wp2
      go_ret
      exact ⟨rfl, Below.refl _ _⟩
    have h4 : 6 < b := by omega
    go_enter Try.func10, Try.ntmps10
    go_wp2
    go_ret
    exact ⟨rfl, Below.refl _ _⟩
  have ha1 : ¬ a < 1 := fun h => hbad (.inl h)
  have ha2 : ¬ 6 < a := fun h => hbad (.inr (.inl h))
  have hb1 : ¬ b < 1 := fun h => hbad (.inr (.inr (.inl h)))
  have hb2 : ¬ 6 < b := fun h => hbad (.inr (.inr (.inr h)))
  have CP := hide (fun W (hb : Below w.heap.size w W) => pieces_any A n c l a b W ((hr.below hb).more hb.size) (by omega))
  have HOK := Lib.hid (pieces_ok (a := a) (b := b) (by omega) (by omega) (order_ok l))
  have HPL := Lib.hid (plain (a := a) (b := b) (order_ok l).nd)
  have HLN := Lib.hid (order_ok l).len
  have HF := Lib.hid fact
  have HSL := Lib.hid (show (seenOf (playV validR (piecesH a b (orderF l)))).length ≤ 240 from by
    have hk := pieces_ok (a := a) (b := b) (by omega) (by omega) (order_ok l)
    have h1 := seenOf_len (valid_serial hk).ok (valid_serial hk).dnds (valid_serial hk).nodup
    have h2 := okH_len hk
    have h3 := (valid_serialL hk).2.2.2
    have h4 : (playV validR (piecesH a b (orderF l))).dn.length * (piecesH a b (orderF l)).length ≤ 6 * 40 := Nat.mul_le_mul h3 h2
    omega)
  clear hr hn hbad
  go_enter Try.func10, Try.ntmps10
  go_wp2_with fail
  have hr0 := rd_new w 24 (size := 3) (n := 1) [.int .i64 4, .int .i64 3, .int .i64 0] rfl
  have hb0 : Below w.heap.size w (w.alloc (.cells #[.int .i64 4, .int .i64 3, .int .i64 0] 24)) := (Below.refl _ _).alloc (Nat.le_refl _) _
  refine Calls.mono (valid_run (some ⟨w.heap.size, 0, none⟩) 1 1 [⟨4, 3, 0⟩] _ (hr0.more (by simp)) (by omega) HF.out.1) ?_
  rintro e w1 ⟨A1, c1, A2, c2, b0, n1, n2, rfl, r1, r2, r3, hbb1, _⟩
  rw [HF.out.2] at r1
  obtain rfl : n1 = 1 := by have := r1.ilen; simpa using this.symm
  have hbw1 := hb0.trans (hbb1.mono hb0.size)
  have hbw2 := hbw1.alloc hbw1.size (.cells #[.slice A1 1 c1, .slice A2 n2 c2, .slice (some ⟨b0, 0, none⟩) 6 6] 28)
  obtain ⟨b1, off1, x, he, hlt1, hx, cx⟩ := (r1.alloc (Nat.le_refl _) (.cells #[.slice A1 1 c1, .slice A2 n2 c2, .slice (some ⟨b0, 0, none⟩) 6 6] 28)).int (k := 0) (by omega)
  cases he
  obtain rfl : x = 4 := by simpa using hx.symm
  have cx0 := cx
  rw [Nat.add_zero] at cx0
  have z0 := (Blk.new w1 28 [.slice (some ⟨b1, off1, none⟩) 1 c1, .slice A2 n2 c2, .slice (some ⟨b0, 0, none⟩) 6 6]).cellS (i := 0) (v := .slice (some ⟨b1, off1, none⟩) 1 c1) rfl
  clear hr0 hb0 hbb1 HF r1 r2 r3 hx
  go_wp2_with fail
  refine (unhide CP _ hbw2).mono ?_
  rintro e w2 ⟨v1, v2, rfl, ho1, ho2, hbp⟩
  obtain ⟨A5, c5, rfl⟩ := own_slice ho1
  obtain ⟨A6, c6, rfl⟩ := own_slice ho2
  have hbw3 := hbw2.trans (hbp.mono hbw2.size)
  have hr2 := rd_own ho1
  have hq2 := rd_own ho2
  clear ho1 ho2 hbp hbw2 hbw1 cx cx0 z0 CP
  generalize hHH : piecesH a b (orderF l) = p at *
  generalize orderF l = q at *
  obtain ⟨e1, e2, e3, e4⟩ := HPL.out
  have HT4 := Lib.hid e4
  have HQD := Lib.hid e1
  have CV := hide (valid_run A5 (q.length * 3) c5 p w2 hr2 (by have := HLN.out; omega) HOK.out)
  have CS := hide (fun w' (hb : Below w2.heap.size w2 w') => snap_run A5 (q.length * 3) c5 p w' ((hr2.below hb).more hb.size) (by have := HLN.out; omega) HOK.out)
  rw [e2] at CS
  have CD := hide (fun w' (hb : Below w2.heap.size w2 w') => dan_run A5 (q.length * 3) c5 p w' ((hr2.below hb).more hb.size) (by have := HLN.out; omega) HOK.out)
  rw [e3] at CD
  have CT := hide (fun w' (hb : Below w2.heap.size w2 w') => together_any A5 (q.length * 3) c5 p w' ((hr2.below hb).more hb.size) (by have := HLN.out; omega) HOK.out)
  rw [e4] at CT
  clear HPL e1 e2 e3 e4 HT4
  generalize playV validR p = s at *
  have HQ2 := hide (fun w' (hb : Below w2.heap.size w2 w') => (hq2.below hb).more hb.size)
  clear hr2 hq2 hHH
  go_wp2_with fail
  refine (unhide CV).mono ?_
  rintro e w3 ⟨B1, d1, B2, d2, b3, q1, q2, rfl, p1, p2, p3, hb3, _⟩
  have O1 : OutR w3 B1 B2 q1 q2 b3 s := ⟨p1, p2, p3⟩
  have hx3 : Below w3.heap.size w3 (w3.alloc (.cells #[.slice B1 q1 d1, .slice B2 q2 d2, .slice (some ⟨b3, 0, none⟩) 6 6] 28)) := (Below.refl _ _).alloc (Nat.le_refl _) _
  have F1 := hide (fun w' (hb : Below (w3.alloc (.cells #[.slice B1 q1 d1, .slice B2 q2 d2, .slice (some ⟨b3, 0, none⟩) 6 6] 28)).heap.size (w3.alloc (.cells #[.slice B1 q1 d1, .slice B2 q2 d2, .slice (some ⟨b3, 0, none⟩) 6 6] 28)) w') => And.intro ((Blk.new w3 28 [.slice B1 q1 d1, .slice B2 q2 d2, .slice (some ⟨b3, 0, none⟩) 6 6]).below hb (by simp)) (O1.below (hx3.trans (hb.mono hx3.size))))
  have hq1 : q1 ≤ 100000 := by have h1 := p1.ilen; have h2 := HLN.out; rw [HQD.out] at h1; omega
  have hq2' : q2 ≤ 100000 := by have h1 := p2.hlen; have h2 := HSL.out; omega
  have hbx3 := hb3.trans (hx3.mono hb3.size)
  clear O1 p1 p2 p3 CV
  go_wp2_with fail
  refine (unhide CS _ hbx3).mono ?_
  rintro e w4 ⟨C1, f1, C2, f2, b4, g1, g2, rfl, p1, p2, p3, hb4, _⟩
  have O2 : OutR w4 C1 C2 g1 g2 b4 s := ⟨p1, p2, p3⟩
  have hx4 : Below w4.heap.size w4 (w4.alloc (.cells #[.slice C1 g1 f1, .slice C2 g2 f2, .slice (some ⟨b4, 0, none⟩) 6 6] 28)) := (Below.refl _ _).alloc (Nat.le_refl _) _
  have F2 := hide (fun w' (hb : Below (w4.alloc (.cells #[.slice C1 g1 f1, .slice C2 g2 f2, .slice (some ⟨b4, 0, none⟩) 6 6] 28)).heap.size (w4.alloc (.cells #[.slice C1 g1 f1, .slice C2 g2 f2, .slice (some ⟨b4, 0, none⟩) 6 6] 28)) w') => And.intro (unhide F1 w' (hb4.trans ((hx4.trans (hb.mono hx4.size)).mono hb4.size))) (And.intro ((Blk.new w4 28 [.slice C1 g1 f1, .slice C2 g2 f2, .slice (some ⟨b4, 0, none⟩) 6 6]).below hb (by simp)) (O2.below (hx4.trans (hb.mono hx4.size)))))
  have hbx4 := (hbx3.trans (hb4.mono hbx3.size)).trans (hx4.mono (hbx3.trans (hb4.mono hbx3.size)).size)
  clear O2 p1 p2 p3 CS F1 hb4 hbx3
  go_wp2_with fail
  refine (unhide CD _ hbx4).mono ?_
  rintro e w5 ⟨D1, i1, D2, i2, b5, j1, j2, rfl, p1, p2, p3, hb5, _⟩
  have O3 : OutR w5 D1 D2 j1 j2 b5 s := ⟨p1, p2, p3⟩
  have hx5 : Below w5.heap.size w5 (w5.alloc (.cells #[.slice D1 j1 i1, .slice D2 j2 i2, .slice (some ⟨b5, 0, none⟩) 6 6] 28)) := (Below.refl _ _).alloc (Nat.le_refl _) _
  have F3 := hide (fun w' (hb : Below (w5.alloc (.cells #[.slice D1 j1 i1, .slice D2 j2 i2, .slice (some ⟨b5, 0, none⟩) 6 6] 28)).heap.size (w5.alloc (.cells #[.slice D1 j1 i1, .slice D2 j2 i2, .slice (some ⟨b5, 0, none⟩) 6 6] 28)) w') => And.intro (unhide F2 w' (hb5.trans ((hx5.trans (hb.mono hx5.size)).mono hb5.size))) (And.intro ((Blk.new w5 28 [.slice D1 j1 i1, .slice D2 j2 i2, .slice (some ⟨b5, 0, none⟩) 6 6]).below hb (by simp)) (O3.below (hx5.trans (hb.mono hx5.size)))))
  have hbx5 := (hbx4.trans (hb5.mono hbx4.size)).trans (hx5.mono (hbx4.trans (hb5.mono hbx4.size)).size)
  clear O3 p1 p2 p3 CD F2 hb5 hbx4
  go_wp2_with fail
  refine (unhide CT _ hbx5).mono ?_
  rintro e w6 ⟨A7, m7, c7, rfl, hr7, _, hb6⟩
  obtain rfl : m7 = 0 := by have := hr7.dlen; simpa using this.symm
  have hbx6 := hbx5.trans (hb6.mono hbx5.size)
  clear CT hr7
  obtain ⟨⟨⟨hX, o1, o2, o3⟩, hY, y1, y2, y3⟩, hZ, z1, z2, z3⟩ := unhide F3 w6 hb6
  have s0 := hX.cellS (i := 0) (v := .slice B1 q1 d1) rfl
  have s1 := hX.cellS (i := 1) (v := .slice B2 q2 d2) rfl
  have s2 := hX.cellS (i := 2) (v := .slice (some ⟨b3, 0, none⟩) 6 6) rfl
  have CI := hide (ints_any B1 A6 q1 q.length d1 c6 q q w6 (by rw [HQD.out] at o1; exact o1) (unhide HQ2 w6 hbx6) (by omega))
  rw [decide_eq_true (rfl : q = q)] at CI
  clear hX o1 o2 o3 hY y1 y2 y3 hZ z1 z2 z3
  go_wp2_with fail
  refine (unhide CI).mono ?_
  rintro e w7 ⟨rfl, hb7⟩
  have hb67 := hb6.trans (hb7.mono hb6.size)
  obtain ⟨⟨⟨hX, o1, o2, o3⟩, hY, y1, y2, y3⟩, hZ, z1, z2, z3⟩ := unhide F3 w7 hb67
  have t0 := hX.cellS (i := 0) (v := .slice B1 q1 d1) rfl
  have t1 := hX.cellS (i := 1) (v := .slice B2 q2 d2) rfl
  have t2 := hX.cellS (i := 2) (v := .slice (some ⟨b3, 0, none⟩) 6 6) rfl
  have u0 := hY.cellS (i := 0) (v := .slice C1 g1 f1) rfl
  have u1 := hY.cellS (i := 1) (v := .slice C2 g2 f2) rfl
  have u2 := hY.cellS (i := 2) (v := .slice (some ⟨b4, 0, none⟩) 6 6) rfl
  have CQ := hide (outcome_true B1 B2 (some ⟨b3, 0, none⟩) C1 C2 (some ⟨b4, 0, none⟩) q1 q2 6 d1 d2 6 g1 g2 6 f1 f2 6 s.dn (seenOf s) s.last w7 o1 o2 o3 y1 y2 y3 hq1 hq2' (by omega))
  clear hX o1 o2 o3 hY y1 y2 y3 hZ z1 z2 z3 s0 s1 s2 CI
  go_wp2_with fail
  refine (unhide CQ).mono ?_
  rintro e w8 ⟨rfl, hb8⟩
  have hb68 := hb67.trans (hb8.mono hb67.size)
  obtain ⟨⟨⟨hX, o1, o2, o3⟩, hY, y1, y2, y3⟩, hZ, z1, z2, z3⟩ := unhide F3 w8 hb68
  have s0 := hX.cellS (i := 0) (v := .slice B1 q1 d1) rfl
  have s1 := hX.cellS (i := 1) (v := .slice B2 q2 d2) rfl
  have s2 := hX.cellS (i := 2) (v := .slice (some ⟨b3, 0, none⟩) 6 6) rfl
  have v0 := hZ.cellS (i := 0) (v := .slice D1 j1 i1) rfl
  have v1 := hZ.cellS (i := 1) (v := .slice D2 j2 i2) rfl
  have v2 := hZ.cellS (i := 2) (v := .slice (some ⟨b5, 0, none⟩) 6 6) rfl
  have CQ2 := hide (outcome_true B1 B2 (some ⟨b3, 0, none⟩) D1 D2 (some ⟨b5, 0, none⟩) q1 q2 6 d1 d2 6 j1 j2 6 i1 i2 6 s.dn (seenOf s) s.last w8 o1 o2 o3 z1 z2 z3 hq1 hq2' (by omega))
  clear hX o1 o2 o3 hY y1 y2 y3 hZ z1 z2 z3 t0 t1 t2 u0 u1 u2 CQ
  go_wp2_with fail
  refine (unhide CQ2).mono ?_
  rintro e w9 ⟨rfl, hb9⟩
  have hbx9 := hbx5.trans ((hb68.trans (hb9.mono hb68.size)).mono hbx5.size)
  go_wp2
  go_ret
  exact ⟨rfl, hbw3.trans (hbx9.mono hbw3.size)⟩

theorem own : ownKnob Try.prog.godebug = none := by kernel_rfl
theorem bytes_ints : Try.prog.bytesOf 3 = 8 := by kernel_rfl

/-! ### The row. -/
set_option maxRecDepth 100000 in
theorem lifted (os : Os) (started : os.Started) (H : Type) (enc : TypeId × Value → H) :
    ReturnsInHanded {} Try.checked os 10 .any (Rows.runsSerialSpec.pre6 enc Try.prog Try.f10 Rows.runsSerialRow.domain false) (Rows.runsSerialSpec.post enc Try.prog Try.f10 false true false false) := by
  refine returnsInHanded_of_change_sized (C := Try.checked) own started (by kernel_rfl) Try.func10
    (ChangeSpec.witness6 (enc := enc) (C := Try.checked) false ⟨#[], #[.slice none 0 0, .int .i64 0, .int .i64 0], []⟩ 8 (by kernel_rfl) (by kernel_rfl) (by kernel_rfl) (by kernel_rfl)) ?_
  intro W base args ds gs before hval0 hW hcnd hsz0 _
  have hval : ∀ (j : Nat) t v, Try.f10.params[j]? = some t → args[j]? = some v → Value.okWide Try.prog W .any base t v := hval0
  have hW' := hW
  obtain ⟨p, q, hA0, hV, rfl, hfz, hnd⟩ := hW
  have hA : DataW.TrodAll enc Try.prog W 0 (fun _ => true) true Try.f10.params.toList args.toList ds p := hA0
  have hsz : (DataW.weightsEach Try.prog (Try.f10.params.toList ++ Rows.runsSerialSpec.plain.varTypes Try.prog) (ds ++ gs)).all (· ≤ reachBytes) = true := hsz0
  rw [Try.params10] at hA hval hsz
  obtain ⟨v0, vs0, d0, ds0, p0, q0, hargs, rfl, rfl, h0, r0⟩ := trodAll_cons hA
  obtain ⟨v1, vs1, d1, ds1, p1, q1, rfl, rfl, rfl, h1, r1⟩ := trodAll_cons r0
  obtain ⟨v2, vs2, d2, ds2, p2, q2, rfl, rfl, rfl, h2, r2⟩ := trodAll_cons r1
  obtain ⟨rfl, rfl, rfl⟩ := trodAll_nil r2
  obtain rfl : args = #[v0, v1, v2] := by cases args; simp_all
  obtain ⟨rfl, rfl⟩ := trodVars_none hV
  simp only [List.append_nil] at hW'
  have hk0 := h0
  have hlt0 : ∀ x ∈ p0, x.block < W.heap.size := fun x hx => hW'.lt x (by simp [hx])
  obtain ⟨A0, n0, c0, l0, rfl, rd0, bd0⟩ := open_is Try.underlying25 Try.underlying3 (by kernel_rfl) (hval 0 25 v0 rfl rfl) h0 (fun e s he => by have := sized_slice hsz (j := 0) (t := 25) (e := 3) rfl (congrArg some he) Try.underlying25; rwa [bytes_ints] at this)
  obtain ⟨a1, rfl, rfl, rfl, w1⟩ := open_int Try.underlying3 (hval 1 3 v1 rfl rfl) h1
  obtain ⟨a2, rfl, rfl, rfl, w2⟩ := open_int Try.underlying3 (hval 2 3 v2 rfl rfl) h2
  clear hA0 hval0
  refine (walk A0 n0 c0 l0 a1 a2 W rd0 bd0).mono fun e W' ⟨he, hg⟩ => ?_
  subst he
  exact ⟨_, rfl, post_slices (pa := _) (pv := []) hW' hg (by simp) (fun _ _ _ => (trodAll_cons_mk (shut_bool Try.underlying4 _) trodAll_mk0)) (trodAll_cons_mk (Below.trod laidOut (by kernel_rfl) (of_decide_eq_true (by kernel_rfl)) hk0 hg hlt0) (trodAll_cons_mk (shut_int Try.underlying3 w1) (trodAll_cons_mk (shut_int Try.underlying3 w2) trodAll_mk0))) rfl⟩

theorem over : Rows.runsSerialRow.holds Try.pinned (OpenSpec.ofChange Rows.runsSerialSpec) :=
  OpenClaim.holds_of_wide 10 Try.f10 rfl rfl rfl rfl rfl rfl rfl ⟨rfl, rfl, rfl, rfl, rfl⟩ rfl rfl rfl rfl rfl (by kernel_rfl) Try.func10 (by kernel_rfl)
    (of_decide_eq_true (by kernel_rfl)) (by unfold Func.isWrapper; first | (rw [if_pos (by decide +kernel)]; kernel_rfl) | (rw [if_neg (by decide +kernel)]; exact ⟨rfl, rfl⟩))
    (fun os started H enc _ => lifted os started H enc)

/-- The statement. -/
theorem proved : Rows.RunsSerialSaid :=
  over
#print axioms proved
end Go.Proofs.Ytigmgeaimcglhaa.runsSerial


/-
  PROVED: lanelaw4.SerialAgain returns true, for all its arguments: deals one behind the other are serial, and along any order of them they are serial again. The variable errors.errorType starts as the program's text lays it (the card's tie); no condition beyond the form's own reach.
-/
import Derived.Test.YtkpnpkikonlmpaaGreatDoorM2
import Derived.Test.YtkpnpkikonlmpaaGreatDoorSerial3
import Derived.Test.YtkpnpkikonlmpaaGreatDoorDoor

namespace Go.Proofs.YtkpnpkikonlmpaaGreatDoor.serialAgain
open Go.ChangeShapes Go.WideShapes Go.ChangeAt Go.RowKit Go.Proofs.YtkpnpkikonlmpaaGreatDoor

theorem isV_of {h : List HOp} (hk : okH h) (hd : doneL h = h) (hi : isF h = true) : isV h = true ∧ (checkF h).2 = 0 := by
  have h0 : (checkF h).2 = 0 := hk
  refine ⟨?_, h0⟩
  unfold isV
  rw [h0, hd, hi]; rfl

/-! ### The walk. -/
set_option maxRecDepth 100000 in
set_option maxHeartbeats 8000000 in
theorem walk (A : Option Addr) (n c : Nat) (l : List Int) (B : Option Addr) (m d : Nat) (p : List Int) (a b : Int) (w : World) (hE : Et w) (hr : Rd w w.heap.size 1 A n (cellsI l)) (hn : n * 8 ≤ 140737488351232) (hp : Rd w w.heap.size 1 B m (cellsI p)) (hmb : m * 8 ≤ 140737488351232) :
    Calls Tryz.prog 4 #[.slice A n c, .slice B m d, .int .i64 a, .int .i64 b] w fun e w' => e = .returned (.bool true) ∧ Below w.heap.size w w' := by
  have hz0 := hE.pos
  have HE := hide hE
  have HM := Lib.hid (show n ≤ 100000000000000 ∧ m ≤ 17592186043904 by omega)
  clear hE hn hmb
  by_cases hab : a < 1 ∨ 6 < a ∨ b < 1 ∨ 6 < b
  · have hcs : a < 1 ∨ (¬ a < 1 ∧ 6 < a) ∨ (¬ a < 1 ∧ ¬ 6 < a ∧ b < 1) ∨ (¬ a < 1 ∧ ¬ 6 < a ∧ ¬ b < 1 ∧ 6 < b) := by omega
    clear hab hr hp
    rcases hcs with g1 | ⟨g1, g2⟩ | ⟨g1, g2, g3⟩ | ⟨g1, g2, g3, g4⟩
    all_goals
      go_enter Tryz.func4, Tryz.ntmps4
      go_wp2
      go_ret
      exact ⟨rfl, Below.refl _ _⟩
  have g1 : ¬ a < 1 := by omega
  have g2 : ¬ 6 < a := by omega
  have g3 : ¬ b < 1 := by omega
  have g4 : ¬ 6 < b := by omega
  obtain ⟨f1, f2, f3, f4, f5, f6⟩ := pieces_again (a := a) (b := b) (by omega) (by omega) (order_ok l)
  have hlo := (order_ok l).len
  have CP := hide (pieces_any A n c l a b w hr HM.out.1)
  clear hab hr
  generalize piecesH a b (orderF l) = h at *
  generalize orderF l = q at *
  obtain ⟨i1, i2⟩ := isV_of f1 f2 f3
  obtain ⟨e1, e2⟩ := ord_some f1 f6
  have HSR := Lib.hid (serE_range f1 p)
  have HSD := Lib.hid (fun hs => ser_done (o := p) f1 hs)
  have CI := hide (fun A1 n1 c1 w1 (hd : Rd w1 w1.heap.size 3 A1 n1 (cellsH h)) (hm : n1 ≤ 6000000000000) => is_any A1 n1 c1 h w1 hd hm)
  rw [i1, i2, errV_zero] at CI
  have CS := hide (fun A1 n1 c1 A2 n2 c2 o w1 (hd : Rd w1 w1.heap.size 3 A1 n1 (cellsH h)) (ho : Rd w1 w1.heap.size 1 A2 n2 (cellsI o)) (hm : n1 ≤ 6000000000000) (hm2 : n2 ≤ 17592186043904) => serial_any A1 A2 n1 n2 c1 c2 h o w1 hd ho hm hm2)
  have CO := hide (fun A1 n1 c1 w1 (hd : Rd w1 w1.heap.size 3 A1 n1 (cellsH h)) (hm : n1 ≤ 6000000000000) => sorder_any A1 n1 c1 h w1 hd hm)
  rw [e1, e2, errV_zero] at CO
  have HF4 := Lib.hid (And.intro f4 f5)
  have HP := hide (fun w1 (hb : Below w.heap.size w w1) => (hp.below hb).more hb.size)
  have HEb := hide (fun w1 (hb : Below w.heap.size w w1) => (unhide HE).below hb hz0)
  clear f1 f2 f3 f4 f5 f6 i1 i2 e1 e2 hp HE
  go_enter Tryz.func4, Tryz.ntmps4
  go_wp2_with fail
  refine (unhide CP).mono ?_
  rintro e w1 ⟨v1, v2, rfl, ho1, ho2, hb1⟩
  obtain ⟨A1, c1, rfl⟩ := own_slice ho1
  obtain ⟨A2, c2, rfl⟩ := own_slice ho2
  have hd1 := rd_own ho1
  have hd2 := rd_own ho2
  obtain ⟨N, hN⟩ : ∃ N, q.length * 3 = N := ⟨_, rfl⟩
  obtain ⟨M, hM⟩ : ∃ M, q.length = M := ⟨_, rfl⟩
  rw [hN] at hd1
  rw [hM] at hd2 hlo
  have hN18 : N ≤ 18 := by omega
  rw [hN, hM]
  have K1 := hide (fun w' (hb : Below w1.heap.size w1 w') => And.intro (hb1.trans (hb.mono hb1.size)) (And.intro ((hd1.below hb).more hb.size) ((hd2.below hb).more hb.size)))
  have C1 := hide (unhide CI A1 N c1 w1 hd1 (by omega))
  clear CP ho1 ho2 hd1 hd2 hb1 hN hM
  go_wp2_with fail
  refine (unhide C1).mono ?_
  rintro e w2 ⟨rfl, hb2⟩
  have C2 := hide (unhide CS A1 N c1 A2 M c2 q w2 (unhide K1 w2 hb2).2.1 (unhide K1 w2 hb2).2.2 (by omega) (by omega))
  rw [HF4.out.1, HF4.out.2, errV_zero] at C2
  clear C1
  go_wp2_with fail
  refine (unhide C2).mono ?_
  rintro e w3 ⟨v3, k3, rfl, ho3, hk3, hb3⟩
  obtain ⟨A3, c3, rfl⟩ := own_slice ho3
  have hb13 := hb2.trans (hb3.mono hb2.size)
  have hd3 := rd_own ho3
  have C3 := hide (ops_any A3 A1 k3 N c3 c1 h h w3 hd3 (unhide K1 w3 hb13).2.1 (by omega))
  rw [decide_eq_true rfl] at C3
  clear C2 ho3 hb3 hb2 hd3
  go_wp2_with fail
  refine (unhide C3).mono ?_
  rintro e w4 ⟨rfl, hb4⟩
  have hb14 := hb13.trans (hb4.mono hb13.size)
  obtain ⟨hbw4, hd14, hd24⟩ := unhide K1 w4 hb14
  have C4 := hide (unhide CS A1 N c1 B m d p w4 hd14 (unhide HP w4 hbw4) (by omega) HM.out.2)
  clear C3 hb4 hb13 CS hd14 hd24
  go_wp2_with fail
  refine (unhide C4).mono ?_
  rintro e w5 ⟨v5, k5, rfl, ho5, hk5, hb5⟩
  obtain ⟨A5, c5, rfl⟩ := own_slice ho5
  have hb15 := hb14.trans (hb5.mono hb14.size)
  have hd5 := rd_own ho5
  clear C4 ho5 hb5 hb14 hbw4
  by_cases hs : serE h p = 0
  · obtain ⟨s1, s2, s3⟩ := HSD.out hs
    obtain ⟨i1, i2⟩ := isV_of s2 s1 s3
    rw [hs, errV_zero]
    have C5 := hide (is_any A5 k5 c5 (serL h p) w5 hd5 (by omega))
    rw [i1, i2, errV_zero] at C5
    clear s1 s2 s3 i1 i2 hs HSD HSR hd5
    go_wp2_with fail
    refine (unhide C5).mono ?_
    rintro e w6 ⟨rfl, hb6⟩
    have hb16 := hb15.trans (hb6.mono hb15.size)
    have C6 := hide (unhide CO A1 N c1 w6 (unhide K1 w6 hb16).2.1 (by omega))
    clear C5 hb6 hb15 CO
    go_wp2_with fail
    refine (unhide C6).mono ?_
    rintro e w7 ⟨v7, k7, rfl, ho7, hb7⟩
    obtain ⟨A7, c7, rfl⟩ := own_slice ho7
    have hb17 := hb16.trans (hb7.mono hb16.size)
    have hl7 := own_ilen ho7
    have hd7 := rd_own ho7
    obtain ⟨hbw7, _, hd27⟩ := unhide K1 w7 hb17
    have hk7 : k7 ≤ 6 := by have := hd27.ilen; omega
    have C7 := hide (ints_any A7 A2 k7 M c7 c2 q q w7 hd7 hd27 (by omega))
    rw [decide_eq_true rfl] at C7
    clear C6 ho7 hb7 hb16 hl7 hd7 hd27
    by_cases hne : a = b
    · have t1 : (a != b) = false := by simp [hne]
      clear hne
      go_wp2_with fail
      refine (unhide C7).mono ?_
      rintro e w8 ⟨rfl, hb8⟩
      go_wp2
      go_ret
      exact ⟨rfl, hbw7.trans (hb8.mono hbw7.size)⟩
    · have t1 : (a != b) = true := by simp [hne]
      clear hne
      go_wp2
      go_ret
      exact ⟨rfl, hbw7⟩
  · have hs3 := HSR.out.resolve_left hs
    obtain ⟨hbw5, _, _⟩ := unhide K1 w5 hb15
    have C5 := hide (error_same 3 w5 (unhide HEb w5 hbw5))
    rw [show errV 3 = .iface 58 (.int .i64 3) from rfl] at C5
    rw [hs3, show errV 3 = .iface 58 (.int .i64 3) from rfl]
    clear hs hs3 HSD HSR hd5
    go_wp2_with fail
    refine (unhide C5).mono ?_
    rintro e w6 ⟨rfl, hb6⟩
    go_wp2
    go_ret
    exact ⟨rfl, hbw5.trans (hb6.mono hbw5.size)⟩
theorem bytes_ints : Tryz.prog.bytesOf 3 = 8 := by kernel_rfl

/-! ### The row. -/
set_option maxRecDepth 100000 in
theorem lifted (os : Os) (started : os.Started) (H : Type) (enc : TypeId × Value → H) :
    ReturnsInHanded {} Tryz.checked os 4 .any (fun w args => (Rows.serialAgainSpec.pre enc Tryz.prog Tryz.f4 [] false w args ∧ laidMetH Tryz.prog dLaid w) ∧ sizedMet enc Tryz.prog Tryz.f4 (OpenSpec.ofChange Rows.serialAgainSpec) false w args) (Rows.serialAgainSpec.post enc Tryz.prog Tryz.f4 false true false false) := by
  refine returnsInHanded_of_change_and (C := Tryz.checked) (X := fun w _ => laidMetH Tryz.prog dLaid w) (fun _ _ _ hh h => h.of_heap hh) dOwn started (by kernel_rfl) Tryz.func4
    (ChangeSpec.witness_at (enc := enc) (C := Tryz.checked) (os := os) (X := fun w _ => laidMetH Tryz.prog dLaid w) false (laidWorld os) #[.slice none 0 0, .slice none 0 0, .int .i64 0, .int .i64 0] 8 rfl (by kernel_rfl) (by kernel_rfl) (by kernel_rfl) (by kernel_rfl) (by kernel_rfl) (laidWorld_met os _)) ?_
  intro W base args ds gs before hval0 hW hcnd hsz0 hL _
  have hval : ∀ (j : Nat) t v, Tryz.f4.params[j]? = some t → args[j]? = some v → Value.okWide Tryz.prog W .any base t v := hval0
  have hW' := hW
  obtain ⟨p, q, hA0, hV, rfl, hfz, hnd⟩ := hW
  have hA : DataW.TrodAll enc Tryz.prog W 0 (fun _ => true) true Tryz.f4.params.toList args.toList ds p := hA0
  have hsz : (DataW.weightsEach Tryz.prog (Tryz.f4.params.toList ++ Rows.serialAgainSpec.plain.varTypes Tryz.prog) (ds ++ gs)).all (· ≤ reachBytes) = true := hsz0
  rw [Tryz.params4] at hA hval hsz
  obtain ⟨v0, vs0, d0, ds0, p0, q0, hargs, rfl, rfl, h0, r0⟩ := trodAll_cons hA
  obtain ⟨v1, vs1, d1, ds1, p1, q1, rfl, rfl, rfl, h1, r1⟩ := trodAll_cons r0
  obtain ⟨v2, vs2, d2, ds2, p2, q2, rfl, rfl, rfl, h2, r2⟩ := trodAll_cons r1
  obtain ⟨v3, vs3, d3, ds3, p3, q3, rfl, rfl, rfl, h3, r3⟩ := trodAll_cons r2
  obtain ⟨rfl, rfl, rfl⟩ := trodAll_nil r3
  obtain rfl : args = #[v0, v1, v2, v3] := by cases args; simp_all
  obtain ⟨rfl, rfl⟩ := trodVars_none hV
  simp only [List.append_nil] at hW'
  have hk0 := h0
  have hlt0 : ∀ x ∈ p0, x.block < W.heap.size := fun x hx => hW'.lt x (by simp [hx])
  obtain ⟨A0, n0, c0, l0, rfl, rd0, bd0⟩ := open_is Tryz.underlying23 Tryz.underlying3 (by kernel_rfl) (hval 0 23 v0 rfl rfl) h0 (fun e s he => by have := sized_slice hsz (j := 0) (t := 23) (e := 3) rfl (congrArg some he) Tryz.underlying23; rwa [bytes_ints] at this)
  have hk1 := h1
  have hlt1 : ∀ x ∈ p1, x.block < W.heap.size := fun x hx => hW'.lt x (by simp [hx])
  obtain ⟨A1, n1, c1, l1, rfl, rd1, bd1⟩ := open_is Tryz.underlying23 Tryz.underlying3 (by kernel_rfl) (hval 1 23 v1 rfl rfl) h1 (fun e s he => by have := sized_slice hsz (j := 1) (t := 23) (e := 3) rfl (congrArg some he) Tryz.underlying23; rwa [bytes_ints] at this)
  obtain ⟨a2, rfl, rfl, rfl, w2⟩ := open_int Tryz.underlying3 (hval 2 3 v2 rfl rfl) h2
  obtain ⟨a3, rfl, rfl, rfl, w3⟩ := open_int Tryz.underlying3 (hval 3 3 v3 rfl rfl) h3
  clear hA0 hval0
  refine (walk A0 n0 c0 l0 A1 n1 c1 l1 a2 a3 W (et_of_laid hL) rd0 bd0 rd1 bd1).mono fun e W' ⟨he, hg⟩ => ?_
  subst he
  exact ⟨_, rfl, post_slices (pa := _) (pv := []) hW' hg (by simp) (fun _ _ _ => (trodAll_cons_mk (shut_bool Tryz.underlying4 _) trodAll_mk0)) (trodAll_cons_mk (Below.trod laidOut (by kernel_rfl) (of_decide_eq_true (by kernel_rfl)) hk0 hg hlt0) (trodAll_cons_mk (Below.trod laidOut (by kernel_rfl) (of_decide_eq_true (by kernel_rfl)) hk1 hg hlt1) (trodAll_cons_mk (shut_int Tryz.underlying3 w2) (trodAll_cons_mk (shut_int Tryz.underlying3 w3) trodAll_mk0)))) rfl⟩

theorem over : Rows.SerialAgainSaid :=
  OpenClaim.holds_of_wide 4 Tryz.f4 rfl rfl rfl rfl rfl rfl rfl ⟨rfl, rfl, rfl, rfl, rfl⟩ rfl rfl rfl rfl rfl (by kernel_rfl) Tryz.func4 (by kernel_rfl)
    (of_decide_eq_true (by kernel_rfl)) (by unfold Func.isWrapper; first | (rw [if_pos (by decide +kernel)]; kernel_rfl) | (rw [if_neg (by decide +kernel)]; exact ⟨rfl, rfl⟩))
    (fun os started H enc _ => lifted os started H enc)

/-- The statement: the tied card. -/
theorem proved : Rows.SerialAgainCardSaid :=
  Claim7.holds_tied_plain_at .later [] [.handle] true _ true
    over (fun _ h => by cases h) (by kernel_rfl) (fun _ h => by cases h) serialAgain_row_tie rfl ⟨rfl, rfl⟩ (by kernel_rfl) rfl
    (fun f fn hf hfn => by
      obtain rfl : f = 4 := Option.some.inj ((show Tryz.prog.funcNamed "locklane/lanelaw4.SerialAgain" = some 4 by kernel_rfl).symm.trans hf) |>.symm
      obtain rfl : fn = Tryz.f4 := (Option.some.inj (Tryz.func4.symm.trans hfn)).symm
      exact ⟨by kernel_rfl, fun j t ht => by
        rw [Tryz.params4] at ht
        have hm : t ∈ [23, 3] := by have := Array.mem_of_getElem? ht; simpa using this
        have hall : ([23, 3].all fun u => !Tryz.prog.wantsStandIn u) = true := by kernel_rfl
        exact (show Tryz.prog.wantsStandIn t = false by simpa using List.all_eq_true.1 hall t hm)⟩)
    (by kernel_rfl)
#print axioms proved
end Go.Proofs.YtkpnpkikonlmpaaGreatDoor.serialAgain


/-
  PROVED: lanelaw4.StrictSerial returns true, for all its arguments: deals one behind the other wait for nobody: by whichever way all is told as it was asked, and nobody is aborted. The variable errors.errorType starts as the program's text lays it (the card's tie); no condition beyond the form's own reach.
-/
import Derived.Test.YtjbgjgmdgjnbfaaDoorST1
import Derived.Test.YtjbgjgmdgjnbfaaDoorStrS
import Derived.Test.YtjbgjgmdgjnbfaaDoorPieces
import Derived.Test.YtjbgjgmdgjnbfaaDoorOpen
import Derived.Test.YtjbgjgmdgjnbfaaDoorE1

namespace Go.Proofs.YtjbgjgmdgjnbfaaDoor.strictSerial
open Go.ChangeShapes Go.WideShapes Go.ChangeAt Go.RowKit Go.Proofs.YtjbgjgmdgjnbfaaDoor

theorem rd_nilH (w : World) (B : Nat) : Rd w B 3 none 0 (cellsH []) := ⟨rfl, fun h => absurd h (Nat.lt_irrefl 0)⟩
set_option maxRecDepth 100000 in
set_option maxHeartbeats 2000000 in
theorem walk (A : Option Addr) (n c : Nat) (l : List Int) (a b way : Int) (w : World) (hE : Et w) (hr : Rd w w.heap.size 1 A n (cellsI l)) (hn : n * 8 ≤ 140737488351232) :
    Calls Tryd.prog 3 #[.slice A n c, .int .i64 a, .int .i64 b, .int .i64 way] w fun e w' => e = .returned (.bool true) ∧ Below w.heap.size w w' := by
  have hz0 := hE.pos
  have hm : n ≤ 100000000000000 := by omega
  by_cases hab : a < 1 ∨ 6 < a ∨ b < 1 ∨ 6 < b ∨ way < 0 ∨ 2 < way
  · have hcs : a < 1 ∨ (¬ a < 1 ∧ 6 < a) ∨ (¬ a < 1 ∧ ¬ 6 < a ∧ b < 1) ∨ (¬ a < 1 ∧ ¬ 6 < a ∧ ¬ b < 1 ∧ 6 < b) ∨ (¬ a < 1 ∧ ¬ 6 < a ∧ ¬ b < 1 ∧ ¬ 6 < b ∧ way < 0) ∨ (¬ a < 1 ∧ ¬ 6 < a ∧ ¬ b < 1 ∧ ¬ 6 < b ∧ ¬ way < 0 ∧ 2 < way) := by omega
    have C0 := hide (strict_way none 0 0 [] 3 w (rd_nilH _ _) (by show (checkF []).2 = 0; decide) (.inr (by decide)))
    have CE := hide (fun w1 (hb : Below w.heap.size w w1) => error_same 1 w1 (hE.below hb hz0))
    have e1 : errV 1 = .iface 34 (.int .i64 1) := rfl
    rw [e1] at C0 CE
    clear hab hE hr
    rcases hcs with g1 | ⟨g1, g2⟩ | ⟨g1, g2, g3⟩ | ⟨g1, g2, g3, g4⟩ | ⟨g1, g2, g3, g4, g5⟩ | ⟨g1, g2, g3, g4, g5, g6⟩
    all_goals
      go_enter Tryd.func3, Tryd.ntmps3
      go_wp2_with fail
      refine (unhide C0).mono ?_
      rintro e w1 ⟨rfl, hb1⟩
      go_wp2_with fail
      refine (unhide CE w1 hb1).mono ?_
      rintro e w2 ⟨rfl, hb2⟩
      have hbw2 := hb1.trans (hb2.mono hb1.size)
      go_wp2
      go_ret
      exact ⟨rfl, hbw2⟩
  have g1 : ¬ a < 1 := by omega
  have g2 : ¬ 6 < a := by omega
  have g3 : ¬ b < 1 := by omega
  have g4 : ¬ 6 < b := by omega
  have g5 : ¬ way < 0 := by omega
  have g6 : ¬ 2 < way := by omega
  have hk := pieces_ok (a := a) (b := b) (by omega) (by omega) (order_ok l)
  obtain ⟨s', hrun, h1, h2⟩ := serial_run (a := a) (b := b) (by omega) (by omega) (order_ok l) way
  have hlen := okH_len hk
  have CP := hide (pieces_any A n c l a b w hr hm)
  obtain ⟨no, hno⟩ : ∃ no, (orderF l).length * 3 = no := ⟨_, rfl⟩
  rw [hno] at CP
  obtain ⟨h, hh⟩ : ∃ h, piecesH a b (orderF l) = h := ⟨_, rfl⟩
  rw [hh] at CP hk hrun h1 hlen
  have CS := hide (fun A1 n1 c1 w1 (hr1 : Rd w1 w1.heap.size 3 A1 n1 (cellsH h)) => strict_any A1 n1 c1 h way w1 hr1 hk (by omega) (by omega) 3 s' hrun (by rw [h1]; omega) (by rw [h2]; simp))
  rw [h1, h2] at CS
  have HLN := Lib.hid hlen
  clear hab hE hr hk hrun h1 h2 hh hno hlen
  go_enter Tryd.func3, Tryd.ntmps3
  go_wp2_with fail
  refine (unhide CP).mono ?_
  rintro e w1 ⟨v1, v2, rfl, ho1, ho2, hb1⟩
  obtain ⟨A1, c1, rfl⟩ := own_slice ho1
  obtain ⟨A2, c2, rfl⟩ := own_slice ho2
  have hd1 := rd_own ho1
  have CS1 := hide (unhide CS A1 no c1 w1 hd1)
  clear CP CS
  go_wp2_with fail
  refine (unhide CS1).mono ?_
  rintro e w2 ⟨t1, t2, rfl, ho3, ho4, hb2⟩
  obtain ⟨A3, c3, rfl⟩ := own_slice ho3
  obtain ⟨A4, c4, rfl⟩ := own_slice ho4
  have hd3 := rd_own ho3
  have hd1' := (hd1.below hb2).more hb2.size
  have hlh := hd1.hlen
  have CO := hide (ops_any A3 A1 _ _ c3 c1 h h w2 hd3 hd1' (by have := HLN.out; omega))
  rw [decide_eq_true (rfl : h = h)] at CO
  have hbw2 := hb1.trans (hb2.mono hb1.size)
  clear hd1 hd1' hd3 ho3 ho4 ho1 ho2 CS1 hb1 hb2 hlh
  simp only [List.length_nil]
  generalize h.length = nh at *
  go_wp2_with fail
  refine (unhide CO).mono ?_
  rintro e w3 ⟨rfl, hb3⟩
  have hbw3 := hbw2.trans (hb3.mono hbw2.size)
  go_wp2
  go_ret
  exact ⟨rfl, hbw3⟩

theorem bytes_ints : Tryd.prog.bytesOf 3 = 8 := by kernel_rfl

/-! ### The row. -/
set_option maxRecDepth 100000 in
theorem lifted (os : Os) (started : os.Started) (H : Type) (enc : TypeId × Value → H) :
    ReturnsInHanded {} Tryd.checked os 3 .any (fun w args => (Rows.strictSerialSpec.pre enc Tryd.prog Tryd.f3 [] false w args ∧ laidMetH Tryd.prog dLaid w) ∧ sizedMet enc Tryd.prog Tryd.f3 (OpenSpec.ofChange Rows.strictSerialSpec) false w args) (Rows.strictSerialSpec.post enc Tryd.prog Tryd.f3 false true false false) := by
  refine returnsInHanded_of_change_and (C := Tryd.checked) (X := fun w _ => laidMetH Tryd.prog dLaid w) (fun _ _ _ hh h => h.of_heap hh) dOwn started (by kernel_rfl) Tryd.func3
    (ChangeSpec.witness_at (enc := enc) (C := Tryd.checked) (os := os) (X := fun w _ => laidMetH Tryd.prog dLaid w) false (laidWorld os) #[.slice none 0 0, .int .i64 0, .int .i64 0, .int .i64 0] 8 rfl (by kernel_rfl) (by kernel_rfl) (by kernel_rfl) (by kernel_rfl) (by kernel_rfl) (laidWorld_met os _)) ?_
  intro W base args ds gs before hval0 hW hcnd hsz0 hL _
  have hval : ∀ (j : Nat) t v, Tryd.f3.params[j]? = some t → args[j]? = some v → Value.okWide Tryd.prog W .any base t v := hval0
  have hW' := hW
  obtain ⟨p, q, hA0, hV, rfl, hfz, hnd⟩ := hW
  have hA : DataW.TrodAll enc Tryd.prog W 0 (fun _ => true) true Tryd.f3.params.toList args.toList ds p := hA0
  have hsz : (DataW.weightsEach Tryd.prog (Tryd.f3.params.toList ++ Rows.strictSerialSpec.plain.varTypes Tryd.prog) (ds ++ gs)).all (· ≤ reachBytes) = true := hsz0
  rw [Tryd.params3] at hA hval hsz
  obtain ⟨v0, vs0, d0, ds0, p0, q0, hargs, rfl, rfl, h0, r0⟩ := trodAll_cons hA
  obtain ⟨v1, vs1, d1, ds1, p1, q1, rfl, rfl, rfl, h1, r1⟩ := trodAll_cons r0
  obtain ⟨v2, vs2, d2, ds2, p2, q2, rfl, rfl, rfl, h2, r2⟩ := trodAll_cons r1
  obtain ⟨v3, vs3, d3, ds3, p3, q3, rfl, rfl, rfl, h3, r3⟩ := trodAll_cons r2
  obtain ⟨rfl, rfl, rfl⟩ := trodAll_nil r3
  obtain rfl : args = #[v0, v1, v2, v3] := by cases args; simp_all
  obtain ⟨rfl, rfl⟩ := trodVars_none hV
  simp only [List.append_nil] at hW'
  have hk0 := h0
  have hlt0 : ∀ x ∈ p0, x.block < W.heap.size := fun x hx => hW'.lt x (by simp [hx])
  obtain ⟨A0, n0, c0, l0, rfl, rd0, bd0⟩ := open_is Tryd.underlying22 Tryd.underlying3 (by kernel_rfl) (hval 0 22 v0 rfl rfl) h0 (fun e s he => by have := sized_slice hsz (j := 0) (t := 22) (e := 3) rfl (congrArg some he) Tryd.underlying22; rwa [bytes_ints] at this)
  obtain ⟨a1, rfl, rfl, rfl, w1⟩ := open_int Tryd.underlying3 (hval 1 3 v1 rfl rfl) h1
  obtain ⟨a2, rfl, rfl, rfl, w2⟩ := open_int Tryd.underlying3 (hval 2 3 v2 rfl rfl) h2
  obtain ⟨a3, rfl, rfl, rfl, w3⟩ := open_int Tryd.underlying3 (hval 3 3 v3 rfl rfl) h3
  clear hA0 hval0
  refine (walk A0 n0 c0 l0 a1 a2 a3 W (et_of_laid hL) rd0 bd0).mono fun e W' ⟨he, hg⟩ => ?_
  subst he
  exact ⟨_, rfl, post_slices (pa := _) (pv := []) hW' hg (by simp) (fun _ _ _ => (trodAll_cons_mk (shut_bool Tryd.underlying4 _) trodAll_mk0)) (trodAll_cons_mk (Below.trod laidOut (by kernel_rfl) (of_decide_eq_true (by kernel_rfl)) hk0 hg hlt0) (trodAll_cons_mk (shut_int Tryd.underlying3 w1) (trodAll_cons_mk (shut_int Tryd.underlying3 w2) (trodAll_cons_mk (shut_int Tryd.underlying3 w3) trodAll_mk0)))) rfl⟩

theorem over : Rows.StrictSerialSaid :=
  OpenClaim.holds_of_wide 3 Tryd.f3 rfl rfl rfl rfl rfl rfl rfl ⟨rfl, rfl, rfl, rfl, rfl⟩ rfl rfl rfl rfl rfl (by kernel_rfl) Tryd.func3 (by kernel_rfl)
    (of_decide_eq_true (by kernel_rfl)) (by unfold Func.isWrapper; first | (rw [if_pos (by decide +kernel)]; kernel_rfl) | (rw [if_neg (by decide +kernel)]; exact ⟨rfl, rfl⟩))
    (fun os started H enc _ => lifted os started H enc)

/-- The statement: the tied card. -/
theorem proved : Rows.StrictSerialCardSaid :=
  Claim7.holds_tied_plain_at .later [] [.handle] true _ true
    over (fun _ h => by cases h) (by kernel_rfl) (fun _ h => by cases h) strictSerial_row_tie rfl ⟨rfl, rfl⟩ (by kernel_rfl) rfl
    (fun f fn hf hfn => by
      obtain rfl : f = 3 := Option.some.inj ((show Tryd.prog.funcNamed "locklane/lanelaw4.StrictSerial" = some 3 by kernel_rfl).symm.trans hf) |>.symm
      obtain rfl : fn = Tryd.f3 := (Option.some.inj (Tryd.func3.symm.trans hfn)).symm
      exact ⟨by kernel_rfl, fun j t ht => by
        rw [Tryd.params3] at ht
        have hm : t ∈ [22, 3] := by have := Array.mem_of_getElem? ht; simpa using this
        have hall : ([22, 3].all fun u => !Tryd.prog.wantsStandIn u) = true := by kernel_rfl
        exact (show Tryd.prog.wantsStandIn t = false by simpa using List.all_eq_true.1 hall t hm)⟩)
    (by kernel_rfl)
#print axioms proved
end Go.Proofs.YtjbgjgmdgjnbfaaDoor.strictSerial

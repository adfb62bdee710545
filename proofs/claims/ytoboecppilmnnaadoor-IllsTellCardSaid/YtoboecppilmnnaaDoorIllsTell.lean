
/-
  PROVED: lanelaw3.IllsTell returns true, for every list of ops: what goes wrong in any history, and with which op first, as the reference says. The variable errors.errorType starts as the program's text lays it (the card's tie); no condition beyond the form's own reach.
-/
import Derived.Test.YtoboecppilmnnaaDoorRIlls
import Derived.Test.YtoboecppilmnnaaDoorIllsOf
import Derived.Test.YtoboecppilmnnaaDoorDoor
namespace Go.Proofs.YtoboecppilmnnaaDoor.illsTell
open Go.ChangeShapes Go.WideShapes Go.ChangeAt Go.RowKit Go.Proofs.YtoboecppilmnnaaDoor

set_option maxRecDepth 100000 in
set_option maxHeartbeats 4000000 in
theorem walk_ok (A : Option Addr) (n c : Nat) (h : List HOp) (w : World) (hE : Et w) (hr : Rd w w.heap.size 3 A n (cellsH h)) (hcap : n ≤ c) (hok : okH h) :
    Calls Tryd.prog 8 #[.slice A n c] w fun e w' => e = .returned (.bool true) ∧ Below w.heap.size w w' := by
  have hl := hr.hlen
  have hm : n ≤ 40 := by rw [← hl]; exact okH_len hok
  have hz0 := hE.pos
  have HE := hide hE
  have HOK := Lib.hid hok
  have H0 : Hid ((checkF h).2 = 0) := Lib.hid hok
  obtain ⟨⟨a, b, cc, d⟩, hf⟩ : ∃ f, illsF h = f := ⟨_, rfl⟩
  have HF := Lib.hid hf
  have hvv : (⟨a, b, cc, d⟩ : FacesV).val = .agg #[.bool a, .bool b, .bool cc, .bool d] := rfl
  have HVV := Lib.hid hvv
  obtain ⟨f, i, ev, hcs, hq⟩ : ∃ f i ev : Int, ((f < 0 ∧ i = 0 ∧ ev = 5) ∨ (0 ≤ f ∧ i = f ∧ ev = 0)) ∧ firstR h h.length = f ∧ firstI h = i ∧ firstE h = ev := by
    rw [firstR_all]
    unfold firstI firstE
    cases firstF h with
    | none => exact ⟨-1, 0, 5, .inl ⟨by omega, rfl, rfl⟩, rfl, rfl, rfl⟩
    | some k => exact ⟨k, k, 0, .inr ⟨by omega, rfl, rfl⟩, rfl, rfl, rfl⟩
  have HQ := Lib.hid hq
  have CO := hide (fun w2 (hr2 : Rd w2 w2.heap.size 3 A n (cellsH h)) => illsOf_ok A n c h w2 hr2 hcap hok)
  have CF := hide (fun w2 (hr2 : Rd w2 w2.heap.size 3 A n (cellsH h)) => illsFirst_ok A n c h w2 hr2 hcap hok)
  rw [HF.out, HVV.out] at CO
  rw [HQ.out.2.1, HQ.out.2.2] at CF
  clear hE hok hl hf hvv hq
  go_enter Tryd.func8, Tryd.ntmps8
  go_wp2_with fail
  refine (rright_any A n c h w hr (by omega)).mono ?_
  rw [H0.out]
  rintro e w1 ⟨rfl, hb1⟩
  have hr1 := (hr.below hb1).more hb1.size
  have hW1 := Blk.new w1 67 [.bool false, .bool false, .bool false, .bool false]
  have hba : Below w.heap.size w (w1.alloc (.cells #[.bool false, .bool false, .bool false, .bool false] 67)) := hb1.alloc hb1.size _
  have CR := hide (rills_any A n c h (w1.alloc (.cells #[.bool false, .bool false, .bool false, .bool false] 67)) ((hr1.alloc (Nat.le_refl _) _).more (by simp)) HOK.out)
  rw [HF.out, HVV.out, HQ.out.1] at CR
  have hz1 := hb1.size
  go_wp2_with fail
  refine (unhide CR).mono ?_
  rintro e w2 ⟨rfl, hb2⟩
  have hW2 := hW1.below hb2 (by simp)
  have hbw2 := hba.trans (hb2.mono hba.size)
  have hW3 := (((hW2.put 0 (.bool a)).put 1 (.bool b)).put 2 (.bool cc)).put 3 (.bool d)
  have hbw3 := (((hbw2.setCell (p := ⟨w1.heap.size, 0, none⟩) hz1 (.bool a)).setCell (p := ⟨w1.heap.size, 1, none⟩) hz1 (.bool b)).setCell (p := ⟨w1.heap.size, 2, none⟩) hz1 (.bool cc)).setCell (p := ⟨w1.heap.size, 3, none⟩) hz1 (.bool d)
  have hr3 := (hr.below hbw3).more hbw3.size
  have CO3 := hide (unhide CO _ hr3)
  obtain ⟨y0, y1, y2, y3, z0, z1, z2, z3⟩ := fcells hW2
  clear CR hba hW1 hr1 hb2 hr3 CO
  rcases hcs with ⟨hf0, rfl, rfl⟩ | ⟨hf0, rfl, rfl⟩
  all_goals
    go_wp2_with fail
    refine (unhide CO3).mono ?_
    rintro e w4 ⟨rfl, hb4⟩
    have hW4 := hW3.below hb4 hW3.lt
    have hbw4 := hbw3.trans (hb4.mono hbw3.size)
    have hG5 := Blk.new w4 67 [.bool a, .bool b, .bool cc, .bool d]
    have hW5 := hW4.alloc (.cells #[.bool a, .bool b, .bool cc, .bool d] 67)
    have hbw5 := hbw4.alloc hbw4.size (.cells #[.bool a, .bool b, .bool cc, .bool d] 67)
    have ER := error_any 0 0 (w4.alloc (.cells #[.bool a, .bool b, .bool cc, .bool d] 67)) ((unhide HE).below hbw5 hz0)
    rw [errV_zero, decide_eq_true rfl] at ER
    have HER := hide ER
    clear ER hb4 hW4 CO3 y0 y1 y2 y3 z0 z1 z2 z3 hW3 hW2 hbw3 hbw2
    go_wp2_with fail
    refine (unhide HER).mono ?_
    rintro e w6 ⟨rfl, hb6⟩
    have hbw6 := hbw5.trans (hb6.mono hbw5.size)
    have hG6 := hG5.below hb6 hG5.lt
    have hW6 := hW5.below hb6 hW5.lt
    have hr6 := (hr.below hbw6).more hbw6.size
    obtain ⟨x0, x1, x2, x3, _⟩ := fcells hG6
    obtain ⟨y0, y1, y2, y3, _⟩ := fcells hW6
    have CF6 := hide (unhide CF _ hr6)
    clear hb6 hG5 hW5 hbw5 HER hr6
    go_wp2_with fail
    refine (unhide CF6).mono ?_
    rintro e w7 ⟨rfl, hb7⟩
    have hbw7 := hbw6.trans (hb7.mono hbw6.size)
    have ER := hide (fun ev => error_same ev w7 ((unhide HE).below hbw7 hz0))
    clear hb7 hG6 hW6 x0 x1 x2 x3 y0 y1 y2 y3 CF6
    go_wp2_with fail
    refine Calls.mono (unhide ER _) ?_
    rintro e w8 ⟨rfl, hb8⟩
    have hbw8 := hbw7.trans (hb8.mono hbw7.size)
    go_wp2
    go_ret
    exact ⟨rfl, hbw8⟩

set_option maxRecDepth 100000 in
set_option maxHeartbeats 4000000 in
theorem walk_no (A : Option Addr) (n c : Nat) (h : List HOp) (w : World) (hE : Et w) (hr : Rd w w.heap.size 3 A n (cellsH h)) (hm : n ≤ 6000000000000) (hok : ¬ okH h) :
    Calls Tryd.prog 8 #[.slice A n c] w fun e w' => e = .returned (.bool true) ∧ Below w.heap.size w w' := by
  have hz0 := hE.pos
  have HE := hide hE
  have CO := hide (fun w2 (hr2 : Rd w2 w2.heap.size 3 A n (cellsH h)) => illsOf_no A n c h w2 hr2 hm hok)
  have CF := hide (fun w2 (hr2 : Rd w2 w2.heap.size 3 A n (cellsH h)) => illsFirst_no A n c h w2 hr2 hm hok)
  have CR := hide (rright_any A n c h w hr hm)
  have hne : (checkF h).2 ≠ 0 := hok
  generalize (checkF h).2 = ev at *
  have hne2 : (ev == 0) = false := by simpa using hne
  clear hok hne hE
  go_enter Tryd.func8, Tryd.ntmps8
  go_wp2_with fail
  refine (unhide CR).mono ?_
  rintro e w1 ⟨rfl, hb1⟩
  have hW1 := Blk.new w1 67 [.bool false, .bool false, .bool false, .bool false]
  have hb1a : Below w.heap.size w (w1.alloc (.cells #[.bool false, .bool false, .bool false, .bool false] 67)) := hb1.alloc hb1.size _
  have hra := (hr.below hb1a).more hb1a.size
  clear hb1 CR
  go_wp2_with fail
  refine (unhide CO _ hra).mono ?_
  rintro e w2 ⟨rfl, hb2⟩
  have hbw2 := hb1a.trans (hb2.mono hb1a.size)
  have hW2 := hW1.below hb2 hW1.lt
  have hG2 := Blk.new w2 67 [.bool false, .bool false, .bool false, .bool false]
  have hW3 := hW2.alloc (.cells #[.bool false, .bool false, .bool false, .bool false] 67)
  have hbw3 := hbw2.alloc hbw2.size (.cells #[.bool false, .bool false, .bool false, .bool false] 67)
  have ER := error_any ev ev (w2.alloc (.cells #[.bool false, .bool false, .bool false, .bool false] 67)) ((unhide HE).below hbw3 hz0)
  rw [decide_eq_true rfl] at ER
  have HER := hide ER
  clear ER hb2 hW2 hra hb1a hW1
  go_wp2_with fail
  refine (unhide HER).mono ?_
  rintro e w4 ⟨rfl, hb4⟩
  have hbw4 := hbw3.trans (hb4.mono hbw3.size)
  have hG4 := hG2.below hb4 hG2.lt
  have hW4 := hW3.below hb4 hW3.lt
  have hr4 := (hr.below hbw4).more hbw4.size
  obtain ⟨x0, x1, x2, x3, _⟩ := fcells hG4
  obtain ⟨y0, y1, y2, y3, _⟩ := fcells hW4
  clear hb4 hG2 hW3 hbw3 HER hbw2
  go_wp2_with fail
  refine (unhide CF w4 hr4).mono ?_
  rintro e w5 ⟨rfl, hb5⟩
  have hbw5 := hbw4.trans (hb5.mono hbw4.size)
  have ER := error_any ev ev w5 ((unhide HE).below hbw5 hz0)
  rw [decide_eq_true rfl] at ER
  have HER := hide ER
  clear ER hb5 hr4 hG4 hW4 x0 x1 x2 x3 y0 y1 y2 y3
  go_wp2_with fail
  refine (unhide HER).mono ?_
  rintro e w6 ⟨rfl, hb6⟩
  have hbw6 := hbw5.trans (hb6.mono hbw5.size)
  go_wp2
  go_ret
  exact ⟨rfl, hbw6⟩

theorem walk (A : Option Addr) (n c : Nat) (h : List HOp) (w : World) (hE : Et w) (hr : Rd w w.heap.size 3 A n (cellsH h)) (hn : n * 24 ≤ 140737488351232) (hcap : n ≤ c) :
    Calls Tryd.prog 8 #[.slice A n c] w fun e w' => e = .returned (.bool true) ∧ Below w.heap.size w w' := by
  by_cases hok : okH h
  · exact walk_ok A n c h w hE hr hcap hok
  · exact walk_no A n c h w hE hr (by omega) hok

theorem bytes_opsc : Tryd.prog.bytesOf 24 = 24 := by kernel_rfl

/-! ### The row. -/
set_option maxRecDepth 100000 in
theorem lifted (os : Os) (started : os.Started) (H : Type) (enc : TypeId × Value → H) :
    ReturnsInHanded {} Tryd.checked os 8 .any (fun w args => (Rows.illsTellSpec.pre enc Tryd.prog Tryd.f8 [] false w args ∧ laidMetH Tryd.prog dLaid w) ∧ sizedMet enc Tryd.prog Tryd.f8 (OpenSpec.ofChange Rows.illsTellSpec) false w args) (Rows.illsTellSpec.post enc Tryd.prog Tryd.f8 false true false false) := by
  refine returnsInHanded_of_change_and (C := Tryd.checked) (X := fun w _ => laidMetH Tryd.prog dLaid w) (fun _ _ _ hh h => h.of_heap hh) dOwn started (by kernel_rfl) Tryd.func8
    (ChangeSpec.witness_at (enc := enc) (C := Tryd.checked) (os := os) (X := fun w _ => laidMetH Tryd.prog dLaid w) false (laidWorld os) #[.slice none 0 0] 8 rfl (by kernel_rfl) (by kernel_rfl) (by kernel_rfl) (by kernel_rfl) (by kernel_rfl) (laidWorld_met os _)) ?_
  intro W base args ds gs before hval0 hW hcnd hsz0 hL _
  have hval : ∀ (j : Nat) t v, Tryd.f8.params[j]? = some t → args[j]? = some v → Value.okWide Tryd.prog W .any base t v := hval0
  have hW' := hW
  obtain ⟨p, q, hA0, hV, rfl, hfz, hnd⟩ := hW
  have hA : DataW.TrodAll enc Tryd.prog W 0 (fun _ => true) true Tryd.f8.params.toList args.toList ds p := hA0
  have hsz : (DataW.weightsEach Tryd.prog (Tryd.f8.params.toList ++ Rows.illsTellSpec.plain.varTypes Tryd.prog) (ds ++ gs)).all (· ≤ reachBytes) = true := hsz0
  rw [Tryd.params8] at hA hval hsz
  obtain ⟨v0, vs0, d0, ds0, p0, q0, hargs, rfl, rfl, h0, r0⟩ := trodAll_cons hA
  obtain ⟨rfl, rfl, rfl⟩ := trodAll_nil r0
  obtain rfl : args = #[v0] := by cases args; simp_all
  obtain ⟨rfl, rfl⟩ := trodVars_none hV
  simp only [List.append_nil] at hW'
  have hk0 := h0
  have hlt0 : ∀ x ∈ p0, x.block < W.heap.size := fun x hx => hW'.lt x (by simp [hx])
  obtain ⟨A0, n0, c0, l0, rfl, rd0, bd0, cp0⟩ := open_opsc Tryd.underlying22 Tryd.underlying24 Tryd.underlying3 rfl rfl rfl (by kernel_rfl) (by kernel_rfl) (hval 0 22 v0 rfl rfl) h0 (fun e s he => by have := sized_slice hsz (j := 0) (t := 22) (e := 24) rfl (congrArg some he) Tryd.underlying22; rwa [bytes_opsc] at this)
  clear hA0 hval0
  refine (walk A0 n0 c0 l0 W (et_of_laid hL) rd0 bd0 cp0).mono fun e W' ⟨he, hg⟩ => ?_
  subst he
  exact ⟨_, rfl, post_slices (pa := _) (pv := []) hW' hg (by simp) (fun _ _ _ => (trodAll_cons_mk (shut_bool Tryd.underlying4 _) trodAll_mk0)) (trodAll_cons_mk (Below.trod laidOut (by kernel_rfl) (of_decide_eq_true (by kernel_rfl)) hk0 hg hlt0) trodAll_mk0) rfl⟩

theorem over : Rows.IllsTellSaid :=
  OpenClaim.holds_of_wide 8 Tryd.f8 rfl rfl rfl rfl rfl rfl rfl ⟨rfl, rfl, rfl, rfl, rfl⟩ rfl rfl rfl rfl rfl (by kernel_rfl) Tryd.func8 (by kernel_rfl)
    (of_decide_eq_true (by kernel_rfl)) (by unfold Func.isWrapper; first | (rw [if_pos (by decide +kernel)]; kernel_rfl) | (rw [if_neg (by decide +kernel)]; exact ⟨rfl, rfl⟩))
    (fun os started H enc _ => lifted os started H enc)

/-- The statement: the tied card. -/
theorem proved : Rows.IllsTellCardSaid :=
  Claim7.holds_tied_plain_at .later [] [.handle] true _ true
    over (fun _ h => by cases h) (by kernel_rfl) (fun _ h => by cases h) illsTell_row_tie rfl ⟨rfl, rfl⟩ (by kernel_rfl) rfl
    (fun f fn hf hfn => by
      obtain rfl : f = 8 := Option.some.inj ((show Tryd.prog.funcNamed "locklane/lanelaw3.IllsTell" = some 8 by kernel_rfl).symm.trans hf) |>.symm
      obtain rfl : fn = Tryd.f8 := (Option.some.inj (Tryd.func8.symm.trans hfn)).symm
      exact ⟨by kernel_rfl, fun j t ht => by
        rw [Tryd.params8] at ht
        have hm : t ∈ [22] := by have := Array.mem_of_getElem? ht; simpa using this
        have hall : ([22].all fun u => !Tryd.prog.wantsStandIn u) = true := by kernel_rfl
        exact (show Tryd.prog.wantsStandIn t = false by simpa using List.all_eq_true.1 hall t hm)⟩)
    (by kernel_rfl)
#print axioms proved
end Go.Proofs.YtoboecppilmnnaaDoor.illsTell

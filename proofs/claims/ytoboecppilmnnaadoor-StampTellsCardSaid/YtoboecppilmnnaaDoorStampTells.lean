
/-
  PROVED: lanelaw2.StampTells returns true, for every list of ops, with writes left out or not: what any ops come to by numbers, and who is aborted, as the reference says. The variable errors.errorType starts as the program's text lays it (the card's tie); no condition beyond the form's own reach.
-/
import Derived.Test.YtoboecppilmnnaaDoorRStamp
import Derived.Test.YtoboecppilmnnaaDoorDoor
namespace Go.Proofs.YtoboecppilmnnaaDoor.stampTells
open Go.ChangeShapes Go.WideShapes Go.ChangeAt Go.RowKit Go.Proofs.YtoboecppilmnnaaDoor

theorem stampGo_len (lv : Bool) (l : List HOp) : ∀ (ms : List (Int × Int)) (told : List HOp) (vic : List Int), (stampGo lv ms told vic l).1.length ≤ told.length + l.length ∧ (stampGo lv ms told vic l).2.length ≤ vic.length + l.length := by
  induction l with
  | nil => intros; simp [stampGo]
  | cons o r ih =>
    intro ms told vic
    unfold stampGo
    simp only [List.length_cons]
    split
    · have := ih ms told vic; omega
    · split
      · have := ih ms (told ++ [o]) vic; simp at this; omega
      · split
        · have := ih (ms.set o.item.toNat (lookM (ms.getD o.item.toNat (0, 0)).1 (ms.getD o.item.toNat (0, 0)).2 o lv).2) (told ++ [o]) vic; simp at this ⊢; omega
        · split
          · have := ih (ms.set o.item.toNat (lookM (ms.getD o.item.toNat (0, 0)).1 (ms.getD o.item.toNat (0, 0)).2 o lv).2) (told ++ [⟨o.tx, 4, 0⟩]) (vic ++ [o.tx]); simp at this ⊢; omega
          · have := ih (ms.set o.item.toNat (lookM (ms.getD o.item.toNat (0, 0)).1 (ms.getD o.item.toNat (0, 0)).2 o lv).2) told vic; simp at this ⊢; omega
theorem stamp_len {h : List HOp} (hk : okH h) (lv : Bool) : (stampF lv h).1.length ≤ 40 ∧ (stampF lv h).2.length ≤ 40 := by
  have := stampGo_len lv h (List.replicate 7 (0, 0)) [] []
  have := okH_len hk
  unfold stampF; simp only [List.length_nil] at *; omega

set_option maxHeartbeats 400000 in
theorem stamp_no (A : Option Addr) (n cap : Nat) (h : List HOp) (lv : Bool) (w : World) (hr : Rd w w.heap.size 3 A n (cellsH h)) (hm : n ≤ 6000000000000) (hno : ¬ okH h) :
    Calls Tryd.prog 23 #[.slice A n cap, .bool lv] w fun e w' => e = .returned (.tuple #[.slice none 0 0, .slice none 0 0, errV (checkF h).2]) ∧ Below w.heap.size w w' := by
  have C := right_h A n cap h w hr hm
  rw [ne_errV (show (checkF h).2 ≠ 0 from hno)] at C ⊢
  generalize (checkF h).2 = ev at *
  have HC := hide C
  clear C hno
  go_enter Tryd.func23, Tryd.ntmps23
  go_wp2_with (go_at_call 45; refine (unhide HC).mono ?_; rintro e w1 ⟨rfl, hb1⟩)
  go_ret3
  exact ⟨rfl, hb1⟩

set_option maxRecDepth 100000 in
set_option maxHeartbeats 4000000 in
theorem walk (A : Option Addr) (n c : Nat) (h : List HOp) (lv : Bool) (w : World) (hE : Et w) (hr : Rd w w.heap.size 3 A n (cellsH h)) (hn : n * 24 ≤ 140737488351232) :
    Calls Tryd.prog 5 #[.slice A n c, .bool lv] w fun e w' => e = .returned (.bool true) ∧ Below w.heap.size w w' := by
  have hm : n ≤ 6000000000000 := by omega
  have hz0 := hE.pos
  have HE := hide hE
  clear hn hE
  by_cases hok : okH h
  · have HOK := Lib.hid hok
    have H0 : Hid ((checkF h).2 = 0) := Lib.hid hok
    have HSL := Lib.hid (stamp_len hok lv)
    clear hok
    go_enter Tryd.func5, Tryd.ntmps5
    go_wp2_with fail
    refine (rright_any A n c h w hr hm).mono ?_
    rw [H0.out]
    rintro e w1 ⟨rfl, hb1⟩
    have hr1 := (hr.below hb1).more hb1.size
    go_wp2_with fail
    refine (rstamp_any A n c h lv w1 hr1 HOK.out).mono ?_
    rintro e w2 ⟨v1, v2, m1, m2, rfl, ho1, ho2, hb2⟩
    obtain ⟨A1, c1, rfl⟩ := own_slice ho1
    obtain ⟨A2, c2, rfl⟩ := own_slice ho2
    have hbw2 := hb1.trans (hb2.mono hb1.size)
    have hr2 := (hr.below hbw2).more hbw2.size
    have hd1 := rd_own ho1
    have hd2 := rd_own ho2
    go_wp2_with fail
    refine (stamp_any A n c h lv w2 hr2 HOK.out).mono ?_
    rintro e w3 ⟨v3, v4, m3, m4, rfl, ho3, ho4, hb3⟩
    obtain ⟨A3, c3, rfl⟩ := own_slice ho3
    obtain ⟨A4, c4, rfl⟩ := own_slice ho4
    have hbw3 := hbw2.trans (hb3.mono hbw2.size)
    have hd1b := (hd1.below hb3).more hb3.size
    have hd2b := (hd2.below hb3).more hb3.size
    have hd3 := rd_own ho3
    have hd4 := rd_own ho4
    have hm3 : m3 ≤ 40 := by have := HSL.out.1; rw [← hd3.hlen]; exact this
    have hm4 : m4 ≤ 40 := by have := HSL.out.2; rw [← own_ilen ho4]; exact this
    have ER := error_any 0 0 w3 ((unhide HE).below hbw3 hz0)
    rw [errV_zero, decide_eq_true rfl] at ER
    have HER := hide ER
    clear hr1 hr2 hb1 hb2 hb3 ho1 ho2 ho3 ho4 hd1 hd2 ER
    go_wp2_with fail
    refine (unhide HER).mono ?_
    rintro e w4 ⟨rfl, hb4⟩
    have hbw4 := hbw3.trans (hb4.mono hbw3.size)
    have hd1c := (hd1b.below hb4).more hb4.size
    have hd2c := (hd2b.below hb4).more hb4.size
    have hd3c := (hd3.below hb4).more hb4.size
    have hd4c := (hd4.below hb4).more hb4.size
    clear hb4 HER hd1b hd2b hd3 hd4
    go_wp2_with fail
    refine (ops_any A3 A1 m3 m1 c3 c1 _ _ w4 hd3c hd1c (by omega)).mono ?_
    rw [decide_eq_true rfl]
    rintro e w5 ⟨rfl, hb5⟩
    have hbw5 := hbw4.trans (hb5.mono hbw4.size)
    have hd2d := (hd2c.below hb5).more hb5.size
    have hd4d := (hd4c.below hb5).more hb5.size
    clear hb5 hd1c hd2c hd3c hd4c hbw2 hbw3 hbw4
    go_wp2_with fail
    refine (ints_any A4 A2 m4 m2 c4 c2 _ _ w5 hd4d hd2d (by omega)).mono ?_
    rw [decide_eq_true rfl]
    rintro e w6 ⟨rfl, hb6⟩
    have hbw6 := hbw5.trans (hb6.mono hbw5.size)
    go_wp2
    go_ret
    exact ⟨rfl, hbw6⟩
  · have CV := hide (fun w2 (hr2 : Rd w2 w2.heap.size 3 A n (cellsH h)) => stamp_no A n c h lv w2 hr2 hm hok)
    have CR := hide (rright_any A n c h w hr hm)
    have hne : (checkF h).2 ≠ 0 := hok
    generalize (checkF h).2 = ev at *
    have hne2 : (ev == 0) = false := by simpa using hne
    clear hok hne
    go_enter Tryd.func5, Tryd.ntmps5
    go_wp2_with fail
    refine (unhide CR).mono ?_
    rintro e w1 ⟨rfl, hb1⟩
    have hr1 := (hr.below hb1).more hb1.size
    go_wp2_with fail
    refine (unhide CV w1 hr1).mono ?_
    rintro e w2 ⟨rfl, hb2⟩
    have hbw2 := hb1.trans (hb2.mono hb1.size)
    have ER := error_any ev ev w2 ((unhide HE).below hbw2 hz0)
    rw [decide_eq_true rfl] at ER
    have HER := hide ER
    clear ER hb1 hb2 hr1
    go_wp2_with fail
    refine (unhide HER).mono ?_
    rintro e w3 ⟨rfl, hb3⟩
    have hbw3 := hbw2.trans (hb3.mono hbw2.size)
    clear HER hb3
    go_wp2_with fail
    refine (ops_any none none 0 0 0 0 [] [] w3 Rd.nil Rd.nil (by omega)).mono ?_
    rw [decide_eq_true rfl]
    rintro e w4 ⟨rfl, hb4⟩
    have hbw4 := hbw3.trans (hb4.mono hbw3.size)
    clear hb4
    go_wp2_with fail
    refine (ints_any none none 0 0 0 0 [] [] w4 Rd.nil Rd.nil (by omega)).mono ?_
    rw [decide_eq_true rfl]
    rintro e w5 ⟨rfl, hb5⟩
    have hbw5 := hbw4.trans (hb5.mono hbw4.size)
    go_wp2
    go_ret
    exact ⟨rfl, hbw5⟩
theorem bytes_ops : Tryd.prog.bytesOf 24 = 24 := by kernel_rfl

/-! ### The row. -/
set_option maxRecDepth 100000 in
theorem lifted (os : Os) (started : os.Started) (H : Type) (enc : TypeId × Value → H) :
    ReturnsInHanded {} Tryd.checked os 5 .any (fun w args => (Rows.stampTellsSpec.pre enc Tryd.prog Tryd.f5 [] false w args ∧ laidMetH Tryd.prog dLaid w) ∧ sizedMet enc Tryd.prog Tryd.f5 (OpenSpec.ofChange Rows.stampTellsSpec) false w args) (Rows.stampTellsSpec.post enc Tryd.prog Tryd.f5 false true false false) := by
  refine returnsInHanded_of_change_and (C := Tryd.checked) (X := fun w _ => laidMetH Tryd.prog dLaid w) (fun _ _ _ hh h => h.of_heap hh) dOwn started (by kernel_rfl) Tryd.func5
    (ChangeSpec.witness_at (enc := enc) (C := Tryd.checked) (os := os) (X := fun w _ => laidMetH Tryd.prog dLaid w) false (laidWorld os) #[.slice none 0 0, .bool false] 8 rfl (by kernel_rfl) (by kernel_rfl) (by kernel_rfl) (by kernel_rfl) (by kernel_rfl) (laidWorld_met os _)) ?_
  intro W base args ds gs before hval0 hW hcnd hsz0 hL _
  have hval : ∀ (j : Nat) t v, Tryd.f5.params[j]? = some t → args[j]? = some v → Value.okWide Tryd.prog W .any base t v := hval0
  have hW' := hW
  obtain ⟨p, q, hA0, hV, rfl, hfz, hnd⟩ := hW
  have hA : DataW.TrodAll enc Tryd.prog W 0 (fun _ => true) true Tryd.f5.params.toList args.toList ds p := hA0
  have hsz : (DataW.weightsEach Tryd.prog (Tryd.f5.params.toList ++ Rows.stampTellsSpec.plain.varTypes Tryd.prog) (ds ++ gs)).all (· ≤ reachBytes) = true := hsz0
  rw [Tryd.params5] at hA hval hsz
  obtain ⟨v0, vs0, d0, ds0, p0, q0, hargs, rfl, rfl, h0, r0⟩ := trodAll_cons hA
  obtain ⟨v1, vs1, d1, ds1, p1, q1, rfl, rfl, rfl, h1, r1⟩ := trodAll_cons r0
  obtain ⟨rfl, rfl, rfl⟩ := trodAll_nil r1
  obtain rfl : args = #[v0, v1] := by cases args; simp_all
  obtain ⟨rfl, rfl⟩ := trodVars_none hV
  simp only [List.append_nil] at hW'
  have hk0 := h0
  have hlt0 : ∀ x ∈ p0, x.block < W.heap.size := fun x hx => hW'.lt x (by simp [hx])
  obtain ⟨A0, n0, c0, l0, rfl, rd0, bd0⟩ := open_ops Tryd.underlying22 Tryd.underlying24 Tryd.underlying3 rfl rfl rfl (by kernel_rfl) (by kernel_rfl) (hval 0 22 v0 rfl rfl) h0 (fun e s he => by have := sized_slice hsz (j := 0) (t := 22) (e := 24) rfl (congrArg some he) Tryd.underlying22; rwa [bytes_ops] at this)
  obtain ⟨b1, rfl, rfl, rfl⟩ := open_bool Tryd.underlying4 (hval 1 4 v1 rfl rfl) h1
  clear hA0 hval0
  refine (walk A0 n0 c0 l0 b1 W (et_of_laid hL) rd0 bd0).mono fun e W' ⟨he, hg⟩ => ?_
  subst he
  exact ⟨_, rfl, post_slices (pa := _) (pv := []) hW' hg (by simp) (fun _ _ _ => (trodAll_cons_mk (shut_bool Tryd.underlying4 _) trodAll_mk0)) (trodAll_cons_mk (Below.trod laidOut (by kernel_rfl) (of_decide_eq_true (by kernel_rfl)) hk0 hg hlt0) (trodAll_cons_mk (shut_bool Tryd.underlying4 b1) trodAll_mk0)) rfl⟩

theorem over : Rows.StampTellsSaid :=
  OpenClaim.holds_of_wide 5 Tryd.f5 rfl rfl rfl rfl rfl rfl rfl ⟨rfl, rfl, rfl, rfl, rfl⟩ rfl rfl rfl rfl rfl (by kernel_rfl) Tryd.func5 (by kernel_rfl)
    (of_decide_eq_true (by kernel_rfl)) (by unfold Func.isWrapper; first | (rw [if_pos (by decide +kernel)]; kernel_rfl) | (rw [if_neg (by decide +kernel)]; exact ⟨rfl, rfl⟩))
    (fun os started H enc _ => lifted os started H enc)

/-- The statement: the tied card. -/
theorem proved : Rows.StampTellsCardSaid :=
  Claim7.holds_tied_plain_at .later [] [.handle] true _ true
    over (fun _ h => by cases h) (by kernel_rfl) (fun _ h => by cases h) stampTells_row_tie rfl ⟨rfl, rfl⟩ (by kernel_rfl) rfl
    (fun f fn hf hfn => by
      obtain rfl : f = 5 := Option.some.inj ((show Tryd.prog.funcNamed "locklane/lanelaw2.StampTells" = some 5 by kernel_rfl).symm.trans hf) |>.symm
      obtain rfl : fn = Tryd.f5 := (Option.some.inj (Tryd.func5.symm.trans hfn)).symm
      exact ⟨by kernel_rfl, fun j t ht => by
        rw [Tryd.params5] at ht
        have hm : t ∈ [22, 4] := by have := Array.mem_of_getElem? ht; simpa using this
        have hall : ([22, 4].all fun u => !Tryd.prog.wantsStandIn u) = true := by kernel_rfl
        exact (show Tryd.prog.wantsStandIn t = false by simpa using List.all_eq_true.1 hall t hm)⟩)
    (by kernel_rfl)
#print axioms proved
end Go.Proofs.YtoboecppilmnnaaDoor.stampTells

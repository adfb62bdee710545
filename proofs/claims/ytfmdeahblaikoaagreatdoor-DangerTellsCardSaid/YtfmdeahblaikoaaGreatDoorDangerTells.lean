
/-
  PROVED: lanelaw2.DangerTells returns true, for every list of ops: who read what another one wrote of those that ran at once, who is between, and what any ops come to if nobody may be, as the reference says. The variable errors.errorType starts as the program's text lays it (the card's tie); no condition beyond the form's own reach.
-/
import Derived.Test.YtfmdeahblaikoaaGreatDoorVD2
import Derived.Test.YtfmdeahblaikoaaGreatDoorRAnti
import Derived.Test.YtfmdeahblaikoaaGreatDoorRR1
import Derived.Test.YtfmdeahblaikoaaGreatDoorRRun2
import Derived.Test.YtfmdeahblaikoaaGreatDoorTells3
import Derived.Test.YtfmdeahblaikoaaGreatDoorTellsN
import Derived.Test.YtfmdeahblaikoaaGreatDoorE1

namespace Go.Proofs.YtfmdeahblaikoaaGreatDoor.dangerTells
open Go.ChangeShapes Go.WideShapes Go.ChangeAt Go.RowKit Go.Proofs.YtfmdeahblaikoaaGreatDoor

set_option maxRecDepth 100000 in
set_option maxHeartbeats 8000000 in
theorem walk_ok (A : Option Addr) (n c : Nat) (h : List HOp) (w : World) (hE : Et w) (hr : Rd w w.heap.size 3 A n (cellsH h)) (hn : n * 24 ≤ 140737488351232) (hok : okH h) :
    Calls Tryz.prog 3 #[.slice A n c] w fun e w' => e = .returned (.bool true) ∧ Below w.heap.size w w' := by
  have hm : n ≤ 6000000000000 := by omega
  have hz0 := hE.pos
  have H0 : Hid ((checkF h).2 = 0) := Lib.hid hok
  have CR := hide (rright_any A n c h w hr hm)
  have CQ := hide (fun w1 (hb : Below w.heap.size w w1) => rrun2_any A n c h w1 ((hr.below hb).more hb.size) hok)
  have CX := hide (fun w1 (hb : Below w.heap.size w w1) => dedges_any A n c h w1 ((hr.below hb).more hb.size) hm hok)
  have CP := hide (fun w1 (hb : Below w.heap.size w w1) => dpivots_any A n c h w1 ((hr.below hb).more hb.size) hm hok)
  have CS := hide (fun w1 (hb : Below w.heap.size w w1) => dan_run A n c h w1 ((hr.below hb).more hb.size) hm hok)
  have CE := hide (fun w1 (hb : Below w.heap.size w w1) => tells3_ok A n c h w1 (hE.below hb hz0) ((hr.below hb).more hb.size) hm hok)
  have HE := hide hE
  have HLN := Lib.hid (okH_len hok)
  rw [← ref_snap hok] at CX CP
  rw [← ref_dan hok] at CS
  clear hr hE hok hn
  generalize playV (refR 2) h = s at *
  generalize playV (refR 3) h = s3 at *
  go_enter Tryz.func3, Tryz.ntmps3
  go_wp2_with fail
  refine (unhide CR).mono ?_
  rw [H0.out]
  rintro e w1 ⟨rfl, hb1⟩
  go_wp2_with fail
  refine (unhide CQ w1 hb1).mono ?_
  rintro e w2 ⟨L, tag, rfl, H, I, hb2⟩
  obtain ⟨Ad, cd, hvd⟩ := own_slice H.done
  have hdr := (H.drow hvd).2
  rw [hvd]
  have hbw2 := hb1.trans (hb2.mono hb1.size)
  have hdn : s.dn.length ≤ 41 := by have := I.ok.dn; have := HLN.out; omega
  have hdl : ∀ d ∈ doneD s, d.wrote.length ≤ 41 ∧ d.seen.length ≤ 41 := fun d hd => by
    have h1 := I.ok.deals d (doneD_mem I.nodup I.dnds hd).1
    have := HLN.out
    exact ⟨by have := h1.wrote; omega, by have := h1.seen; omega⟩
  have CA := hide (anti_any Ad s.dn.length cd (doneD s) w2 hdr hdn hdl (by rw [doneD_txs I.nodup I.dnds]; exact I.dnN))
  have HPL : Hid (pivL (sortS ltE (rawP antiD (doneD s))) = pivsD (doneD s)) := Lib.hid (pivL_anti (doneD s))
  generalize sortS ltE (rawP antiD (doneD s)) = EG at *
  generalize pivsD (doneD s) = PV at *
  clear hdl hdr hvd H I hb1 hb2 CR CQ
  go_wp2_with fail
  refine (unhide CA).mono ?_
  rintro e w3 ⟨A3, m3, c3, rfl, hr3, hm3, hb3⟩
  have hbw3 := hbw2.trans (hb3.mono hbw2.size)
  have CPV := hide (rpivots_any A3 m3 c3 EG w3 hr3 (by omega))
  rw [HPL.out] at CPV
  have HR3 := hide (fun w' (hb : Below w3.heap.size w3 w') => (hr3.below hb).more hb.size)
  clear hr3 hb3 hbw2 CA
  go_wp2_with fail
  refine (unhide CPV).mono ?_
  rintro e w4 ⟨A4, m4, c4, rfl, ho4, hm4, hb4⟩
  have hbw4 := hbw3.trans (hb4.mono hbw3.size)
  have hr4 := rd_own ho4
  have HR4 := hide (fun w' (hb : Below w4.heap.size w4 w') => (hr4.below hb).more hb.size)
  have HR3' := hide (fun w' (hb : Below w4.heap.size w4 w') => unhide HR3 w' (hb4.trans (hb.mono hb4.size)))
  clear ho4 hr4 hb4 hbw3 CPV HR3
  go_wp2_with fail
  refine (unhide CX w4 hbw4).mono ?_
  rintro e w5 ⟨A5, m5, c5, rfl, hr5, hm5, hb5⟩
  have hbw5 := hbw4.trans (hb5.mono hbw4.size)
  have ER := error_any 0 0 w5 ((unhide HE).below hbw5 hz0)
  rw [errV_zero, decide_eq_true rfl] at ER
  have HER := hide ER
  clear ER CX
  go_wp2_with fail
  refine (unhide HER).mono ?_
  rintro e w6 ⟨rfl, hb6⟩
  have hb46 := hb5.trans (hb6.mono hb5.size)
  have hbw6 := hbw4.trans (hb46.mono hbw4.size)
  have CG := edgesS_any A5 A3 m5 m3 c5 c3 _ _ w6 ((hr5.below hb6).more hb6.size) (unhide HR3' w6 hb46) (by omega)
  rw [decide_eq_true rfl] at CG
  have HCG := hide CG
  clear CG hr5 hb5 hb6 HER
  go_wp2_with fail
  refine (unhide HCG).mono ?_
  rintro e w7 ⟨rfl, hb7⟩
  have hb47 := hb46.trans (hb7.mono hb46.size)
  have hbw7 := hbw4.trans (hb47.mono hbw4.size)
  clear HCG hb7 hb46 hbw6 hbw5
  go_wp2_with fail
  refine (unhide CP w7 hbw7).mono ?_
  rintro e w8 ⟨A8, m8, c8, rfl, hr8, hm8, hb8⟩
  have hb48 := hb47.trans (hb8.mono hb47.size)
  have hbw8 := hbw4.trans (hb48.mono hbw4.size)
  have ER := error_any 0 0 w8 ((unhide HE).below hbw8 hz0)
  rw [errV_zero, decide_eq_true rfl] at ER
  have HER := hide ER
  clear ER CP hb8 hbw7 hb47
  go_wp2_with fail
  refine (unhide HER).mono ?_
  rintro e w9 ⟨rfl, hb9⟩
  have hb49 := hb48.trans (hb9.mono hb48.size)
  have hbw9 := hbw4.trans (hb49.mono hbw4.size)
  have CG := ints_any A8 A4 m8 m4 c8 c4 _ _ w9 ((hr8.below hb9).more hb9.size) (unhide HR4 w9 hb49) (by omega)
  rw [decide_eq_true rfl] at CG
  have HCG := hide CG
  clear CG hr8 hb9 HER hb48 hbw8
  go_wp2_with fail
  refine (unhide HCG).mono ?_
  rintro e w10 ⟨rfl, hb10⟩
  have hbw10 := hbw9.trans (hb10.mono hbw9.size)
  have CV := hide (unhide CS w10 hbw10)
  clear HCG hb10 CS
  go_wp2_with fail
  refine (unhide CV).mono ?_
  rintro e w11 ⟨A1, c1, A2, c2, b, n1, n2, rfl, h1, h2, h3, hb11, _⟩
  have hbw11 := hbw10.trans (hb11.mono hbw10.size)
  have hBg := Blk.new w11 41 [.slice A1 n1 c1, .slice A2 n2 c2, .slice (some ⟨b, 0, none⟩) 6 6]
  have hbg : Below w11.heap.size w11 (w11.alloc (.cells #[.slice A1 n1 c1, .slice A2 n2 c2, .slice (some ⟨b, 0, none⟩) 6 6] 41)) := (Below.refl _ _).alloc (Nat.le_refl _) _
  have hbw12 := hbw11.trans (hbg.mono hbw11.size)
  have CU := hide (unhide CE _ hbw12 A1 A2 (some ⟨b, 0, none⟩) n1 n2 6 c1 c2 6 ((h1.below hbg).more hbg.size) ((h2.below hbg).more hbg.size) ((h3.below hbg).more hbg.size))
  have z0 := hBg.cellS (i := 0) (v := .slice A1 n1 c1) rfl
  have z1 := hBg.cellS (i := 1) (v := .slice A2 n2 c2) rfl
  have z2 := hBg.cellS (i := 2) (v := .slice (some ⟨b, 0, none⟩) 6 6) rfl
  clear h1 h2 h3 CE CV hBg hbg hb11
  go_wp2_with fail
  refine (unhide CU).mono ?_
  rintro e w13 ⟨rfl, hb13⟩
  have hbw13 := hbw12.trans (hb13.mono hbw12.size)
  go_wp2
  go_ret
  exact ⟨rfl, hbw13⟩

set_option maxRecDepth 100000 in
set_option maxHeartbeats 8000000 in
theorem walk_no (A : Option Addr) (n c : Nat) (h : List HOp) (w : World) (hE : Et w) (hr : Rd w w.heap.size 3 A n (cellsH h)) (hn : n * 24 ≤ 140737488351232) (hok : ¬ okH h) :
    Calls Tryz.prog 3 #[.slice A n c] w fun e w' => e = .returned (.bool true) ∧ Below w.heap.size w w' := by
  have hm : n ≤ 6000000000000 := by omega
  have hz0 := hE.pos
  have CR := hide (rright_any A n c h w hr hm)
  have CX := hide (fun w1 (hb : Below w.heap.size w w1) => dedges_no A n c h w1 ((hr.below hb).more hb.size) hm hok)
  have CP := hide (fun w1 (hb : Below w.heap.size w w1) => dpivots_no A n c h w1 ((hr.below hb).more hb.size) hm hok)
  have CS := hide (fun w1 (hb : Below w.heap.size w w1) => dan_no A n c h w1 ((hr.below hb).more hb.size) hm hok)
  have CE := hide (fun w1 (hb : Below w.heap.size w w1) => tells_no 3 A n c h w1 (hE.below hb hz0) ((hr.below hb).more hb.size) hm hok)
  have HE := hide hE
  have hne : (checkF h).2 ≠ 0 := hok
  have HNE := Lib.hid (ne_errV hne)
  clear hr hE hn hok
  generalize (checkF h).2 = ev at *
  have hne2 : (ev == 0) = false := by simpa using hne
  have HERR := hide (fun w1 (hb : Below w.heap.size w w1) => error_any ev ev w1 ((unhide HE).below hb hz0))
  rw [decide_eq_true rfl] at HERR
  rw [HNE.out] at CX CP CS CE HERR
  clear hne HE
  go_enter Tryz.func3, Tryz.ntmps3
  go_wp2_with fail
  refine (unhide CR).mono ?_
  rintro e w1 ⟨rfl, hb1⟩
  go_wp2_with fail
  refine (unhide CX w1 hb1).mono ?_
  rintro e w4 ⟨rfl, hb4⟩
  have hbw4 := hb1.trans (hb4.mono hb1.size)
  clear hb4
  go_wp2_with fail
  refine (unhide HERR w4 hbw4).mono ?_
  rintro e w5 ⟨rfl, hb5⟩
  have hbw5 := hbw4.trans (hb5.mono hbw4.size)
  have CG := edgesS_any none none 0 0 0 0 [] [] w5 Rd.nil Rd.nil (by omega)
  rw [decide_eq_true rfl] at CG
  have HCG := hide CG
  clear CG hb5
  go_wp2_with fail
  refine (unhide HCG).mono ?_
  rintro e w6 ⟨rfl, hb6⟩
  have hbw6 := hbw5.trans (hb6.mono hbw5.size)
  clear hb6
  go_wp2_with fail
  refine (unhide CP w6 hbw6).mono ?_
  rintro e w7 ⟨rfl, hb7⟩
  have hbw7 := hbw6.trans (hb7.mono hbw6.size)
  clear hb7
  go_wp2_with fail
  refine (unhide HERR w7 hbw7).mono ?_
  rintro e w8 ⟨rfl, hb8⟩
  have hbw8 := hbw7.trans (hb8.mono hbw7.size)
  have CG := ints_any none none 0 0 0 0 [] [] w8 Rd.nil Rd.nil (by omega)
  rw [decide_eq_true rfl] at CG
  have HCG := hide CG
  clear CG hb8
  go_wp2_with fail
  refine (unhide HCG).mono ?_
  rintro e w9 ⟨rfl, hb9⟩
  have hbw9 := hbw8.trans (hb9.mono hbw8.size)
  clear hb9
  go_wp2_with fail
  refine (unhide CS w9 hbw9).mono ?_
  rintro e w10 ⟨rfl, hb10⟩
  have hbw10 := hbw9.trans (hb10.mono hbw9.size)
  have hBg := Blk.new w10 41 [.slice none 0 0, .slice none 0 0, .slice none 0 0]
  have hbg : Below w10.heap.size w10 (w10.alloc (.cells #[.slice none 0 0, .slice none 0 0, .slice none 0 0] 41)) := (Below.refl _ _).alloc (Nat.le_refl _) _
  have hbw11 := hbw10.trans (hbg.mono hbw10.size)
  have CU := hide (unhide CE _ hbw11)
  have z0 := hBg.cellS (i := 0) (v := .slice none 0 0) rfl
  have z1 := hBg.cellS (i := 1) (v := .slice none 0 0) rfl
  have z2 := hBg.cellS (i := 2) (v := .slice none 0 0) rfl
  clear CX CP CS CE hBg hbg hb10
  go_wp2_with fail
  refine (unhide CU).mono ?_
  rintro e w12 ⟨rfl, hb12⟩
  have hbw12 := hbw11.trans (hb12.mono hbw11.size)
  go_wp2
  go_ret
  exact ⟨rfl, hbw12⟩
theorem walk (A : Option Addr) (n c : Nat) (h : List HOp) (w : World) (hE : Et w) (hr : Rd w w.heap.size 3 A n (cellsH h)) (hn : n * 24 ≤ 140737488351232) :
    Calls Tryz.prog 3 #[.slice A n c] w fun e w' => e = .returned (.bool true) ∧ Below w.heap.size w w' := by
  by_cases hok : okH h
  · exact walk_ok A n c h w hE hr hn hok
  · exact walk_no A n c h w hE hr hn hok
theorem bytes_ops : Tryz.prog.bytesOf 58 = 24 := by kernel_rfl

/-! ### The row. -/
set_option maxRecDepth 100000 in
theorem lifted (os : Os) (started : os.Started) (H : Type) (enc : TypeId × Value → H) :
    ReturnsInHanded {} Tryz.checked os 3 .any (fun w args => (Rows.dangerTellsSpec.pre enc Tryz.prog Tryz.f3 [] false w args ∧ laidMetH Tryz.prog dLaid w) ∧ sizedMet enc Tryz.prog Tryz.f3 (OpenSpec.ofChange Rows.dangerTellsSpec) false w args) (Rows.dangerTellsSpec.post enc Tryz.prog Tryz.f3 false true false false) := by
  refine returnsInHanded_of_change_and (C := Tryz.checked) (X := fun w _ => laidMetH Tryz.prog dLaid w) (fun _ _ _ hh h => h.of_heap hh) dOwn started (by kernel_rfl) Tryz.func3
    (ChangeSpec.witness_at (enc := enc) (C := Tryz.checked) (os := os) (X := fun w _ => laidMetH Tryz.prog dLaid w) false (laidWorld os) #[.slice none 0 0] 8 rfl (by kernel_rfl) (by kernel_rfl) (by kernel_rfl) (by kernel_rfl) (by kernel_rfl) (laidWorld_met os _)) ?_
  intro W base args ds gs before hval0 hW hcnd hsz0 hL _
  have hval : ∀ (j : Nat) t v, Tryz.f3.params[j]? = some t → args[j]? = some v → Value.okWide Tryz.prog W .any base t v := hval0
  have hW' := hW
  obtain ⟨p, q, hA0, hV, rfl, hfz, hnd⟩ := hW
  have hA : DataW.TrodAll enc Tryz.prog W 0 (fun _ => true) true Tryz.f3.params.toList args.toList ds p := hA0
  have hsz : (DataW.weightsEach Tryz.prog (Tryz.f3.params.toList ++ Rows.dangerTellsSpec.plain.varTypes Tryz.prog) (ds ++ gs)).all (· ≤ reachBytes) = true := hsz0
  rw [Tryz.params3] at hA hval hsz
  obtain ⟨v0, vs0, d0, ds0, p0, q0, hargs, rfl, rfl, h0, r0⟩ := trodAll_cons hA
  obtain ⟨rfl, rfl, rfl⟩ := trodAll_nil r0
  obtain rfl : args = #[v0] := by cases args; simp_all
  obtain ⟨rfl, rfl⟩ := trodVars_none hV
  simp only [List.append_nil] at hW'
  have hk0 := h0
  have hlt0 : ∀ x ∈ p0, x.block < W.heap.size := fun x hx => hW'.lt x (by simp [hx])
  obtain ⟨A0, n0, c0, l0, rfl, rd0, bd0⟩ := open_ops Tryz.underlying22 Tryz.underlying58 Tryz.underlying3 rfl rfl rfl (by kernel_rfl) (by kernel_rfl) (hval 0 22 v0 rfl rfl) h0 (fun e s he => by have := sized_slice hsz (j := 0) (t := 22) (e := 58) rfl (congrArg some he) Tryz.underlying22; rwa [bytes_ops] at this)
  clear hA0 hval0
  refine (walk A0 n0 c0 l0 W (et_of_laid hL) rd0 bd0).mono fun e W' ⟨he, hg⟩ => ?_
  subst he
  exact ⟨_, rfl, post_slices (pa := _) (pv := []) hW' hg (by simp) (fun _ _ _ => (trodAll_cons_mk (shut_bool Tryz.underlying4 _) trodAll_mk0)) (trodAll_cons_mk (Below.trod laidOut (by kernel_rfl) (of_decide_eq_true (by kernel_rfl)) hk0 hg hlt0) trodAll_mk0) rfl⟩

theorem over : Rows.DangerTellsSaid :=
  OpenClaim.holds_of_wide 3 Tryz.f3 rfl rfl rfl rfl rfl rfl rfl ⟨rfl, rfl, rfl, rfl, rfl⟩ rfl rfl rfl rfl rfl (by kernel_rfl) Tryz.func3 (by kernel_rfl)
    (of_decide_eq_true (by kernel_rfl)) (by unfold Func.isWrapper; first | (rw [if_pos (by decide +kernel)]; kernel_rfl) | (rw [if_neg (by decide +kernel)]; exact ⟨rfl, rfl⟩))
    (fun os started H enc _ => lifted os started H enc)

/-- The statement: the tied card. -/
theorem proved : Rows.DangerTellsCardSaid :=
  Claim7.holds_tied_plain_at .later [] [.handle] true _ true
    over (fun _ h => by cases h) (by kernel_rfl) (fun _ h => by cases h) dangerTells_row_tie rfl ⟨rfl, rfl⟩ (by kernel_rfl) rfl
    (fun f fn hf hfn => by
      obtain rfl : f = 3 := Option.some.inj ((show Tryz.prog.funcNamed "locklane/lanelaw2.DangerTells" = some 3 by kernel_rfl).symm.trans hf) |>.symm
      obtain rfl : fn = Tryz.f3 := (Option.some.inj (Tryz.func3.symm.trans hfn)).symm
      exact ⟨by kernel_rfl, fun j t ht => by
        rw [Tryz.params3] at ht
        have hm : t ∈ [22] := by have := Array.mem_of_getElem? ht; simpa using this
        have hall : ([22].all fun u => !Tryz.prog.wantsStandIn u) = true := by kernel_rfl
        exact (show Tryz.prog.wantsStandIn t = false by simpa using List.all_eq_true.1 hall t hm)⟩)
    (by kernel_rfl)
#print axioms proved
end Go.Proofs.YtfmdeahblaikoaaGreatDoor.dangerTells


/-
  PROVED: lanelaw3.TreeTells returns true, for every tree and every list of grips: which grip is wrong, and how, and which deals come behind which, as the reference says. The variable errors.errorType starts as the program's text lays it (the card's tie); no condition beyond the form's own reach.
-/
import Derived.Test.YtfmdeahblaikoaaDoorTR3
import Derived.Test.YtfmdeahblaikoaaDoorRR1
import Derived.Test.YtfmdeahblaikoaaDoorOpenG
import Derived.Test.YtfmdeahblaikoaaDoorE1

namespace Go.Proofs.YtfmdeahblaikoaaDoor.treeTells
open Go.ChangeShapes Go.WideShapes Go.ChangeAt Go.RowKit Go.Proofs.YtfmdeahblaikoaaDoor

set_option maxRecDepth 100000 in
set_option maxHeartbeats 4000000 in
theorem walk_ok (Au : Option Addr) (nu cu : Nat) (up : List Int) (Al : Option Addr) (nl cl : Nat) (l : List GOp) (w : World) (hE : Et w) (hu : Rd w w.heap.size 1 Au nu (cellsI up)) (_hn : nu * 8 ≤ 140737488351232) (hcap : nu ≤ cu) (hr : Rd w w.heap.size 3 Al nl (cellsG l)) (hnl : nl * 24 ≤ 140737488351232) (hcl : nl ≤ cl) (hok : (legalF up l).2 = 0) :
    Calls Tryd.prog 5 #[.slice Au nu cu, .slice Al nl cl] w fun e w' => e = .returned (.bool true) ∧ Below w.heap.size w w' := by
  have hml : nl ≤ 1000000000000000 := by omega
  have hz0 := hE.pos
  have CT := hide (rtree_any Au nu cu up w w.heap.size hu)
  have CK := hide (tcheck_any Au nu cu up w w.heap.size hu hcap)
  have CG := hide (fun w1 (hb : Below w.heap.size w w1) => rgrips_any Au nu cu up Al nl cl l w1 ((hu.below hb).more hb.size) ((hr.below hb).more hb.size))
  have CL := hide (fun w1 (hb : Below w.heap.size w w1) => legal_any Au nu cu up Al nl cl l w1 ((hu.below hb).more hb.size) hcap ((hr.below hb).more hb.size) hml)
  have h40 : nl ≤ 40 := by rw [← hr.glen]; exact legal_len hok
  have CR := hide (fun w1 (hb : Below w.heap.size w w1) => rgripEdges_any Al nl cl l w1 ((hr.below hb).more hb.size) h40)
  have CX := hide (fun w1 (hb : Below w.heap.size w w1) => tedges_any Au nu cu up Al nl cl l w1 ((hu.below hb).more hb.size) hcap ((hr.below hb).more hb.size) hcl hml hok)
  rw [hok, show errV 0 = .nilIface from rfl] at CL
  rw [hok] at CG
  have HE := hide (fun x w1 (hb : Below w.heap.size w w1) => error_any x x w1 (hE.below hb hz0))
  clear hE hu hr hok
  generalize treeE up = E at *
  generalize (legalF up l).1 = at_ at *
  have HEE := hide (unhide HE E w (Below.refl _ _))
  rw [decide_eq_true rfl] at HEE
  generalize errV E = vE at *
  have HEF := hide (unhide HE 0)
  rw [decide_eq_true rfl] at HEF
  rw [errV_zero] at HEF
  clear HE
  go_enter Tryd.func5, Tryd.ntmps5
  go_wp2_with fail
  refine (unhide CT).mono ?_
  rintro e w1 ⟨rfl, rfl⟩
  go_wp2_with fail
  refine (unhide CK).mono ?_
  rintro e w1 ⟨rfl, rfl⟩
  go_wp2_with fail
  refine (unhide HEE).mono ?_
  rintro e w2 ⟨rfl, hb2⟩
  clear CT CK HEE
  go_wp2_with fail
  refine (unhide CG w2 hb2).mono ?_
  rintro e w3 ⟨rfl, hb3⟩
  have hbw3 := hb2.trans (hb3.mono hb2.size)
  clear hb3
  go_wp2_with fail
  refine (unhide CL w3 hbw3).mono ?_
  rintro e w4 ⟨rfl, hb4⟩
  have hbw4 := hbw3.trans (hb4.mono hbw3.size)
  clear hb4
  go_wp2_with fail
  refine (unhide HEF w4 hbw4).mono ?_
  rintro e w5 ⟨rfl, hb5⟩
  have hbw5 := hbw4.trans (hb5.mono hbw4.size)
  clear hb5 CG CL
  go_wp2_with fail
  refine (unhide CR w5 hbw5).mono ?_
  rintro e w6 ⟨A6, m6, c6, rfl, hr6, hm6, hb6⟩
  have hbw6 := hbw5.trans (hb6.mono hbw5.size)
  have HR6 := hide (fun w' (hb : Below w6.heap.size w6 w') => (hr6.below hb).more hb.size)
  clear hb6 hr6 CR
  go_wp2_with fail
  refine (unhide CX w6 hbw6).mono ?_
  rintro e w7 ⟨A7, m7, c7, rfl, hr7, hm7, hb7⟩
  have hbw7 := hbw6.trans (hb7.mono hbw6.size)
  clear CX
  go_wp2_with fail
  refine (unhide HEF w7 hbw7).mono ?_
  rintro e w8 ⟨rfl, hb8⟩
  have hbw8 := hbw7.trans (hb8.mono hbw7.size)
  have CS := edgesS_any A7 A6 m7 m6 c7 c6 _ _ w8 ((hr7.below hb8).more hb8.size) (unhide HR6 w8 (hb7.trans (hb8.mono hb7.size))) (by omega)
  rw [decide_eq_true rfl] at CS
  have HCS := hide CS
  clear CS hr7 hb7 hb8 HEF HR6
  go_wp2_with fail
  refine (unhide HCS).mono ?_
  rintro e w9 ⟨rfl, hb9⟩
  have hbw9 := hbw8.trans (hb9.mono hbw8.size)
  go_wp2
  go_ret
  exact ⟨rfl, hbw9⟩

set_option maxRecDepth 100000 in
set_option maxHeartbeats 4000000 in
theorem walk_no (Au : Option Addr) (nu cu : Nat) (up : List Int) (Al : Option Addr) (nl cl : Nat) (l : List GOp) (w : World) (hE : Et w) (hu : Rd w w.heap.size 1 Au nu (cellsI up)) (_hn : nu * 8 ≤ 140737488351232) (hcap : nu ≤ cu) (hr : Rd w w.heap.size 3 Al nl (cellsG l)) (hnl : nl * 24 ≤ 140737488351232) (_hcl : nl ≤ cl) (hok : (legalF up l).2 ≠ 0) :
    Calls Tryd.prog 5 #[.slice Au nu cu, .slice Al nl cl] w fun e w' => e = .returned (.bool true) ∧ Below w.heap.size w w' := by
  have hml : nl ≤ 1000000000000000 := by omega
  have hz0 := hE.pos
  have CT := hide (rtree_any Au nu cu up w w.heap.size hu)
  have CK := hide (tcheck_any Au nu cu up w w.heap.size hu hcap)
  have CG := hide (fun w1 (hb : Below w.heap.size w w1) => rgrips_any Au nu cu up Al nl cl l w1 ((hu.below hb).more hb.size) ((hr.below hb).more hb.size))
  have CL := hide (fun w1 (hb : Below w.heap.size w w1) => legal_any Au nu cu up Al nl cl l w1 ((hu.below hb).more hb.size) hcap ((hr.below hb).more hb.size) hml)
  have CX := hide (fun w1 (hb : Below w.heap.size w w1) => tedges_no Au nu cu up Al nl cl l w1 ((hu.below hb).more hb.size) hcap ((hr.below hb).more hb.size) hml hok)
  have hok2 : ((legalF up l).2 == 0) = false := by simpa using hok
  have HE := hide (fun x w1 (hb : Below w.heap.size w w1) => error_any x x w1 (hE.below hb hz0))
  clear hE hu hr hok
  generalize treeE up = E at *
  generalize (legalF up l).1 = at_ at *
  generalize (legalF up l).2 = F at *
  have HEE := hide (unhide HE E w (Below.refl _ _))
  rw [decide_eq_true rfl] at HEE
  generalize errV E = vE at *
  have HEF := hide (unhide HE F)
  rw [decide_eq_true rfl] at HEF
  generalize errV F = vF at *
  clear HE
  go_enter Tryd.func5, Tryd.ntmps5
  go_wp2_with fail
  refine (unhide CT).mono ?_
  rintro e w1 ⟨rfl, rfl⟩
  go_wp2_with fail
  refine (unhide CK).mono ?_
  rintro e w1 ⟨rfl, rfl⟩
  go_wp2_with fail
  refine (unhide HEE).mono ?_
  rintro e w2 ⟨rfl, hb2⟩
  clear CT CK HEE
  go_wp2_with fail
  refine (unhide CG w2 hb2).mono ?_
  rintro e w3 ⟨rfl, hb3⟩
  have hbw3 := hb2.trans (hb3.mono hb2.size)
  clear hb3
  go_wp2_with fail
  refine (unhide CL w3 hbw3).mono ?_
  rintro e w4 ⟨rfl, hb4⟩
  have hbw4 := hbw3.trans (hb4.mono hbw3.size)
  clear hb4
  go_wp2_with fail
  refine (unhide HEF w4 hbw4).mono ?_
  rintro e w5 ⟨rfl, hb5⟩
  have hbw5 := hbw4.trans (hb5.mono hbw4.size)
  clear hb5 CG CL
  go_wp2_with fail
  refine (unhide CX w5 hbw5).mono ?_
  rintro e w7 ⟨rfl, hb7⟩
  have hbw7 := hbw5.trans (hb7.mono hbw5.size)
  clear CX hb7
  go_wp2_with fail
  refine (unhide HEF w7 hbw7).mono ?_
  rintro e w8 ⟨rfl, hb8⟩
  have hbw8 := hbw7.trans (hb8.mono hbw7.size)
  have CS := edgesS_any none none 0 0 0 0 [] [] w8 Rd.nil Rd.nil (by omega)
  rw [decide_eq_true rfl] at CS
  have HCS := hide CS
  clear CS hb8 HEF
  go_wp2_with fail
  refine (unhide HCS).mono ?_
  rintro e w9 ⟨rfl, hb9⟩
  have hbw9 := hbw8.trans (hb9.mono hbw8.size)
  go_wp2
  go_ret
  exact ⟨rfl, hbw9⟩

theorem walk (Au : Option Addr) (nu cu : Nat) (up : List Int) (Al : Option Addr) (nl cl : Nat) (l : List GOp) (w : World) (hE : Et w) (hu : Rd w w.heap.size 1 Au nu (cellsI up)) (hn : nu * 8 ≤ 140737488351232) (hcap : nu ≤ cu) (hr : Rd w w.heap.size 3 Al nl (cellsG l)) (hnl : nl * 24 ≤ 140737488351232) (hcl : nl ≤ cl) :
    Calls Tryd.prog 5 #[.slice Au nu cu, .slice Al nl cl] w fun e w' => e = .returned (.bool true) ∧ Below w.heap.size w w' := by
  by_cases hok : (legalF up l).2 = 0
  · exact walk_ok Au nu cu up Al nl cl l w hE hu hn hcap hr hnl hcl hok
  · exact walk_no Au nu cu up Al nl cl l w hE hu hn hcap hr hnl hcl hok
theorem bytes_gripsc : Tryd.prog.bytesOf 115 = 24 := by kernel_rfl
theorem bytes_intsc : Tryd.prog.bytesOf 3 = 8 := by kernel_rfl

/-! ### The row. -/
set_option maxRecDepth 100000 in
theorem lifted (os : Os) (started : os.Started) (H : Type) (enc : TypeId × Value → H) :
    ReturnsInHanded {} Tryd.checked os 5 .any (fun w args => (Rows.treeTellsSpec.pre enc Tryd.prog Tryd.f5 [] false w args ∧ laidMetH Tryd.prog dLaid w) ∧ sizedMet enc Tryd.prog Tryd.f5 (OpenSpec.ofChange Rows.treeTellsSpec) false w args) (Rows.treeTellsSpec.post enc Tryd.prog Tryd.f5 false true false false) := by
  refine returnsInHanded_of_change_and (C := Tryd.checked) (X := fun w _ => laidMetH Tryd.prog dLaid w) (fun _ _ _ hh h => h.of_heap hh) dOwn started (by kernel_rfl) Tryd.func5
    (ChangeSpec.witness_at (enc := enc) (C := Tryd.checked) (os := os) (X := fun w _ => laidMetH Tryd.prog dLaid w) false (laidWorld os) #[.slice none 0 0, .slice none 0 0] 8 rfl (by kernel_rfl) (by kernel_rfl) (by kernel_rfl) (by kernel_rfl) (by kernel_rfl) (laidWorld_met os _)) ?_
  intro W base args ds gs before hval0 hW hcnd hsz0 hL _
  have hval : ∀ (j : Nat) t v, Tryd.f5.params[j]? = some t → args[j]? = some v → Value.okWide Tryd.prog W .any base t v := hval0
  have hW' := hW
  obtain ⟨p, q, hA0, hV, rfl, hfz, hnd⟩ := hW
  have hA : DataW.TrodAll enc Tryd.prog W 0 (fun _ => true) true Tryd.f5.params.toList args.toList ds p := hA0
  have hsz : (DataW.weightsEach Tryd.prog (Tryd.f5.params.toList ++ Rows.treeTellsSpec.plain.varTypes Tryd.prog) (ds ++ gs)).all (· ≤ reachBytes) = true := hsz0
  rw [Tryd.params5] at hA hval hsz
  obtain ⟨v0, vs0, d0, ds0, p0, q0, hargs, rfl, rfl, h0, r0⟩ := trodAll_cons hA
  obtain ⟨v1, vs1, d1, ds1, p1, q1, rfl, rfl, rfl, h1, r1⟩ := trodAll_cons r0
  obtain ⟨rfl, rfl, rfl⟩ := trodAll_nil r1
  obtain rfl : args = #[v0, v1] := by cases args; simp_all
  obtain ⟨rfl, rfl⟩ := trodVars_none hV
  simp only [List.append_nil] at hW'
  have hk0 := h0
  have hlt0 : ∀ x ∈ p0, x.block < W.heap.size := fun x hx => hW'.lt x (by simp [hx])
  obtain ⟨A0, n0, c0, l0, rfl, rd0, bd0, cp0⟩ := open_isc Tryd.underlying23 Tryd.underlying3 (by kernel_rfl) (hval 0 23 v0 rfl rfl) h0 (fun e s he => by have := sized_slice hsz (j := 0) (t := 23) (e := 3) rfl (congrArg some he) Tryd.underlying23; rwa [bytes_intsc] at this)
  have hk1 := h1
  have hlt1 : ∀ x ∈ p1, x.block < W.heap.size := fun x hx => hW'.lt x (by simp [hx])
  obtain ⟨A1, n1, c1, l1, rfl, rd1, bd1, cp1⟩ := open_gripsc Tryd.underlying58 Tryd.underlying115 Tryd.underlying3 Tryd.underlying4 rfl rfl rfl (by kernel_rfl) (by kernel_rfl) (hval 1 58 v1 rfl rfl) h1 (fun e s he => by have := sized_slice hsz (j := 1) (t := 58) (e := 115) rfl (congrArg some he) Tryd.underlying58; rwa [bytes_gripsc] at this)
  clear hA0 hval0
  refine (walk A0 n0 c0 l0 A1 n1 c1 l1 W (et_of_laid hL) rd0 bd0 cp0 rd1 bd1 cp1).mono fun e W' ⟨he, hg⟩ => ?_
  subst he
  exact ⟨_, rfl, post_slices (pa := _) (pv := []) hW' hg (by simp) (fun _ _ _ => (trodAll_cons_mk (shut_bool Tryd.underlying4 _) trodAll_mk0)) (trodAll_cons_mk (Below.trod laidOut (by kernel_rfl) (of_decide_eq_true (by kernel_rfl)) hk0 hg hlt0) (trodAll_cons_mk (Below.trod laidOut (by kernel_rfl) (of_decide_eq_true (by kernel_rfl)) hk1 hg hlt1) trodAll_mk0)) rfl⟩

theorem over : Rows.TreeTellsSaid :=
  OpenClaim.holds_of_wide 5 Tryd.f5 rfl rfl rfl rfl rfl rfl rfl ⟨rfl, rfl, rfl, rfl, rfl⟩ rfl rfl rfl rfl rfl (by kernel_rfl) Tryd.func5 (by kernel_rfl)
    (of_decide_eq_true (by kernel_rfl)) (by unfold Func.isWrapper; first | (rw [if_pos (by decide +kernel)]; kernel_rfl) | (rw [if_neg (by decide +kernel)]; exact ⟨rfl, rfl⟩))
    (fun os started H enc _ => lifted os started H enc)

/-- The statement: the tied card. -/
theorem proved : Rows.TreeTellsCardSaid :=
  Claim7.holds_tied_plain_at .later [] [.handle] true _ true
    over (fun _ h => by cases h) (by kernel_rfl) (fun _ h => by cases h) treeTells_row_tie rfl ⟨rfl, rfl⟩ (by kernel_rfl) rfl
    (fun f fn hf hfn => by
      obtain rfl : f = 5 := Option.some.inj ((show Tryd.prog.funcNamed "locklane/lanelaw3.TreeTells" = some 5 by kernel_rfl).symm.trans hf) |>.symm
      obtain rfl : fn = Tryd.f5 := (Option.some.inj (Tryd.func5.symm.trans hfn)).symm
      exact ⟨by kernel_rfl, fun j t ht => by
        rw [Tryd.params5] at ht
        have hm : t ∈ [23, 58] := by have := Array.mem_of_getElem? ht; simpa using this
        have hall : ([23, 58].all fun u => !Tryd.prog.wantsStandIn u) = true := by kernel_rfl
        exact (show Tryd.prog.wantsStandIn t = false by simpa using List.all_eq_true.1 hall t hm)⟩)
    (by kernel_rfl)
#print axioms proved
end Go.Proofs.YtfmdeahblaikoaaDoor.treeTells

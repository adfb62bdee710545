
/-
  PROVED: lanelaw3.IllsFaces returns true, for every list of ops: a history is strict just if nothing is dirty, and rigorous just if nothing is unrepeated either; what is lost was unrepeated; ahead of the first op that goes wrong all is rigorous. The variable errors.errorType starts as the program's text lays it (the card's tie); no condition beyond the form's own reach.
-/
import Derived.Test.YtoboecppilmnnaaDoorIllsOf
import Derived.Test.YtoboecppilmnnaaDoorFacesNo
import Derived.Test.YtoboecppilmnnaaDoorDoor
import Derived.Deep.DeepCutAuto
import Derived.Deep.CutBlock
namespace Go.Proofs.YtoboecppilmnnaaDoor.illsFaces
open Go.ChangeShapes Go.WideShapes Go.ChangeAt Go.RowKit Go.Proofs.YtoboecppilmnnaaDoor

/-! ### The plain law. -/
def oneH4 : List HOp := [⟨1, 1, 1⟩, ⟨2, 2, 1⟩, ⟨1, 2, 1⟩, ⟨1, 3, 0⟩]
theorem fact : okH oneH4 ∧ illsF oneH4 = ⟨true, false, true, true⟩ := ⟨by show (checkF _).2 = 0; decide, by decide⟩
theorem faces_ills {h : List HOp} (hk : okH h) : ∃ R c dw dr un lo, illsF h = ⟨dw, dr, un, lo⟩ ∧ facesF h = ⟨R, c, !dw && !dr, (!dw && !dr) && !un⟩ ∧ (lo = true → un = true) := by
  refine ⟨recF h, scanB cautT [] h, anyL dwT h h.length, anyL drT h h.length, anyL unT h h.length, lostF h, rfl, ?_, lost_un hk⟩
  have h1 := strict_eq hk h.length
  have h2 := rig_eq hk h.length
  rw [List.take_length] at h1 h2
  unfold facesF
  rw [h1, h2]
  cases anyL dwT h h.length <;> cases anyL drT h h.length <;> cases anyL unT h h.length <;> rfl
theorem first_none {h : List HOp} (hk : okH h) (hf : firstF h = none) : (facesF h).rig = true ∧ firstI h = 0 ∧ firstE h = 5 := by
  refine ⟨?_, by unfold firstI; rw [hf], by unfold firstE; rw [hf]⟩
  have h1 := facesF_rig hk h.length
  rw [List.take_length] at h1
  rw [h1]
  cases ha : anyL illT h h.length
  · rfl
  · obtain ⟨i, o, _, h3, h4⟩ := anyL_iff.1 ha
    have := firstGo_none hf i o h3
    rw [List.nil_append, h4] at this; cases this
theorem first_some {h : List HOp} (hk : okH h) {k : Nat} (hf : firstF h = some k) : (facesF h).rig = false ∧ firstI h = k ∧ firstE h = 0 ∧ k < h.length ∧ (facesF (h.take k)).rig = true ∧ (facesF (h.take (k + 1))).rig = false := by
  obtain ⟨j, o, h0, h1, h2, h3⟩ := firstGo_some hf
  obtain rfl : j = k := by omega
  rw [List.nil_append] at h2
  have hl := (List.getElem?_eq_some_iff.1 h1).1
  have a1 : ∀ m, j < m → anyL illT h m = true := fun m hm => anyL_iff.2 ⟨j, o, hm, h1, h2⟩
  refine ⟨?_, by unfold firstI; rw [hf], by unfold firstE; rw [hf], hl, ?_, ?_⟩
  · have h4 := facesF_rig hk h.length
    rw [List.take_length, a1 _ hl] at h4; exact h4
  · rw [facesF_rig hk]
    cases ha : anyL illT h j
    · rfl
    · obtain ⟨i, o', h5, h6, h7⟩ := anyL_iff.1 ha
      have := h3 i o' h5 h6
      rw [List.nil_append, h7] at this; cases this
  · rw [facesF_rig hk, a1 _ (by omega)]; rfl

/-! ### The walk. -/
set_option maxRecDepth 100000 in
set_option maxHeartbeats 8000000 in
theorem walk (A : Option Addr) (n c : Nat) (h : List HOp) (w : World) (hE : Et w) (hr : Rd w w.heap.size 3 A n (cellsH h)) (hn : n * 24 ≤ 140737488351232) (hcap : n ≤ c) :
    Calls Tryd.prog 11 #[.slice A n c] w fun e w' => e = .returned (.bool true) ∧ Below w.heap.size w w' := by
  have hm : n ≤ 6000000000000 := by omega
  have hz0 := hE.pos
  have HE := hide hE
  have HL := Lib.hid hr.hlen
  have HFO := Lib.hid fact
  clear hn hE
  go_enter Tryd.func11, Tryd.ntmps11
  go_wp2_with fail
  have hr0 := rd_new w 24 (size := 3) (n := 4) (cellsH oneH4) rfl
  have CI := hide (fun W hR => illsOf_ok (some ⟨w.heap.size, 0, none⟩) 4 4 oneH4 W hR (Nat.le_refl _) HFO.out.1)
  rw [HFO.out.2] at CI
  have hvv : (⟨true, false, true, true⟩ : FacesV).val = .agg #[.bool true, .bool false, .bool true, .bool true] := rfl
  rw [hvv] at CI
  refine Calls.mono (unhide CI _ ?_) ?_
  · exact hr0.more (by simp)
  clear hr0 CI hvv
  rintro e w1 ⟨rfl, hb1⟩
  have hbw1 : Below w.heap.size w w1 := ((Below.refl _ _).alloc (Nat.le_refl _) _).trans (hb1.mono (by simp))
  have hO1 := Blk.new w1 67 [.bool true, .bool false, .bool true, .bool true]
  obtain ⟨x0, x1, x2, x3, _⟩ := fcells hO1
  have hbw2 := hbw1.alloc hbw1.size (.cells #[.bool true, .bool false, .bool true, .bool true] 67)
  have hr2 := (hr.below hbw2).more hbw2.size
  clear hb1
  by_cases hok : okH h
  · have HOK := Lib.hid hok
    obtain ⟨R, cc, dw, dr, un, lo, hi, hf, hlu⟩ := faces_ills hok
    have HI := Lib.hid hi
    have HF := Lib.hid hf
    have HLU := Lib.hid hlu
    clear hok hi hf hlu
    have CI := hide (illsOf_ok A n c h _ hr2 hcap HOK.out)
    rw [HI.out] at CI
    have hvv : (⟨dw, dr, un, lo⟩ : FacesV).val = .agg #[.bool dw, .bool dr, .bool un, .bool lo] := rfl
    rw [hvv] at CI
    go_wp2_with fail
    refine (unhide CI).mono ?_
    rintro e w3 ⟨rfl, hb3⟩
    have hbw3 := hbw2.trans (hb3.mono hbw2.size)
    have hI3 := Blk.new w3 67 [.bool dw, .bool dr, .bool un, .bool lo]
    have hbw4 := hbw3.alloc hbw3.size (.cells #[.bool dw, .bool dr, .bool un, .bool lo] 67)
    have hr4 := (hr.below hbw4).more hbw4.size
    have CF := hide (facesOf_ok A n c h _ hr4 hcap HOK.out)
    rw [HF.out] at CF
    have hvv2 : (⟨R, cc, !dw && !dr, (!dw && !dr) && !un⟩ : FacesV).val = .agg #[.bool R, .bool cc, .bool (!dw && !dr), .bool ((!dw && !dr) && !un)] := rfl
    rw [hvv2] at CF
    clear hb3 hr2 CI hvv hvv2 x0 x1 x2 x3 hO1 hbw1 hbw2 hbw3 hr4
    go_wp2_with fail
    refine (unhide CF).mono ?_
    rintro e w5 ⟨rfl, hb5⟩
    have hI5 := hI3.below hb5 hI3.lt
    have hbw5 := hbw4.trans (hb5.mono hbw4.size)
    have hF6 := Blk.new w5 73 [.bool R, .bool cc, .bool (!dw && !dr), .bool ((!dw && !dr) && !un)]
    have hI6 := hI5.alloc (.cells #[.bool R, .bool cc, .bool (!dw && !dr), .bool ((!dw && !dr) && !un)] 73)
    have hbw6 := hbw5.alloc hbw5.size (.cells #[.bool R, .bool cc, .bool (!dw && !dr), .bool ((!dw && !dr) && !un)] 73)
    clear hb5 hI3 hbw4 hI5 hbw5 CF
    go_upto_region 9 with fail
    generalize w5.alloc (.cells #[.bool R, .bool cc, .bool (!dw && !dr), .bool ((!dw && !dr) && !un)] 73) = wa at *
    go_cut [99] (fun s99 wx => s99 = .bool false ∧ wx = wa)
    case first =>
      obtain ⟨x0, x1, x2, x3, _⟩ := fcells hI6
      obtain ⟨y0, y1, y2, y3, _⟩ := fcells hF6
      have hcs : (un = false ∧ lo = false) ∨ (un = true ∧ lo = false) ∨ (un = true ∧ lo = true) := by
        have := HLU.out
        cases un <;> cases lo <;> simp at this ⊢
      clear hF6 hI6
      rcases hcs with ⟨rfl, rfl⟩ | ⟨rfl, rfl⟩ | ⟨rfl, rfl⟩ <;> cases dw <;> cases dr
      all_goals
        go_wp2
        go_meet
        case rel => exact ⟨rfl, rfl⟩
    case rest =>
      obtain ⟨rfl, rfl⟩ := hcut
      have hr6 := (hr.below hbw6).more hbw6.size
      have CX := hide (illsFirst_ok A n c h _ hr6 hcap HOK.out)
      rcases hff : firstF h with _ | k
      · obtain ⟨g1, g2, g3⟩ := first_none HOK.out hff
        rw [HF.out] at g1
        rw [g2, g3] at CX
        have HG : Hid (((!dw && !dr) && !un) = true) := Lib.hid g1
        have e5 : errV 5 = .iface 86 (.int .i64 5) := rfl
        rw [e5] at CX
        obtain ⟨y0, y1, y2, y3, _⟩ := fcells hF6
        rw [HG.out] at y3
        clear g1 g2 g3 hff e5 y0 y1 y2
        go_wp2_with fail
        refine (unhide CX).mono ?_
        rintro e w7 ⟨rfl, hb7⟩
        have hbw7 := hbw6.trans (hb7.mono hbw6.size)
        have hF7 := hF6.below hb7 hF6.lt
        obtain ⟨y0, y1, y2, y3, _⟩ := fcells hF7
        rw [HG.out] at y3
        have ER := error_any 5 5 w7 ((unhide HE).below hbw7 hz0)
        rw [decide_eq_true rfl, show errV 5 = .iface 86 (.int .i64 5) from rfl] at ER
        have HER := hide ER
        clear ER hb7 y0 y1 y2 hF6 hF7
        go_wp2_with fail
        refine (unhide HER).mono ?_
        rintro e w8 ⟨rfl, hb8⟩
        go_wp2
        go_ret
        exact ⟨rfl, hbw7.trans (hb8.mono hbw7.size)⟩
      · obtain ⟨g1, g2, g3, g4, g5, g6⟩ := first_some HOK.out hff
        rw [HF.out] at g1
        rw [g2, g3, errV_zero] at CX
        have HG : Hid (((!dw && !dr) && !un) = false) := Lib.hid g1
        have hkn : k < n := by rw [← HL.out]; exact g4
        obtain ⟨⟨R1, c1, s1, r1⟩, hf1⟩ : ∃ f, facesF (h.take k) = f := ⟨_, rfl⟩
        obtain ⟨⟨R2, c2, s2, r2⟩, hf2⟩ : ∃ f, facesF (h.take (k + 1)) = f := ⟨_, rfl⟩
        rw [hf1] at g5
        rw [hf2] at g6
        simp only at g5 g6
        subst g5 g6
        have HF1 := Lib.hid hf1
        have HF2 := Lib.hid hf2
        have HK1 := Lib.hid (okH_take HOK.out k)
        have HK2 := Lib.hid (okH_take HOK.out (k + 1))
        obtain ⟨b, off, rfl, _, _⟩ := hr.2 (by omega)
        clear g1 g2 g3 g4 hff hf1 hf2
        go_wp2_with fail
        refine (unhide CX).mono ?_
        rintro e w7 ⟨rfl, hb7⟩
        have hbw7 := hbw6.trans (hb7.mono hbw6.size)
        have hF7 := hF6.below hb7 hF6.lt
        obtain ⟨y0, y1, y2, y3, _⟩ := fcells hF7
        rw [HG.out] at y3
        have hr7 := (hr.below hbw7).more hbw7.size
        have CF := hide (facesOf_ok (some ⟨b, off, none⟩) k c (h.take k) w7 (hr7.take (by omega)) (by omega) HK1.out)
        rw [HF1.out] at CF
        have hvv : (⟨R1, c1, s1, true⟩ : FacesV).val = .agg #[.bool R1, .bool c1, .bool s1, .bool true] := rfl
        rw [hvv] at CF
        have hkc : k ≤ c := by omega
        have hkc1 : k + 1 ≤ c := by omega
        clear hb7 y0 y1 y2 hF6 hF7 hvv hr7 hr6 CX
        go_wp2_with fail
        refine (unhide CF).mono ?_
        rintro e w8 ⟨rfl, hb8⟩
        have hbw8 := hbw7.trans (hb8.mono hbw7.size)
        have hA8 := Blk.new w8 73 [.bool R1, .bool c1, .bool s1, .bool true]
        have hbw9 := hbw8.alloc hbw8.size (.cells #[.bool R1, .bool c1, .bool s1, .bool true] 73)
        have hr9 := (hr.below hbw9).more hbw9.size
        have CF2 := hide (facesOf_ok (some ⟨b, off, none⟩) (k + 1) c (h.take (k + 1)) _ (hr9.take (by omega)) (by omega) HK2.out)
        rw [HF2.out] at CF2
        have hvv : (⟨R2, c2, s2, false⟩ : FacesV).val = .agg #[.bool R2, .bool c2, .bool s2, .bool false] := rfl
        rw [hvv] at CF2
        clear hb8 CF hvv y3 hbw7 hbw8 hr9
        go_wp2_with fail
        refine (unhide CF2).mono ?_
        rintro e w10 ⟨rfl, hb10⟩
        have hbw10 := hbw9.trans (hb10.mono hbw9.size)
        have hA10 := hA8.below hb10 hA8.lt
        have hB10 := Blk.new w10 73 [.bool R2, .bool c2, .bool s2, .bool false]
        have hA11 := hA10.alloc (.cells #[.bool R2, .bool c2, .bool s2, .bool false] 73)
        have hbw11 := hbw10.alloc hbw10.size (.cells #[.bool R2, .bool c2, .bool s2, .bool false] 73)
        obtain ⟨y0, y1, y2, y3, _⟩ := fcells hA11
        obtain ⟨z0, z1, z2, z3, _⟩ := fcells hB10
        clear hb10 CF2 hA10 hA8 hbw9 hbw10
        go_wp2
        go_ret
        exact ⟨rfl, hbw11⟩
  · have CI := hide (illsOf_no A n c h _ hr2 hm hok)
    have CF := hide (fun W hR => facesOf_no A n c h W hR hm hok)
    rw [ne_errV (show (checkF h).2 ≠ 0 from hok)] at CI CF
    generalize (checkF h).2 = ev at *
    clear hok
    go_wp2_with fail
    refine (unhide CI).mono ?_
    rintro e w3 ⟨rfl, hb3⟩
    have hbw3 := hbw2.trans (hb3.mono hbw2.size)
    have hbw4 := hbw3.alloc hbw3.size (.cells #[.bool false, .bool false, .bool false, .bool false] 67)
    have hr4 := (hr.below hbw4).more hbw4.size
    have CF2 := hide (unhide CF _ hr4)
    clear hb3 hr2 CI x0 x1 x2 x3 hO1 hbw1 hbw2 hbw3 hr4 CF
    go_wp2_with fail
    refine (unhide CF2).mono ?_
    rintro e w5 ⟨rfl, hb5⟩
    have hbw5 := hbw4.trans (hb5.mono hbw4.size)
    have hbw6 := hbw5.alloc hbw5.size (.cells #[.bool false, .bool false, .bool false, .bool false] 73)
    go_wp2
    go_ret
    exact ⟨rfl, hbw6⟩
theorem bytes_opsc : Tryd.prog.bytesOf 24 = 24 := by kernel_rfl

/-! ### The row. -/
set_option maxRecDepth 100000 in
theorem lifted (os : Os) (started : os.Started) (H : Type) (enc : TypeId × Value → H) :
    ReturnsInHanded {} Tryd.checked os 11 .any (fun w args => (Rows.illsFacesSpec.pre enc Tryd.prog Tryd.f11 [] false w args ∧ laidMetH Tryd.prog dLaid w) ∧ sizedMet enc Tryd.prog Tryd.f11 (OpenSpec.ofChange Rows.illsFacesSpec) false w args) (Rows.illsFacesSpec.post enc Tryd.prog Tryd.f11 false true false false) := by
  refine returnsInHanded_of_change_and (C := Tryd.checked) (X := fun w _ => laidMetH Tryd.prog dLaid w) (fun _ _ _ hh h => h.of_heap hh) dOwn started (by kernel_rfl) Tryd.func11
    (ChangeSpec.witness_at (enc := enc) (C := Tryd.checked) (os := os) (X := fun w _ => laidMetH Tryd.prog dLaid w) false (laidWorld os) #[.slice none 0 0] 8 rfl (by kernel_rfl) (by kernel_rfl) (by kernel_rfl) (by kernel_rfl) (by kernel_rfl) (laidWorld_met os _)) ?_
  intro W base args ds gs before hval0 hW hcnd hsz0 hL _
  have hval : ∀ (j : Nat) t v, Tryd.f11.params[j]? = some t → args[j]? = some v → Value.okWide Tryd.prog W .any base t v := hval0
  have hW' := hW
  obtain ⟨p, q, hA0, hV, rfl, hfz, hnd⟩ := hW
  have hA : DataW.TrodAll enc Tryd.prog W 0 (fun _ => true) true Tryd.f11.params.toList args.toList ds p := hA0
  have hsz : (DataW.weightsEach Tryd.prog (Tryd.f11.params.toList ++ Rows.illsFacesSpec.plain.varTypes Tryd.prog) (ds ++ gs)).all (· ≤ reachBytes) = true := hsz0
  rw [Tryd.params11] at hA hval hsz
  obtain ⟨v0, vs0, d0, ds0, p0, q0, hargs, rfl, rfl, h0, r0⟩ := trodAll_cons hA
  obtain ⟨rfl, rfl, rfl⟩ := trodAll_nil r0
  obtain rfl : args = #[v0] := by cases args; simp_all
  obtain ⟨rfl, rfl⟩ := trodVars_none hV
  simp only [List.append_nil] at hW'
  have hk0 := h0
  have hlt0 : ∀ x ∈ p0, x.block < W.heap.size := fun x hx => hW'.lt x (by simp [hx])
  obtain ⟨A0, n0, c0, l0, rfl, rd0, bd0, cp0⟩ := open_opsc Tryd.underlying22 Tryd.underlying24 Tryd.underlying3 rfl rfl rfl (by kernel_rfl) (by kernel_rfl) (hval 0 22 v0 rfl rfl) h0 (fun e s he => by have := sized_slice hsz (j := 0) (t := 22) (e := 24) rfl (congrArg some he) Tryd.underlying22; rwa [bytes_opsc] at this)
  clear hA0 hval0
  refine (walk A0 n0 c0 l0 W (et_of_laid hL) rd0 bd0 cp0).mono fun e W' ⟨he, hg⟩ => ?_
  subst he
  exact ⟨_, rfl, post_slices (pa := _) (pv := []) hW' hg (by simp) (fun _ _ _ => (trodAll_cons_mk (shut_bool Tryd.underlying4 _) trodAll_mk0)) (trodAll_cons_mk (Below.trod laidOut (by kernel_rfl) (of_decide_eq_true (by kernel_rfl)) hk0 hg hlt0) trodAll_mk0) rfl⟩

theorem over : Rows.IllsFacesSaid :=
  OpenClaim.holds_of_wide 11 Tryd.f11 rfl rfl rfl rfl rfl rfl rfl ⟨rfl, rfl, rfl, rfl, rfl⟩ rfl rfl rfl rfl rfl (by kernel_rfl) Tryd.func11 (by kernel_rfl)
    (of_decide_eq_true (by kernel_rfl)) (by unfold Func.isWrapper; first | (rw [if_pos (by decide +kernel)]; kernel_rfl) | (rw [if_neg (by decide +kernel)]; exact ⟨rfl, rfl⟩))
    (fun os started H enc _ => lifted os started H enc)

/-- The statement: the tied card. -/
theorem proved : Rows.IllsFacesCardSaid :=
  Claim7.holds_tied_plain_at .later [] [.handle] true _ true
    over (fun _ h => by cases h) (by kernel_rfl) (fun _ h => by cases h) illsFaces_row_tie rfl ⟨rfl, rfl⟩ (by kernel_rfl) rfl
    (fun f fn hf hfn => by
      obtain rfl : f = 11 := Option.some.inj ((show Tryd.prog.funcNamed "locklane/lanelaw3.IllsFaces" = some 11 by kernel_rfl).symm.trans hf) |>.symm
      obtain rfl : fn = Tryd.f11 := (Option.some.inj (Tryd.func11.symm.trans hfn)).symm
      exact ⟨by kernel_rfl, fun j t ht => by
        rw [Tryd.params11] at ht
        have hm : t ∈ [22] := by have := Array.mem_of_getElem? ht; simpa using this
        have hall : ([22].all fun u => !Tryd.prog.wantsStandIn u) = true := by kernel_rfl
        exact (show Tryd.prog.wantsStandIn t = false by simpa using List.all_eq_true.1 hall t hm)⟩)
    (by kernel_rfl)
#print axioms proved
end Go.Proofs.YtoboecppilmnnaaDoor.illsFaces
